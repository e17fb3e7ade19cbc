/- The functions are the program. No conditions. -/
import Derived.Test.YtafhipglhnfgnaaProg
import Derived.KernelRfl
import Derived.Test.YtafhipglhnfgnaaF0
import Derived.Test.YtafhipglhnfgnaaF1
namespace Go.Proofs.Ytafhipglhnfgnaa.Ab
theorem c_laws_FnProves:compFun false Try.prog Try.f3=some F_laws_FnProves.bare:=by kernel_rfl
theorem c_laws_big:compFun false Try.prog Try.f10=some F_laws_big.bare:=by kernel_rfl
theorem c_spec_DrawAnyProof:compFun true Try.prog Try.f11=some F_spec_DrawAnyProof.bare:=by kernel_rfl
theorem c_impl_ProofOk:compFun false Try.prog Try.f12=some F_impl_ProofOk.bare:=by kernel_rfl
theorem c_spec_ProofOk:compFun false Try.prog Try.f13=some F_spec_ProofOk.bare:=by kernel_rfl
theorem c_impl_Bound:compFun false Try.prog Try.f14=some F_impl_Bound.bare:=by kernel_rfl
theorem c_spec_BestSums:compFun false Try.prog Try.f15=some F_spec_BestSums.bare:=by kernel_rfl
theorem c_spec_DrawRightMatch:compFun false Try.prog Try.f16=some F_spec_DrawRightMatch.bare:=by kernel_rfl
theorem c_spec_Solve:compFun false Try.prog Try.f17=some F_spec_Solve.bare:=by kernel_rfl
theorem c_impl_Certifies:compFun false Try.prog Try.f18=some F_impl_Certifies.bare:=by kernel_rfl
theorem c_spec_Certifies:compFun false Try.prog Try.f19=some F_spec_Certifies.bare:=by kernel_rfl
theorem c_spec_MatchOk:compFun false Try.prog Try.f20=some F_spec_MatchOk.bare:=by kernel_rfl
theorem c_laws_worth:compFun false Try.prog Try.f21=some F_laws_worth.bare:=by kernel_rfl
theorem c_spec_l01New:compFun false Try.prog Try.f47=some F_spec_l01New.bare:=by kernel_rfl
theorem c_spec_l08Graph:compFun false Try.prog Try.f48=some F_spec_l08Graph.bare:=by kernel_rfl
theorem c_spec_l01Once:compFun false Try.prog Try.f49=some F_spec_l01Once.bare:=by kernel_rfl
theorem c_spec_l01Below:compFun false Try.prog Try.f50=some F_spec_l01Below.bare:=by kernel_rfl
theorem c_impl_GraphOk:compFun false Try.prog Try.f51=some F_impl_GraphOk.bare:=by kernel_rfl
theorem c_impl_in:compFun false Try.prog Try.f52=some F_impl_in.bare:=by kernel_rfl
theorem c_impl_groupOk:compFun false Try.prog Try.f53=some F_impl_groupOk.bare:=by kernel_rfl
theorem c_impl_within:compFun false Try.prog Try.f54=some F_impl_within.bare:=by kernel_rfl
theorem c_impl_slackOf:compFun false Try.prog Try.f55=some F_impl_slackOf.bare:=by kernel_rfl
theorem c_spec_GraphOk:compFun false Try.prog Try.f56=some F_spec_GraphOk.bare:=by kernel_rfl
theorem c_spec_l01In:compFun false Try.prog Try.f57=some F_spec_l01In.bare:=by kernel_rfl
theorem c_spec_l11Nested:compFun false Try.prog Try.f58=some F_spec_l11Nested.bare:=by kernel_rfl
theorem c_spec_l11Slack:compFun false Try.prog Try.f59=some F_spec_l11Slack.bare:=by kernel_rfl
theorem c_impl_weight:compFun false Try.prog Try.f60=some F_impl_weight.bare:=by kernel_rfl
theorem c_spec_l09Best:compFun false Try.prog Try.f61=some F_spec_l09Best.bare:=by kernel_rfl
theorem c_spec_l09Match:compFun false Try.prog Try.f62=some F_spec_l09Match.bare:=by kernel_rfl
theorem c_spec_l10Solve:compFun false Try.prog Try.f63=some F_spec_l10Solve.bare:=by kernel_rfl
theorem c_spec_l10Groups:compFun false Try.prog Try.f64=some F_spec_l10Groups.bare:=by kernel_rfl
theorem c_spec_l10IsTop:compFun false Try.prog Try.f65=some F_spec_l10IsTop.bare:=by kernel_rfl
theorem c_spec_l10Open:compFun false Try.prog Try.f66=some F_spec_l10Open.bare:=by kernel_rfl
theorem c_impl_MatchOk:compFun false Try.prog Try.f67=some F_impl_MatchOk.bare:=by kernel_rfl
theorem c_impl_Scalar:compFun false Try.prog Try.f68=some F_impl_Scalar.bare:=by kernel_rfl
theorem c_impl_edgeAt:compFun false Try.prog Try.f69=some F_impl_edgeAt.bare:=by kernel_rfl
theorem c_spec_l11Worth:compFun false Try.prog Try.f70=some F_spec_l11Worth.bare:=by kernel_rfl
theorem c_spec_l11Sum:compFun false Try.prog Try.f71=some F_spec_l11Sum.bare:=by kernel_rfl
theorem c_spec_l08At:compFun false Try.prog Try.f72=some F_spec_l08At.bare:=by kernel_rfl
theorem c_spec_l03In:compFun false Try.prog Try.f73=some F_spec_l03In.bare:=by kernel_rfl
theorem c_spec_EdgeAt:compFun false Try.prog Try.f74=some F_spec_EdgeAt.bare:=by kernel_rfl
theorem c_spec_Scalar:compFun false Try.prog Try.f75=some F_spec_Scalar.bare:=by kernel_rfl
theorem c_impl_hasInt:compFun false Try.prog Try.f80=some F_impl_hasInt.bare:=by kernel_rfl
theorem c_spec_l01PickInt:compFun false Try.prog Try.f90=some F_spec_l01PickInt.bare:=by kernel_rfl
theorem c_spec_l01Byte:compFun false Try.prog Try.f94=some F_spec_l01Byte.bare:=by kernel_rfl
theorem c_spec_l08Worth:compFun false Try.prog Try.f100=some F_spec_l08Worth.bare:=by kernel_rfl
theorem c_spec_Better:compFun false Try.prog Try.f101=some F_spec_Better.bare:=by kernel_rfl
theorem c_spec_l10Round:compFun false Try.prog Try.f102=some F_spec_l10Round.bare:=by kernel_rfl
theorem c_spec_l10Within:compFun false Try.prog Try.f103=some F_spec_l10Within.bare:=by kernel_rfl
theorem c_spec_l10Ahead:compFun false Try.prog Try.f104=some F_spec_l10Ahead.bare:=by kernel_rfl
theorem c_spec_l10Base:compFun false Try.prog Try.f105=some F_spec_l10Base.bare:=by kernel_rfl
theorem c_spec_l10Label:compFun false Try.prog Try.f120=some F_spec_l10Label.bare:=by kernel_rfl
theorem c_spec_l10Adjust:compFun false Try.prog Try.f121=some F_spec_l10Adjust.bare:=by kernel_rfl
theorem c_spec_l10Top:compFun false Try.prog Try.f122=some F_spec_l10Top.bare:=by kernel_rfl
theorem c_spec_l10Shrink:compFun false Try.prog Try.f123=some F_spec_l10Shrink.bare:=by kernel_rfl
theorem c_spec_l10Augment:compFun false Try.prog Try.f124=some F_spec_l10Augment.bare:=by kernel_rfl
theorem c_spec_l10Mate:compFun false Try.prog Try.f125=some F_spec_l10Mate.bare:=by kernel_rfl
theorem c_spec_l10Slack:compFun false Try.prog Try.f141=some F_spec_l10Slack.bare:=by kernel_rfl
theorem c_spec_l10Step:compFun false Try.prog Try.f142=some F_spec_l10Step.bare:=by kernel_rfl
theorem c_spec_l10First:compFun false Try.prog Try.f143=some F_spec_l10First.bare:=by kernel_rfl
theorem c_spec_l10Way:compFun false Try.prog Try.f144=some F_spec_l10Way.bare:=by kernel_rfl
theorem c_spec_l08Place:compFun false Try.prog Try.f145=some F_spec_l08Place.bare:=by kernel_rfl
theorem c_spec_l10Without:compFun false Try.prog Try.f146=some F_spec_l10Without.bare:=by kernel_rfl
theorem c_spec_l10Least:compFun false Try.prog Try.f163=some F_spec_l10Least.bare:=by kernel_rfl
end Go.Proofs.Ytafhipglhnfgnaa.Ab
