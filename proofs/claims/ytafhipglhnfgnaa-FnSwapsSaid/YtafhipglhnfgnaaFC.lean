/- The functions are the program. No conditions. -/
import Derived.Test.YtafhipglhnfgnaaProg
import Derived.KernelRfl
import Derived.Test.YtafhipglhnfgnaaF0
import Derived.Test.YtafhipglhnfgnaaF1
namespace Go.Proofs.Ytafhipglhnfgnaa.Ab
theorem c_laws_FnSwaps:compFun true Try.prog Try.f5=some F_laws_FnSwaps.bare:=by kernel_rfl
theorem c_laws_big:compFun false Try.prog Try.f10=some F_laws_big.bare:=by kernel_rfl
theorem c_spec_DrawRightMatch:compFun false Try.prog Try.f16=some F_spec_DrawRightMatch.bare:=by kernel_rfl
theorem c_spec_Solve:compFun false Try.prog Try.f17=some F_spec_Solve.bare:=by kernel_rfl
theorem c_spec_MatchOk:compFun false Try.prog Try.f20=some F_spec_MatchOk.bare:=by kernel_rfl
theorem c_impl_Swapped:compFun false Try.prog Try.f23=some F_impl_Swapped.bare:=by kernel_rfl
theorem c_spec_Swapped:compFun false Try.prog Try.f24=some F_spec_Swapped.bare:=by kernel_rfl
theorem c_laws_sameInts:compFun false Try.prog Try.f25=some F_laws_sameInts.bare:=by kernel_rfl
theorem c_impl_Lonely:compFun false Try.prog Try.f26=some F_impl_Lonely.bare:=by kernel_rfl
theorem c_spec_l01New:compFun false Try.prog Try.f47=some F_spec_l01New.bare:=by kernel_rfl
theorem c_spec_l08Graph:compFun false Try.prog Try.f48=some F_spec_l08Graph.bare:=by kernel_rfl
theorem c_spec_l01Once:compFun false Try.prog Try.f49=some F_spec_l01Once.bare:=by kernel_rfl
theorem c_spec_l01Below:compFun false Try.prog Try.f50=some F_spec_l01Below.bare:=by kernel_rfl
theorem c_impl_GraphOk:compFun false Try.prog Try.f51=some F_impl_GraphOk.bare:=by kernel_rfl
theorem c_impl_in:compFun false Try.prog Try.f52=some F_impl_in.bare:=by kernel_rfl
theorem c_spec_GraphOk:compFun false Try.prog Try.f56=some F_spec_GraphOk.bare:=by kernel_rfl
theorem c_spec_l01In:compFun false Try.prog Try.f57=some F_spec_l01In.bare:=by kernel_rfl
theorem c_spec_l09Match:compFun false Try.prog Try.f62=some F_spec_l09Match.bare:=by kernel_rfl
theorem c_spec_l10Solve:compFun false Try.prog Try.f63=some F_spec_l10Solve.bare:=by kernel_rfl
theorem c_spec_l10Groups:compFun false Try.prog Try.f64=some F_spec_l10Groups.bare:=by kernel_rfl
theorem c_spec_l10IsTop:compFun false Try.prog Try.f65=some F_spec_l10IsTop.bare:=by kernel_rfl
theorem c_spec_l10Open:compFun false Try.prog Try.f66=some F_spec_l10Open.bare:=by kernel_rfl
theorem c_impl_MatchOk:compFun false Try.prog Try.f67=some F_impl_MatchOk.bare:=by kernel_rfl
theorem c_impl_edgeAt:compFun false Try.prog Try.f69=some F_impl_edgeAt.bare:=by kernel_rfl
theorem c_spec_l08At:compFun false Try.prog Try.f72=some F_spec_l08At.bare:=by kernel_rfl
theorem c_spec_l03In:compFun false Try.prog Try.f73=some F_spec_l03In.bare:=by kernel_rfl
theorem c_spec_Scalar:compFun false Try.prog Try.f75=some F_spec_Scalar.bare:=by kernel_rfl
theorem c_impl_hasCouple:compFun false Try.prog Try.f76=some F_impl_hasCouple.bare:=by kernel_rfl
theorem c_impl_pieces:compFun false Try.prog Try.f77=some F_impl_pieces.bare:=by kernel_rfl
theorem c_spec_l17Has:compFun false Try.prog Try.f78=some F_spec_l17Has.bare:=by kernel_rfl
theorem c_spec_l17Parts:compFun false Try.prog Try.f79=some F_spec_l17Parts.bare:=by kernel_rfl
theorem c_impl_hasInt:compFun false Try.prog Try.f80=some F_impl_hasInt.bare:=by kernel_rfl
theorem c_spec_l01PickInt:compFun false Try.prog Try.f90=some F_spec_l01PickInt.bare:=by kernel_rfl
theorem c_spec_l01Byte:compFun false Try.prog Try.f94=some F_spec_l01Byte.bare:=by kernel_rfl
theorem c_spec_l08Worth:compFun false Try.prog Try.f100=some F_spec_l08Worth.bare:=by kernel_rfl
theorem c_spec_l10Round:compFun false Try.prog Try.f102=some F_spec_l10Round.bare:=by kernel_rfl
theorem c_spec_l10Within:compFun false Try.prog Try.f103=some F_spec_l10Within.bare:=by kernel_rfl
theorem c_spec_l10Ahead:compFun false Try.prog Try.f104=some F_spec_l10Ahead.bare:=by kernel_rfl
theorem c_spec_l10Base:compFun false Try.prog Try.f105=some F_spec_l10Base.bare:=by kernel_rfl
theorem c_spec_l17Part:compFun false Try.prog Try.f106=some F_spec_l17Part.bare:=by kernel_rfl
theorem c_spec_l10Label:compFun false Try.prog Try.f120=some F_spec_l10Label.bare:=by kernel_rfl
theorem c_spec_l10Adjust:compFun false Try.prog Try.f121=some F_spec_l10Adjust.bare:=by kernel_rfl
theorem c_spec_l10Top:compFun false Try.prog Try.f122=some F_spec_l10Top.bare:=by kernel_rfl
theorem c_spec_l10Shrink:compFun false Try.prog Try.f123=some F_spec_l10Shrink.bare:=by kernel_rfl
theorem c_spec_l10Augment:compFun false Try.prog Try.f124=some F_spec_l10Augment.bare:=by kernel_rfl
theorem c_spec_l10Mate:compFun false Try.prog Try.f125=some F_spec_l10Mate.bare:=by kernel_rfl
theorem c_spec_l17Next:compFun false Try.prog Try.f126=some F_spec_l17Next.bare:=by kernel_rfl
theorem c_spec_l10Slack:compFun false Try.prog Try.f141=some F_spec_l10Slack.bare:=by kernel_rfl
theorem c_spec_l10Step:compFun false Try.prog Try.f142=some F_spec_l10Step.bare:=by kernel_rfl
theorem c_spec_l10First:compFun false Try.prog Try.f143=some F_spec_l10First.bare:=by kernel_rfl
theorem c_spec_l10Way:compFun false Try.prog Try.f144=some F_spec_l10Way.bare:=by kernel_rfl
theorem c_spec_l08Place:compFun false Try.prog Try.f145=some F_spec_l08Place.bare:=by kernel_rfl
theorem c_spec_l10Without:compFun false Try.prog Try.f146=some F_spec_l10Without.bare:=by kernel_rfl
theorem c_spec_l10Least:compFun false Try.prog Try.f163=some F_spec_l10Least.bare:=by kernel_rfl
end Go.Proofs.Ytafhipglhnfgnaa.Ab
