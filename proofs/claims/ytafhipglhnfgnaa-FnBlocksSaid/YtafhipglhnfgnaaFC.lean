/- The functions are the program. No conditions. -/
import Derived.Test.YtafhipglhnfgnaaProg
import Derived.KernelRfl
import Derived.Test.YtafhipglhnfgnaaF0
namespace Go.Proofs.Ytafhipglhnfgnaa.Ab
theorem c_laws_FnBlocks : compFun Try.prog Try.f7 = some F_laws_FnBlocks.bare := by kernel_rfl
theorem c_laws_big : compFun Try.prog Try.f10 = some F_laws_big.bare := by kernel_rfl
theorem c_spec_Solve : compFun Try.prog Try.f17 = some F_spec_Solve.bare := by kernel_rfl
theorem c_spec_DrawRightGraph : compFun Try.prog Try.f22 = some F_spec_DrawRightGraph.bare := by kernel_rfl
theorem c_impl_Blocks : compFun Try.prog Try.f37 = some F_impl_Blocks.bare := by kernel_rfl
theorem c_impl_MostCouples : compFun Try.prog Try.f38 = some F_impl_MostCouples.bare := by kernel_rfl
theorem c_impl_OddParts : compFun Try.prog Try.f39 = some F_impl_OddParts.bare := by kernel_rfl
theorem c_spec_MostCouples : compFun Try.prog Try.f40 = some F_spec_MostCouples.bare := by kernel_rfl
theorem c_spec_DrawPlaces : compFun Try.prog Try.f41 = some F_spec_DrawPlaces.bare := by kernel_rfl
theorem c_spec_l01New : compFun Try.prog Try.f47 = some F_spec_l01New.bare := by kernel_rfl
theorem c_spec_l08Graph : compFun Try.prog Try.f48 = some F_spec_l08Graph.bare := by kernel_rfl
theorem c_spec_l01Once : compFun Try.prog Try.f49 = some F_spec_l01Once.bare := by kernel_rfl
theorem c_spec_l01Below : compFun Try.prog Try.f50 = some F_spec_l01Below.bare := by kernel_rfl
theorem c_impl_GraphOk : compFun Try.prog Try.f51 = some F_impl_GraphOk.bare := by kernel_rfl
theorem c_impl_in : compFun Try.prog Try.f52 = some F_impl_in.bare := by kernel_rfl
theorem c_spec_GraphOk : compFun Try.prog Try.f56 = some F_spec_GraphOk.bare := by kernel_rfl
theorem c_spec_l01In : compFun Try.prog Try.f57 = some F_spec_l01In.bare := by kernel_rfl
theorem c_spec_l09Best : compFun Try.prog Try.f61 = some F_spec_l09Best.bare := by kernel_rfl
theorem c_spec_l10Solve : compFun Try.prog Try.f63 = some F_spec_l10Solve.bare := by kernel_rfl
theorem c_spec_l10Groups : compFun Try.prog Try.f64 = some F_spec_l10Groups.bare := by kernel_rfl
theorem c_spec_l10IsTop : compFun Try.prog Try.f65 = some F_spec_l10IsTop.bare := by kernel_rfl
theorem c_spec_l10Open : compFun Try.prog Try.f66 = some F_spec_l10Open.bare := by kernel_rfl
theorem c_spec_l08At : compFun Try.prog Try.f72 = some F_spec_l08At.bare := by kernel_rfl
theorem c_spec_l03In : compFun Try.prog Try.f73 = some F_spec_l03In.bare := by kernel_rfl
theorem c_spec_Scalar : compFun Try.prog Try.f75 = some F_spec_Scalar.bare := by kernel_rfl
theorem c_impl_pieces : compFun Try.prog Try.f77 = some F_impl_pieces.bare := by kernel_rfl
theorem c_impl_hasInt : compFun Try.prog Try.f80 = some F_impl_hasInt.bare := by kernel_rfl
theorem c_spec_l01PickInt : compFun Try.prog Try.f90 = some F_spec_l01PickInt.bare := by kernel_rfl
theorem c_impl_listLess : compFun Try.prog Try.f91 = some F_impl_listLess.bare := by kernel_rfl
theorem c_impl_every : compFun Try.prog Try.f92 = some F_impl_every.bare := by kernel_rfl
theorem c_impl_MostCouples_1 : compFun Try.prog Try.f93 = some F_impl_MostCouples_1.bare := by kernel_rfl
theorem c_spec_l01Byte : compFun Try.prog Try.f94 = some F_spec_l01Byte.bare := by kernel_rfl
theorem c_spec_l08Worth : compFun Try.prog Try.f100 = some F_spec_l08Worth.bare := by kernel_rfl
theorem c_spec_Better : compFun Try.prog Try.f101 = some F_spec_Better.bare := by kernel_rfl
theorem c_spec_l10Round : compFun Try.prog Try.f102 = some F_spec_l10Round.bare := by kernel_rfl
theorem c_spec_l10Within : compFun Try.prog Try.f103 = some F_spec_l10Within.bare := by kernel_rfl
theorem c_spec_l10Ahead : compFun Try.prog Try.f104 = some F_spec_l10Ahead.bare := by kernel_rfl
theorem c_spec_l10Base : compFun Try.prog Try.f105 = some F_spec_l10Base.bare := by kernel_rfl
theorem c_impl_Sums_plus : compFun Try.prog Try.f112 = some F_impl_Sums_plus.bare := by kernel_rfl
theorem c_spec_l10Label : compFun Try.prog Try.f120 = some F_spec_l10Label.bare := by kernel_rfl
theorem c_spec_l10Adjust : compFun Try.prog Try.f121 = some F_spec_l10Adjust.bare := by kernel_rfl
theorem c_spec_l10Top : compFun Try.prog Try.f122 = some F_spec_l10Top.bare := by kernel_rfl
theorem c_spec_l10Shrink : compFun Try.prog Try.f123 = some F_spec_l10Shrink.bare := by kernel_rfl
theorem c_spec_l10Augment : compFun Try.prog Try.f124 = some F_spec_l10Augment.bare := by kernel_rfl
theorem c_spec_l10Mate : compFun Try.prog Try.f125 = some F_spec_l10Mate.bare := by kernel_rfl
theorem c_spec_l10Slack : compFun Try.prog Try.f141 = some F_spec_l10Slack.bare := by kernel_rfl
theorem c_spec_l10Step : compFun Try.prog Try.f142 = some F_spec_l10Step.bare := by kernel_rfl
theorem c_spec_l10First : compFun Try.prog Try.f143 = some F_spec_l10First.bare := by kernel_rfl
theorem c_spec_l10Way : compFun Try.prog Try.f144 = some F_spec_l10Way.bare := by kernel_rfl
theorem c_spec_l08Place : compFun Try.prog Try.f145 = some F_spec_l08Place.bare := by kernel_rfl
theorem c_spec_l10Without : compFun Try.prog Try.f146 = some F_spec_l10Without.bare := by kernel_rfl
theorem c_spec_l10Least : compFun Try.prog Try.f163 = some F_spec_l10Least.bare := by kernel_rfl
end Go.Proofs.Ytafhipglhnfgnaa.Ab
