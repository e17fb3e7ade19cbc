/- The functions are the program. No conditions. -/
import Derived.Test.YtjgacjidaeahdaaGreatDoorProg
import Derived.KernelRfl
import Derived.Test.YtjgacjidaeahdaaGreatDoorF0
import Derived.Test.YtjgacjidaeahdaaGreatDoorF1
namespace Go.Proofs.YtjgacjidaeahdaaGreatDoor.Ab
theorem c_laws_FnExactStateOk : compFun Tryz.prog Tryz.f3 = some F_laws_FnExactStateOk.bare := by kernel_rfl
theorem c_laws_szPairS : compFun Tryz.prog Tryz.f15 = some F_laws_szPairS.bare := by kernel_rfl
theorem c_spec_StateOk : compFun Tryz.prog Tryz.f16 = some F_spec_StateOk.bare := by kernel_rfl
theorem c_laws_toPairS : compFun Tryz.prog Tryz.f17 = some F_laws_toPairS.bare := by kernel_rfl
theorem c_impl_StateOk : compFun Tryz.prog Tryz.f18 = some F_impl_StateOk.bare := by kernel_rfl
theorem c_laws_eqPairS : compFun Tryz.prog Tryz.f19 = some F_laws_eqPairS.bare := by kernel_rfl
theorem c_laws_szPair : compFun Tryz.prog Tryz.f59 = some F_laws_szPair.bare := by kernel_rfl
theorem c_spec_MapOk : compFun Tryz.prog Tryz.f60 = some F_spec_MapOk.bare := by kernel_rfl
theorem c_spec_l13Rounds : compFun Tryz.prog Tryz.f61 = some F_spec_l13Rounds.bare := by kernel_rfl
theorem c_spec_l13KeyOk : compFun Tryz.prog Tryz.f62 = some F_spec_l13KeyOk.bare := by kernel_rfl
theorem c_spec_l13RoundOk : compFun Tryz.prog Tryz.f63 = some F_spec_l13RoundOk.bare := by kernel_rfl
theorem c_spec_CertParts : compFun Tryz.prog Tryz.f64 = some F_spec_CertParts.bare := by kernel_rfl
theorem c_spec_l13Text : compFun Tryz.prog Tryz.f65 = some F_spec_l13Text.bare := by kernel_rfl
theorem c_laws_toPair : compFun Tryz.prog Tryz.f66 = some F_laws_toPair.bare := by kernel_rfl
theorem c_impl_MapOk : compFun Tryz.prog Tryz.f67 = some F_impl_MapOk.bare := by kernel_rfl
theorem c_impl_roundsOf : compFun Tryz.prog Tryz.f68 = some F_impl_roundsOf.bare := by kernel_rfl
theorem c_impl_idOk : compFun Tryz.prog Tryz.f69 = some F_impl_idOk.bare := by kernel_rfl
theorem c_impl_linkOk : compFun Tryz.prog Tryz.f70 = some F_impl_linkOk.bare := by kernel_rfl
theorem c_impl_poolOk : compFun Tryz.prog Tryz.f71 = some F_impl_poolOk.bare := by kernel_rfl
theorem c_impl_partOk : compFun Tryz.prog Tryz.f72 = some F_impl_partOk.bare := by kernel_rfl
theorem c_laws_eqPair : compFun Tryz.prog Tryz.f73 = some F_laws_eqPair.bare := by kernel_rfl
theorem c_spec_l03In : compFun Tryz.prog Tryz.f74 = some F_spec_l03In.bare := by kernel_rfl
theorem c_spec_l13Pool : compFun Tryz.prog Tryz.f76 = some F_spec_l13Pool.bare := by kernel_rfl
theorem c_impl_in : compFun Tryz.prog Tryz.f77 = some F_impl_in.bare := by kernel_rfl
theorem c_impl_joined : compFun Tryz.prog Tryz.f78 = some F_impl_joined.bare := by kernel_rfl
theorem c_impl_hasInt : compFun Tryz.prog Tryz.f79 = some F_impl_hasInt.bare := by kernel_rfl
theorem c_spec_Decimal : compFun Tryz.prog Tryz.f80 = some F_spec_Decimal.bare := by kernel_rfl
theorem c_spec_l01In : compFun Tryz.prog Tryz.f82 = some F_spec_l01In.bare := by kernel_rfl
theorem c_spec_l13Get : compFun Tryz.prog Tryz.f83 = some F_spec_l13Get.bare := by kernel_rfl
theorem c_spec_l13Two : compFun Tryz.prog Tryz.f84 = some F_spec_l13Two.bare := by kernel_rfl
theorem c_spec_ReadDecimal : compFun Tryz.prog Tryz.f85 = some F_spec_ReadDecimal.bare := by kernel_rfl
theorem c_impl_get : compFun Tryz.prog Tryz.f86 = some F_impl_get.bare := by kernel_rfl
theorem c_impl_two : compFun Tryz.prog Tryz.f87 = some F_impl_two.bare := by kernel_rfl
theorem c_impl_edgeAt : compFun Tryz.prog Tryz.f94 = some F_impl_edgeAt.bare := by kernel_rfl
theorem c_spec_l13Num : compFun Tryz.prog Tryz.f96 = some F_spec_l13Num.bare := by kernel_rfl
theorem c_impl_readTwo : compFun Tryz.prog Tryz.f97 = some F_impl_readTwo.bare := by kernel_rfl
theorem c_spec_ReadCert : compFun Tryz.prog Tryz.f109 = some F_spec_ReadCert.bare := by kernel_rfl
theorem c_impl_certOf : compFun Tryz.prog Tryz.f110 = some F_impl_certOf.bare := by kernel_rfl
theorem c_impl_ReadCert : compFun Tryz.prog Tryz.f111 = some F_impl_ReadCert.bare := by kernel_rfl
theorem c_impl_CertParts : compFun Tryz.prog Tryz.f115 = some F_impl_CertParts.bare := by kernel_rfl
theorem c_spec_l01Figure : compFun Tryz.prog Tryz.f116 = some F_spec_l01Figure.bare := by kernel_rfl
theorem c_spec_l08At : compFun Tryz.prog Tryz.f120 = some F_spec_l08At.bare := by kernel_rfl
theorem c_spec_GraphOk : compFun Tryz.prog Tryz.f122 = some F_spec_GraphOk.bare := by kernel_rfl
theorem c_spec_MatchOk : compFun Tryz.prog Tryz.f124 = some F_spec_MatchOk.bare := by kernel_rfl
theorem c_impl_GraphOk : compFun Tryz.prog Tryz.f125 = some F_impl_GraphOk.bare := by kernel_rfl
theorem c_impl_MatchOk : compFun Tryz.prog Tryz.f129 = some F_impl_MatchOk.bare := by kernel_rfl
theorem c_spec_l12Var : compFun Tryz.prog Tryz.f131 = some F_spec_l12Var.bare := by kernel_rfl
theorem c_spec_CertText : compFun Tryz.prog Tryz.f132 = some F_spec_CertText.bare := by kernel_rfl
theorem c_impl_reader_num : compFun Tryz.prog Tryz.f133 = some F_impl_reader_num.bare := by kernel_rfl
theorem c_impl_reader_group : compFun Tryz.prog Tryz.f134 = some F_impl_reader_group.bare := by kernel_rfl
theorem c_impl_reader_ends : compFun Tryz.prog Tryz.f135 = some F_impl_reader_ends.bare := by kernel_rfl
theorem c_impl_Certifies : compFun Tryz.prog Tryz.f136 = some F_impl_Certifies.bare := by kernel_rfl
theorem c_spec_l08Worth : compFun Tryz.prog Tryz.f144 = some F_spec_l08Worth.bare := by kernel_rfl
theorem c_spec_ReadVar : compFun Tryz.prog Tryz.f146 = some F_spec_ReadVar.bare := by kernel_rfl
theorem c_spec_Certifies : compFun Tryz.prog Tryz.f147 = some F_spec_Certifies.bare := by kernel_rfl
theorem c_spec_l01Var : compFun Tryz.prog Tryz.f148 = some F_spec_l01Var.bare := by kernel_rfl
theorem c_impl_ReadVar : compFun Tryz.prog Tryz.f149 = some F_impl_ReadVar.bare := by kernel_rfl
theorem c_impl_ProofOk : compFun Tryz.prog Tryz.f150 = some F_impl_ProofOk.bare := by kernel_rfl
theorem c_impl_Scalar : compFun Tryz.prog Tryz.f151 = some F_impl_Scalar.bare := by kernel_rfl
theorem c_impl_weight : compFun Tryz.prog Tryz.f152 = some F_impl_weight.bare := by kernel_rfl
theorem c_spec_ProofOk : compFun Tryz.prog Tryz.f160 = some F_spec_ProofOk.bare := by kernel_rfl
theorem c_spec_l11Worth : compFun Tryz.prog Tryz.f161 = some F_spec_l11Worth.bare := by kernel_rfl
theorem c_spec_l11Sum : compFun Tryz.prog Tryz.f162 = some F_spec_l11Sum.bare := by kernel_rfl
theorem c_impl_groupOk : compFun Tryz.prog Tryz.f163 = some F_impl_groupOk.bare := by kernel_rfl
theorem c_impl_within : compFun Tryz.prog Tryz.f164 = some F_impl_within.bare := by kernel_rfl
theorem c_impl_slackOf : compFun Tryz.prog Tryz.f165 = some F_impl_slackOf.bare := by kernel_rfl
theorem c_spec_l11Nested : compFun Tryz.prog Tryz.f173 = some F_spec_l11Nested.bare := by kernel_rfl
theorem c_spec_l11Slack : compFun Tryz.prog Tryz.f174 = some F_spec_l11Slack.bare := by kernel_rfl
theorem c_spec_Scalar : compFun Tryz.prog Tryz.f175 = some F_spec_Scalar.bare := by kernel_rfl
end Go.Proofs.YtjgacjidaeahdaaGreatDoor.Ab
