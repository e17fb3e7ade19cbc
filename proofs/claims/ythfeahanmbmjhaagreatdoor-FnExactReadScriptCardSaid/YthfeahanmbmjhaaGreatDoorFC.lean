/- The functions are the program. No conditions. -/
import Derived.Test.YthfeahanmbmjhaaGreatDoorProg
import Derived.KernelRfl
import Derived.Test.YthfeahanmbmjhaaGreatDoorF0
namespace Go.Proofs.YthfeahanmbmjhaaGreatDoor.Ab
theorem c_laws_FnExactReadScript : compFun false Tryz.prog Tryz.f3 = some F_laws_FnExactReadScript.bare := by kernel_rfl
theorem c_spec_ReadScript : compFun false Tryz.prog Tryz.f4 = some F_spec_ReadScript.bare := by kernel_rfl
theorem c_impl_ReadScript : compFun false Tryz.prog Tryz.f5 = some F_impl_ReadScript.bare := by kernel_rfl
theorem c_laws_eqDeedS : compFun false Tryz.prog Tryz.f6 = some F_laws_eqDeedS.bare := by kernel_rfl
theorem c_laws_markDeedS : compFun false Tryz.prog Tryz.f7 = some F_laws_markDeedS.bare := by kernel_rfl
theorem c_laws_heldDeedS : compFun false Tryz.prog Tryz.f8 = some F_laws_heldDeedS.bare := by kernel_rfl
theorem c_spec_l16Lines : compFun false Tryz.prog Tryz.f9 = some F_spec_l16Lines.bare := by kernel_rfl
theorem c_spec_PartsOf : compFun false Tryz.prog Tryz.f10 = some F_spec_PartsOf.bare := by kernel_rfl
theorem c_spec_ReadDecimal : compFun false Tryz.prog Tryz.f11 = some F_spec_ReadDecimal.bare := by kernel_rfl
theorem c_spec_FormatStore : compFun false Tryz.prog Tryz.f12 = some F_spec_FormatStore.bare := by kernel_rfl
theorem c_spec_l16Deed : compFun false Tryz.prog Tryz.f13 = some F_spec_l16Deed.bare := by kernel_rfl
theorem c_impl_linesOf : compFun false Tryz.prog Tryz.f14 = some F_impl_linesOf.bare := by kernel_rfl
theorem c_impl_PartsOf : compFun false Tryz.prog Tryz.f15 = some F_impl_PartsOf.bare := by kernel_rfl
theorem c_impl_hall : compFun false Tryz.prog Tryz.f16 = some F_impl_hall.bare := by kernel_rfl
theorem c_impl_deed : compFun false Tryz.prog Tryz.f17 = some F_impl_deed.bare := by kernel_rfl
theorem c_laws_eqDeed : compFun false Tryz.prog Tryz.f18 = some F_laws_eqDeed.bare := by kernel_rfl
theorem c_laws_markText : compFun false Tryz.prog Tryz.f19 = some F_laws_markText.bare := by kernel_rfl
theorem c_laws_markIntS : compFun false Tryz.prog Tryz.f20 = some F_laws_markIntS.bare := by kernel_rfl
theorem c_laws_heldIntS : compFun false Tryz.prog Tryz.f21 = some F_laws_heldIntS.bare := by kernel_rfl
theorem c_spec_Decimal : compFun false Tryz.prog Tryz.f22 = some F_spec_Decimal.bare := by kernel_rfl
theorem c_spec_DeviceNew : compFun false Tryz.prog Tryz.f23 = some F_spec_DeviceNew.bare := by kernel_rfl
theorem c_spec_RootText : compFun false Tryz.prog Tryz.f24 = some F_spec_RootText.bare := by kernel_rfl
theorem c_spec_l16Commas : compFun false Tryz.prog Tryz.f25 = some F_spec_l16Commas.bare := by kernel_rfl
theorem c_spec_l16Ask : compFun false Tryz.prog Tryz.f26 = some F_spec_l16Ask.bare := by kernel_rfl
theorem c_spec_DeedOk : compFun false Tryz.prog Tryz.f27 = some F_spec_DeedOk.bare := by kernel_rfl
theorem c_strings_Split : compFun false Tryz.prog Tryz.f28 = some F_strings_Split.bare := by kernel_rfl
theorem c_impl_FormatStore : compFun false Tryz.prog Tryz.f30 = some F_impl_FormatStore.bare := by kernel_rfl
theorem c_impl_numbers : compFun false Tryz.prog Tryz.f31 = some F_impl_numbers.bare := by kernel_rfl
theorem c_impl_textOf : compFun false Tryz.prog Tryz.f32 = some F_impl_textOf.bare := by kernel_rfl
theorem c_impl_DeedOk : compFun false Tryz.prog Tryz.f33 = some F_impl_DeedOk.bare := by kernel_rfl
theorem c_laws_eqIntS : compFun false Tryz.prog Tryz.f34 = some F_laws_eqIntS.bare := by kernel_rfl
theorem c_spec_l01Figure : compFun false Tryz.prog Tryz.f35 = some F_spec_l01Figure.bare := by kernel_rfl
theorem c_spec_l01In : compFun false Tryz.prog Tryz.f36 = some F_spec_l01In.bare := by kernel_rfl
theorem c_spec_Sealed : compFun false Tryz.prog Tryz.f37 = some F_spec_Sealed.bare := by kernel_rfl
theorem c_spec_l06Big : compFun false Tryz.prog Tryz.f38 = some F_spec_l06Big.bare := by kernel_rfl
theorem c_spec_Unhex : compFun false Tryz.prog Tryz.f39 = some F_spec_Unhex.bare := by kernel_rfl
theorem c_spec_l16Word : compFun false Tryz.prog Tryz.f40 = some F_spec_l16Word.bare := by kernel_rfl
theorem c_spec_AskText : compFun false Tryz.prog Tryz.f41 = some F_spec_AskText.bare := by kernel_rfl
theorem c_strings_genSplit : compFun false Tryz.prog Tryz.f42 = some F_strings_genSplit.bare := by kernel_rfl
theorem c_impl_in : compFun false Tryz.prog Tryz.f44 = some F_impl_in.bare := by kernel_rfl
theorem c_impl_DeviceNew : compFun false Tryz.prog Tryz.f46 = some F_impl_DeviceNew.bare := by kernel_rfl
theorem c_impl_RootText : compFun false Tryz.prog Tryz.f47 = some F_impl_RootText.bare := by kernel_rfl
theorem c_impl_Unhex : compFun false Tryz.prog Tryz.f48 = some F_impl_Unhex.bare := by kernel_rfl
theorem c_impl_opOf : compFun false Tryz.prog Tryz.f49 = some F_impl_opOf.bare := by kernel_rfl
theorem c_impl_AskText : compFun false Tryz.prog Tryz.f50 = some F_impl_AskText.bare := by kernel_rfl
theorem c_spec_l02Four : compFun false Tryz.prog Tryz.f51 = some F_spec_l02Four.bare := by kernel_rfl
theorem c_spec_SumOf : compFun false Tryz.prog Tryz.f52 = some F_spec_SumOf.bare := by kernel_rfl
theorem c_spec_l01Value : compFun false Tryz.prog Tryz.f53 = some F_spec_l01Value.bare := by kernel_rfl
theorem c_spec_l14List : compFun false Tryz.prog Tryz.f54 = some F_spec_l14List.bare := by kernel_rfl
theorem c_spec_l14Numbers : compFun false Tryz.prog Tryz.f55 = some F_spec_l14Numbers.bare := by kernel_rfl
theorem c_spec_l01Var : compFun false Tryz.prog Tryz.f56 = some F_spec_l01Var.bare := by kernel_rfl
theorem c_strings_explode : compFun false Tryz.prog Tryz.f57 = some F_strings_explode.bare := by kernel_rfl
theorem c_impl_Sealed : compFun false Tryz.prog Tryz.f63 = some F_impl_Sealed.bare := by kernel_rfl
theorem c_impl_told : compFun false Tryz.prog Tryz.f65 = some F_impl_told.bare := by kernel_rfl
theorem c_impl_vars : compFun false Tryz.prog Tryz.f66 = some F_impl_vars.bare := by kernel_rfl
theorem c_spec_SumMore : compFun false Tryz.prog Tryz.f67 = some F_spec_SumMore.bare := by kernel_rfl
theorem c_unicode_utf8_DecodeRuneInString : compFun false Tryz.prog Tryz.f69 = some F_unicode_utf8_DecodeRuneInString.bare := by kernel_rfl
theorem c_impl_SumOf : compFun false Tryz.prog Tryz.f78 = some F_impl_SumOf.bare := by kernel_rfl
theorem c_impl_VarText : compFun false Tryz.prog Tryz.f80 = some F_impl_VarText.bare := by kernel_rfl
theorem c_impl_SumMore : compFun false Tryz.prog Tryz.f89 = some F_impl_SumMore.bare := by kernel_rfl
end Go.Proofs.YthfeahanmbmjhaaGreatDoor.Ab
