/- The table of the functions, and that it is the program. No conditions. -/
import Derived.Test.YthfeahanmbmjhaaGreatDoorFC
import Derived.Test.YthfeahanmbmjhaaGreatDoorA3
namespace Go.Proofs.YthfeahanmbmjhaaGreatDoor.Ab
open Go.RowKit
def tab : List (Nat × Fun) := [(n_laws_FnExactReadScript, F_laws_FnExactReadScript), (n_spec_ReadScript, F_spec_ReadScript), (n_impl_ReadScript, F_impl_ReadScript), (n_laws_eqDeedS, F_laws_eqDeedS), (n_laws_markDeedS, F_laws_markDeedS), (n_laws_heldDeedS, F_laws_heldDeedS), (n_spec_l16Lines, F_spec_l16Lines), (n_spec_PartsOf, F_spec_PartsOf), (n_spec_ReadDecimal, F_spec_ReadDecimal), (n_spec_FormatStore, F_spec_FormatStore), (n_spec_l16Deed, F_spec_l16Deed), (n_impl_linesOf, F_impl_linesOf), (n_impl_PartsOf, F_impl_PartsOf), (n_impl_hall, F_impl_hall), (n_impl_deed, F_impl_deed), (n_laws_eqDeed, F_laws_eqDeed), (n_laws_markText, F_laws_markText), (n_laws_markIntS, F_laws_markIntS), (n_laws_heldIntS, F_laws_heldIntS), (n_spec_Decimal, F_spec_Decimal), (n_spec_DeviceNew, F_spec_DeviceNew), (n_spec_RootText, F_spec_RootText), (n_spec_l16Commas, F_spec_l16Commas), (n_spec_l16Ask, F_spec_l16Ask), (n_spec_DeedOk, F_spec_DeedOk), (n_strings_Split, F_strings_Split), (n_impl_FormatStore, F_impl_FormatStore), (n_impl_numbers, F_impl_numbers), (n_impl_textOf, F_impl_textOf), (n_impl_DeedOk, F_impl_DeedOk), (n_laws_eqIntS, F_laws_eqIntS), (n_spec_l01Figure, F_spec_l01Figure), (n_spec_l01In, F_spec_l01In), (n_spec_Sealed, F_spec_Sealed), (n_spec_l06Big, F_spec_l06Big), (n_spec_Unhex, F_spec_Unhex), (n_spec_l16Word, F_spec_l16Word), (n_spec_AskText, F_spec_AskText), (n_strings_genSplit, F_strings_genSplit), (n_impl_in, F_impl_in), (n_impl_DeviceNew, F_impl_DeviceNew), (n_impl_RootText, F_impl_RootText), (n_impl_Unhex, F_impl_Unhex), (n_impl_opOf, F_impl_opOf), (n_impl_AskText, F_impl_AskText), (n_spec_l02Four, F_spec_l02Four), (n_spec_SumOf, F_spec_SumOf), (n_spec_l01Value, F_spec_l01Value), (n_spec_l14List, F_spec_l14List), (n_spec_l14Numbers, F_spec_l14Numbers), (n_spec_l01Var, F_spec_l01Var), (n_strings_explode, F_strings_explode), (n_impl_Sealed, F_impl_Sealed), (n_impl_told, F_impl_told), (n_impl_vars, F_impl_vars), (n_spec_SumMore, F_spec_SumMore), (n_unicode_utf8_DecodeRuneInString, F_unicode_utf8_DecodeRuneInString), (n_impl_SumOf, F_impl_SumOf), (n_impl_VarText, F_impl_VarText), (n_impl_SumMore, F_impl_SumMore)]
def T : FuncId → Option Fun := fun f => tab.lookup f
theorem t_laws_FnExactReadScript : T n_laws_FnExactReadScript = some F_laws_FnExactReadScript := rfl
theorem t_spec_ReadScript : T n_spec_ReadScript = some F_spec_ReadScript := rfl
theorem t_impl_ReadScript : T n_impl_ReadScript = some F_impl_ReadScript := rfl
theorem t_laws_eqDeedS : T n_laws_eqDeedS = some F_laws_eqDeedS := rfl
theorem t_laws_markDeedS : T n_laws_markDeedS = some F_laws_markDeedS := rfl
theorem t_laws_heldDeedS : T n_laws_heldDeedS = some F_laws_heldDeedS := rfl
theorem t_spec_l16Lines : T n_spec_l16Lines = some F_spec_l16Lines := rfl
theorem t_spec_PartsOf : T n_spec_PartsOf = some F_spec_PartsOf := rfl
theorem t_spec_ReadDecimal : T n_spec_ReadDecimal = some F_spec_ReadDecimal := rfl
theorem t_spec_FormatStore : T n_spec_FormatStore = some F_spec_FormatStore := rfl
theorem t_spec_l16Deed : T n_spec_l16Deed = some F_spec_l16Deed := rfl
theorem t_impl_linesOf : T n_impl_linesOf = some F_impl_linesOf := rfl
theorem t_impl_PartsOf : T n_impl_PartsOf = some F_impl_PartsOf := rfl
theorem t_impl_hall : T n_impl_hall = some F_impl_hall := rfl
theorem t_impl_deed : T n_impl_deed = some F_impl_deed := rfl
theorem t_laws_eqDeed : T n_laws_eqDeed = some F_laws_eqDeed := rfl
theorem t_laws_markText : T n_laws_markText = some F_laws_markText := rfl
theorem t_laws_markIntS : T n_laws_markIntS = some F_laws_markIntS := rfl
theorem t_laws_heldIntS : T n_laws_heldIntS = some F_laws_heldIntS := rfl
theorem t_spec_Decimal : T n_spec_Decimal = some F_spec_Decimal := rfl
theorem t_spec_DeviceNew : T n_spec_DeviceNew = some F_spec_DeviceNew := rfl
theorem t_spec_RootText : T n_spec_RootText = some F_spec_RootText := rfl
theorem t_spec_l16Commas : T n_spec_l16Commas = some F_spec_l16Commas := rfl
theorem t_spec_l16Ask : T n_spec_l16Ask = some F_spec_l16Ask := rfl
theorem t_spec_DeedOk : T n_spec_DeedOk = some F_spec_DeedOk := rfl
theorem t_strings_Split : T n_strings_Split = some F_strings_Split := rfl
theorem t_impl_FormatStore : T n_impl_FormatStore = some F_impl_FormatStore := rfl
theorem t_impl_numbers : T n_impl_numbers = some F_impl_numbers := rfl
theorem t_impl_textOf : T n_impl_textOf = some F_impl_textOf := rfl
theorem t_impl_DeedOk : T n_impl_DeedOk = some F_impl_DeedOk := rfl
theorem t_laws_eqIntS : T n_laws_eqIntS = some F_laws_eqIntS := rfl
theorem t_spec_l01Figure : T n_spec_l01Figure = some F_spec_l01Figure := rfl
theorem t_spec_l01In : T n_spec_l01In = some F_spec_l01In := rfl
theorem t_spec_Sealed : T n_spec_Sealed = some F_spec_Sealed := rfl
theorem t_spec_l06Big : T n_spec_l06Big = some F_spec_l06Big := rfl
theorem t_spec_Unhex : T n_spec_Unhex = some F_spec_Unhex := rfl
theorem t_spec_l16Word : T n_spec_l16Word = some F_spec_l16Word := rfl
theorem t_spec_AskText : T n_spec_AskText = some F_spec_AskText := rfl
theorem t_strings_genSplit : T n_strings_genSplit = some F_strings_genSplit := rfl
theorem t_impl_in : T n_impl_in = some F_impl_in := rfl
theorem t_impl_DeviceNew : T n_impl_DeviceNew = some F_impl_DeviceNew := rfl
theorem t_impl_RootText : T n_impl_RootText = some F_impl_RootText := rfl
theorem t_impl_Unhex : T n_impl_Unhex = some F_impl_Unhex := rfl
theorem t_impl_opOf : T n_impl_opOf = some F_impl_opOf := rfl
theorem t_impl_AskText : T n_impl_AskText = some F_impl_AskText := rfl
theorem t_spec_l02Four : T n_spec_l02Four = some F_spec_l02Four := rfl
theorem t_spec_SumOf : T n_spec_SumOf = some F_spec_SumOf := rfl
theorem t_spec_l01Value : T n_spec_l01Value = some F_spec_l01Value := rfl
theorem t_spec_l14List : T n_spec_l14List = some F_spec_l14List := rfl
theorem t_spec_l14Numbers : T n_spec_l14Numbers = some F_spec_l14Numbers := rfl
theorem t_spec_l01Var : T n_spec_l01Var = some F_spec_l01Var := rfl
theorem t_strings_explode : T n_strings_explode = some F_strings_explode := rfl
theorem t_impl_Sealed : T n_impl_Sealed = some F_impl_Sealed := rfl
theorem t_impl_told : T n_impl_told = some F_impl_told := rfl
theorem t_impl_vars : T n_impl_vars = some F_impl_vars := rfl
theorem t_spec_SumMore : T n_spec_SumMore = some F_spec_SumMore := rfl
theorem t_unicode_utf8_DecodeRuneInString : T n_unicode_utf8_DecodeRuneInString = some F_unicode_utf8_DecodeRuneInString := rfl
theorem t_impl_SumOf : T n_impl_SumOf = some F_impl_SumOf := rfl
theorem t_impl_VarText : T n_impl_VarText = some F_impl_VarText := rfl
theorem t_impl_SumMore : T n_impl_SumMore = some F_impl_SumMore := rfl
theorem mem_lookup {l : List (Nat × Fun)} {f : Nat} {F : Fun} (h : l.lookup f = some F) : (f, F) ∈ l := by
  induction l with
  | nil => simp at h
  | cons p l ih =>
    obtain ⟨a, b⟩ := p
    rw [List.lookup_cons] at h
    split at h
    · rename_i he
      cases h
      have : f = a := by simpa using he
      subst this
      exact List.mem_cons_self
    · exact List.mem_cons_of_mem _ (ih h)
def TabIs (p : Nat × Fun) : Prop := ∃ fn b, Tryz.prog.funcs[p.1]? = some fn ∧ compFun b Tryz.prog fn = some p.2.bare
theorem is_cons {p : Nat × Fun} {l : List (Nat × Fun)} (h : TabIs p) (hl : ∀ q ∈ l, TabIs q) : ∀ q ∈ p :: l, TabIs q := by
  intro q hq
  rcases List.mem_cons.1 hq with rfl | hq
  · exact h
  · exact hl q hq
set_option maxRecDepth 100000 in
theorem tab_ok : TabOk Tryz.prog T := by
  have key : ∀ q ∈ tab, TabIs q :=
    is_cons ⟨_, _, Tryz.func3, c_laws_FnExactReadScript⟩ <|
    is_cons ⟨_, _, Tryz.func4, c_spec_ReadScript⟩ <|
    is_cons ⟨_, _, Tryz.func5, c_impl_ReadScript⟩ <|
    is_cons ⟨_, _, Tryz.func6, c_laws_eqDeedS⟩ <|
    is_cons ⟨_, _, Tryz.func7, c_laws_markDeedS⟩ <|
    is_cons ⟨_, _, Tryz.func8, c_laws_heldDeedS⟩ <|
    is_cons ⟨_, _, Tryz.func9, c_spec_l16Lines⟩ <|
    is_cons ⟨_, _, Tryz.func10, c_spec_PartsOf⟩ <|
    is_cons ⟨_, _, Tryz.func11, c_spec_ReadDecimal⟩ <|
    is_cons ⟨_, _, Tryz.func12, c_spec_FormatStore⟩ <|
    is_cons ⟨_, _, Tryz.func13, c_spec_l16Deed⟩ <|
    is_cons ⟨_, _, Tryz.func14, c_impl_linesOf⟩ <|
    is_cons ⟨_, _, Tryz.func15, c_impl_PartsOf⟩ <|
    is_cons ⟨_, _, Tryz.func16, c_impl_hall⟩ <|
    is_cons ⟨_, _, Tryz.func17, c_impl_deed⟩ <|
    is_cons ⟨_, _, Tryz.func18, c_laws_eqDeed⟩ <|
    is_cons ⟨_, _, Tryz.func19, c_laws_markText⟩ <|
    is_cons ⟨_, _, Tryz.func20, c_laws_markIntS⟩ <|
    is_cons ⟨_, _, Tryz.func21, c_laws_heldIntS⟩ <|
    is_cons ⟨_, _, Tryz.func22, c_spec_Decimal⟩ <|
    is_cons ⟨_, _, Tryz.func23, c_spec_DeviceNew⟩ <|
    is_cons ⟨_, _, Tryz.func24, c_spec_RootText⟩ <|
    is_cons ⟨_, _, Tryz.func25, c_spec_l16Commas⟩ <|
    is_cons ⟨_, _, Tryz.func26, c_spec_l16Ask⟩ <|
    is_cons ⟨_, _, Tryz.func27, c_spec_DeedOk⟩ <|
    is_cons ⟨_, _, Tryz.func28, c_strings_Split⟩ <|
    is_cons ⟨_, _, Tryz.func30, c_impl_FormatStore⟩ <|
    is_cons ⟨_, _, Tryz.func31, c_impl_numbers⟩ <|
    is_cons ⟨_, _, Tryz.func32, c_impl_textOf⟩ <|
    is_cons ⟨_, _, Tryz.func33, c_impl_DeedOk⟩ <|
    is_cons ⟨_, _, Tryz.func34, c_laws_eqIntS⟩ <|
    is_cons ⟨_, _, Tryz.func35, c_spec_l01Figure⟩ <|
    is_cons ⟨_, _, Tryz.func36, c_spec_l01In⟩ <|
    is_cons ⟨_, _, Tryz.func37, c_spec_Sealed⟩ <|
    is_cons ⟨_, _, Tryz.func38, c_spec_l06Big⟩ <|
    is_cons ⟨_, _, Tryz.func39, c_spec_Unhex⟩ <|
    is_cons ⟨_, _, Tryz.func40, c_spec_l16Word⟩ <|
    is_cons ⟨_, _, Tryz.func41, c_spec_AskText⟩ <|
    is_cons ⟨_, _, Tryz.func42, c_strings_genSplit⟩ <|
    is_cons ⟨_, _, Tryz.func44, c_impl_in⟩ <|
    is_cons ⟨_, _, Tryz.func46, c_impl_DeviceNew⟩ <|
    is_cons ⟨_, _, Tryz.func47, c_impl_RootText⟩ <|
    is_cons ⟨_, _, Tryz.func48, c_impl_Unhex⟩ <|
    is_cons ⟨_, _, Tryz.func49, c_impl_opOf⟩ <|
    is_cons ⟨_, _, Tryz.func50, c_impl_AskText⟩ <|
    is_cons ⟨_, _, Tryz.func51, c_spec_l02Four⟩ <|
    is_cons ⟨_, _, Tryz.func52, c_spec_SumOf⟩ <|
    is_cons ⟨_, _, Tryz.func53, c_spec_l01Value⟩ <|
    is_cons ⟨_, _, Tryz.func54, c_spec_l14List⟩ <|
    is_cons ⟨_, _, Tryz.func55, c_spec_l14Numbers⟩ <|
    is_cons ⟨_, _, Tryz.func56, c_spec_l01Var⟩ <|
    is_cons ⟨_, _, Tryz.func57, c_strings_explode⟩ <|
    is_cons ⟨_, _, Tryz.func63, c_impl_Sealed⟩ <|
    is_cons ⟨_, _, Tryz.func65, c_impl_told⟩ <|
    is_cons ⟨_, _, Tryz.func66, c_impl_vars⟩ <|
    is_cons ⟨_, _, Tryz.func67, c_spec_SumMore⟩ <|
    is_cons ⟨_, _, Tryz.func69, c_unicode_utf8_DecodeRuneInString⟩ <|
    is_cons ⟨_, _, Tryz.func78, c_impl_SumOf⟩ <|
    is_cons ⟨_, _, Tryz.func80, c_impl_VarText⟩ <|
    is_cons ⟨_, _, Tryz.func89, c_impl_SumMore⟩ <|
    fun q hq => by cases hq
  exact fun f F hf => key _ (mem_lookup hf)
theorem sound {X : CallF} {W : World} (hX : SoundC Tryz.prog W X) (n : Nat) : SoundC Tryz.prog W (call T X n) := call_sound tab_ok hX (fun _ _ _ _ _ h => free_ok h) (fun _ _ _ _ _ h => opn_ok h) n
end Go.Proofs.YthfeahanmbmjhaaGreatDoor.Ab
