/- The table of the functions, and that it is the program. No conditions. -/
import Derived.Test.YtafhipglhnfgnaaFC
import Derived.Test.YtafhipglhnfgnaaA3
namespace Go.Proofs.Ytafhipglhnfgnaa.Ab
open Go.RowKit
def tab : List (Nat × Fun) := [(n_laws_FnBlocks, F_laws_FnBlocks), (n_laws_big, F_laws_big), (n_spec_Solve, F_spec_Solve), (n_spec_DrawRightGraph, F_spec_DrawRightGraph), (n_impl_Blocks, F_impl_Blocks), (n_impl_MostCouples, F_impl_MostCouples), (n_impl_OddParts, F_impl_OddParts), (n_spec_MostCouples, F_spec_MostCouples), (n_spec_DrawPlaces, F_spec_DrawPlaces), (n_spec_l01New, F_spec_l01New), (n_spec_l08Graph, F_spec_l08Graph), (n_spec_l01Once, F_spec_l01Once), (n_spec_l01Below, F_spec_l01Below), (n_impl_GraphOk, F_impl_GraphOk), (n_impl_in, F_impl_in), (n_spec_GraphOk, F_spec_GraphOk), (n_spec_l01In, F_spec_l01In), (n_spec_l09Best, F_spec_l09Best), (n_spec_l10Solve, F_spec_l10Solve), (n_spec_l10Groups, F_spec_l10Groups), (n_spec_l10IsTop, F_spec_l10IsTop), (n_spec_l10Open, F_spec_l10Open), (n_spec_l08At, F_spec_l08At), (n_spec_l03In, F_spec_l03In), (n_spec_Scalar, F_spec_Scalar), (n_impl_pieces, F_impl_pieces), (n_impl_hasInt, F_impl_hasInt), (n_spec_l01PickInt, F_spec_l01PickInt), (n_impl_listLess, F_impl_listLess), (n_impl_every, F_impl_every), (n_impl_MostCouples_1, F_impl_MostCouples_1), (n_spec_l01Byte, F_spec_l01Byte), (n_spec_l08Worth, F_spec_l08Worth), (n_spec_Better, F_spec_Better), (n_spec_l10Round, F_spec_l10Round), (n_spec_l10Within, F_spec_l10Within), (n_spec_l10Ahead, F_spec_l10Ahead), (n_spec_l10Base, F_spec_l10Base), (n_impl_Sums_plus, F_impl_Sums_plus), (n_spec_l10Label, F_spec_l10Label), (n_spec_l10Adjust, F_spec_l10Adjust), (n_spec_l10Top, F_spec_l10Top), (n_spec_l10Shrink, F_spec_l10Shrink), (n_spec_l10Augment, F_spec_l10Augment), (n_spec_l10Mate, F_spec_l10Mate), (n_spec_l10Slack, F_spec_l10Slack), (n_spec_l10Step, F_spec_l10Step), (n_spec_l10First, F_spec_l10First), (n_spec_l10Way, F_spec_l10Way), (n_spec_l08Place, F_spec_l08Place), (n_spec_l10Without, F_spec_l10Without), (n_spec_l10Least, F_spec_l10Least)]
def T : FuncId → Option Fun := fun f => tab.lookup f
theorem t_laws_FnBlocks : T n_laws_FnBlocks = some F_laws_FnBlocks := rfl
theorem t_laws_big : T n_laws_big = some F_laws_big := rfl
theorem t_spec_Solve : T n_spec_Solve = some F_spec_Solve := rfl
theorem t_spec_DrawRightGraph : T n_spec_DrawRightGraph = some F_spec_DrawRightGraph := rfl
theorem t_impl_Blocks : T n_impl_Blocks = some F_impl_Blocks := rfl
theorem t_impl_MostCouples : T n_impl_MostCouples = some F_impl_MostCouples := rfl
theorem t_impl_OddParts : T n_impl_OddParts = some F_impl_OddParts := rfl
theorem t_spec_MostCouples : T n_spec_MostCouples = some F_spec_MostCouples := rfl
theorem t_spec_DrawPlaces : T n_spec_DrawPlaces = some F_spec_DrawPlaces := rfl
theorem t_spec_l01New : T n_spec_l01New = some F_spec_l01New := rfl
theorem t_spec_l08Graph : T n_spec_l08Graph = some F_spec_l08Graph := rfl
theorem t_spec_l01Once : T n_spec_l01Once = some F_spec_l01Once := rfl
theorem t_spec_l01Below : T n_spec_l01Below = some F_spec_l01Below := rfl
theorem t_impl_GraphOk : T n_impl_GraphOk = some F_impl_GraphOk := rfl
theorem t_impl_in : T n_impl_in = some F_impl_in := rfl
theorem t_spec_GraphOk : T n_spec_GraphOk = some F_spec_GraphOk := rfl
theorem t_spec_l01In : T n_spec_l01In = some F_spec_l01In := rfl
theorem t_spec_l09Best : T n_spec_l09Best = some F_spec_l09Best := rfl
theorem t_spec_l10Solve : T n_spec_l10Solve = some F_spec_l10Solve := rfl
theorem t_spec_l10Groups : T n_spec_l10Groups = some F_spec_l10Groups := rfl
theorem t_spec_l10IsTop : T n_spec_l10IsTop = some F_spec_l10IsTop := rfl
theorem t_spec_l10Open : T n_spec_l10Open = some F_spec_l10Open := rfl
theorem t_spec_l08At : T n_spec_l08At = some F_spec_l08At := rfl
theorem t_spec_l03In : T n_spec_l03In = some F_spec_l03In := rfl
theorem t_spec_Scalar : T n_spec_Scalar = some F_spec_Scalar := rfl
theorem t_impl_pieces : T n_impl_pieces = some F_impl_pieces := rfl
theorem t_impl_hasInt : T n_impl_hasInt = some F_impl_hasInt := rfl
theorem t_spec_l01PickInt : T n_spec_l01PickInt = some F_spec_l01PickInt := rfl
theorem t_impl_listLess : T n_impl_listLess = some F_impl_listLess := rfl
theorem t_impl_every : T n_impl_every = some F_impl_every := rfl
theorem t_impl_MostCouples_1 : T n_impl_MostCouples_1 = some F_impl_MostCouples_1 := rfl
theorem t_spec_l01Byte : T n_spec_l01Byte = some F_spec_l01Byte := rfl
theorem t_spec_l08Worth : T n_spec_l08Worth = some F_spec_l08Worth := rfl
theorem t_spec_Better : T n_spec_Better = some F_spec_Better := rfl
theorem t_spec_l10Round : T n_spec_l10Round = some F_spec_l10Round := rfl
theorem t_spec_l10Within : T n_spec_l10Within = some F_spec_l10Within := rfl
theorem t_spec_l10Ahead : T n_spec_l10Ahead = some F_spec_l10Ahead := rfl
theorem t_spec_l10Base : T n_spec_l10Base = some F_spec_l10Base := rfl
theorem t_impl_Sums_plus : T n_impl_Sums_plus = some F_impl_Sums_plus := rfl
theorem t_spec_l10Label : T n_spec_l10Label = some F_spec_l10Label := rfl
theorem t_spec_l10Adjust : T n_spec_l10Adjust = some F_spec_l10Adjust := rfl
theorem t_spec_l10Top : T n_spec_l10Top = some F_spec_l10Top := rfl
theorem t_spec_l10Shrink : T n_spec_l10Shrink = some F_spec_l10Shrink := rfl
theorem t_spec_l10Augment : T n_spec_l10Augment = some F_spec_l10Augment := rfl
theorem t_spec_l10Mate : T n_spec_l10Mate = some F_spec_l10Mate := rfl
theorem t_spec_l10Slack : T n_spec_l10Slack = some F_spec_l10Slack := rfl
theorem t_spec_l10Step : T n_spec_l10Step = some F_spec_l10Step := rfl
theorem t_spec_l10First : T n_spec_l10First = some F_spec_l10First := rfl
theorem t_spec_l10Way : T n_spec_l10Way = some F_spec_l10Way := rfl
theorem t_spec_l08Place : T n_spec_l08Place = some F_spec_l08Place := rfl
theorem t_spec_l10Without : T n_spec_l10Without = some F_spec_l10Without := rfl
theorem t_spec_l10Least : T n_spec_l10Least = some F_spec_l10Least := rfl
theorem mem_lookup {l : List (Nat × Fun)} {f : Nat} {F : Fun} (h : l.lookup f = some F) : (f, F) ∈ l := by
  induction l with
  | nil => simp at h
  | cons p l ih =>
    obtain ⟨a, b⟩ := p; rw [List.lookup_cons] at h; split at h
    · rename_i he
      cases h
      have : f = a := by simpa using he
      subst this; exact List.mem_cons_self
    · exact List.mem_cons_of_mem _ (ih h)
def TabIs (p : Nat × Fun) : Prop := ∃ fn, Try.prog.funcs[p.1]? = some fn ∧ compFun Try.prog fn = some p.2.bare
theorem is_cons {p : Nat × Fun} {l : List (Nat × Fun)} (h : TabIs p) (hl : ∀ q ∈ l, TabIs q) : ∀ q ∈ p :: l, TabIs q := by
  intro q hq; rcases List.mem_cons.1 hq with rfl | hq
  · exact h
  · exact hl q hq
set_option maxRecDepth 100000 in
theorem tab_ok : TabOk Try.prog T := by
  have key : ∀ q ∈ tab, TabIs q :=
    is_cons ⟨_, Try.func7, c_laws_FnBlocks⟩ <|
    is_cons ⟨_, Try.func10, c_laws_big⟩ <|
    is_cons ⟨_, Try.func17, c_spec_Solve⟩ <|
    is_cons ⟨_, Try.func22, c_spec_DrawRightGraph⟩ <|
    is_cons ⟨_, Try.func37, c_impl_Blocks⟩ <|
    is_cons ⟨_, Try.func38, c_impl_MostCouples⟩ <|
    is_cons ⟨_, Try.func39, c_impl_OddParts⟩ <|
    is_cons ⟨_, Try.func40, c_spec_MostCouples⟩ <|
    is_cons ⟨_, Try.func41, c_spec_DrawPlaces⟩ <|
    is_cons ⟨_, Try.func47, c_spec_l01New⟩ <|
    is_cons ⟨_, Try.func48, c_spec_l08Graph⟩ <|
    is_cons ⟨_, Try.func49, c_spec_l01Once⟩ <|
    is_cons ⟨_, Try.func50, c_spec_l01Below⟩ <|
    is_cons ⟨_, Try.func51, c_impl_GraphOk⟩ <|
    is_cons ⟨_, Try.func52, c_impl_in⟩ <|
    is_cons ⟨_, Try.func56, c_spec_GraphOk⟩ <|
    is_cons ⟨_, Try.func57, c_spec_l01In⟩ <|
    is_cons ⟨_, Try.func61, c_spec_l09Best⟩ <|
    is_cons ⟨_, Try.func63, c_spec_l10Solve⟩ <|
    is_cons ⟨_, Try.func64, c_spec_l10Groups⟩ <|
    is_cons ⟨_, Try.func65, c_spec_l10IsTop⟩ <|
    is_cons ⟨_, Try.func66, c_spec_l10Open⟩ <|
    is_cons ⟨_, Try.func72, c_spec_l08At⟩ <|
    is_cons ⟨_, Try.func73, c_spec_l03In⟩ <|
    is_cons ⟨_, Try.func75, c_spec_Scalar⟩ <|
    is_cons ⟨_, Try.func77, c_impl_pieces⟩ <|
    is_cons ⟨_, Try.func80, c_impl_hasInt⟩ <|
    is_cons ⟨_, Try.func90, c_spec_l01PickInt⟩ <|
    is_cons ⟨_, Try.func91, c_impl_listLess⟩ <|
    is_cons ⟨_, Try.func92, c_impl_every⟩ <|
    is_cons ⟨_, Try.func93, c_impl_MostCouples_1⟩ <|
    is_cons ⟨_, Try.func94, c_spec_l01Byte⟩ <|
    is_cons ⟨_, Try.func100, c_spec_l08Worth⟩ <|
    is_cons ⟨_, Try.func101, c_spec_Better⟩ <|
    is_cons ⟨_, Try.func102, c_spec_l10Round⟩ <|
    is_cons ⟨_, Try.func103, c_spec_l10Within⟩ <|
    is_cons ⟨_, Try.func104, c_spec_l10Ahead⟩ <|
    is_cons ⟨_, Try.func105, c_spec_l10Base⟩ <|
    is_cons ⟨_, Try.func112, c_impl_Sums_plus⟩ <|
    is_cons ⟨_, Try.func120, c_spec_l10Label⟩ <|
    is_cons ⟨_, Try.func121, c_spec_l10Adjust⟩ <|
    is_cons ⟨_, Try.func122, c_spec_l10Top⟩ <|
    is_cons ⟨_, Try.func123, c_spec_l10Shrink⟩ <|
    is_cons ⟨_, Try.func124, c_spec_l10Augment⟩ <|
    is_cons ⟨_, Try.func125, c_spec_l10Mate⟩ <|
    is_cons ⟨_, Try.func141, c_spec_l10Slack⟩ <|
    is_cons ⟨_, Try.func142, c_spec_l10Step⟩ <|
    is_cons ⟨_, Try.func143, c_spec_l10First⟩ <|
    is_cons ⟨_, Try.func144, c_spec_l10Way⟩ <|
    is_cons ⟨_, Try.func145, c_spec_l08Place⟩ <|
    is_cons ⟨_, Try.func146, c_spec_l10Without⟩ <|
    is_cons ⟨_, Try.func163, c_spec_l10Least⟩ <|
    fun q hq => by cases hq
  exact fun f F hf => key _ (mem_lookup hf)
theorem sound {X : CallF} {W : World} (hX : SoundC Try.prog W X) (n : Nat) : SoundC Try.prog W (call T X n) := call_sound tab_ok hX (fun _ _ _ _ _ h => free_ok h) n
end Go.Proofs.Ytafhipglhnfgnaa.Ab
