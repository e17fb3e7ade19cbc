/- The table of the functions, and that it is the program. No conditions. -/
import Derived.Test.YtafhipglhnfgnaaFC
import Derived.Test.YtafhipglhnfgnaaA3
namespace Go.Proofs.Ytafhipglhnfgnaa.Ab
open Go.RowKit
def tab:List (Nat × Fun):=[(n_laws_FnProves,F_laws_FnProves),(n_laws_big,F_laws_big),(n_spec_DrawAnyProof,F_spec_DrawAnyProof),(n_impl_ProofOk,F_impl_ProofOk),(n_spec_ProofOk,F_spec_ProofOk),(n_impl_Bound,F_impl_Bound),(n_spec_BestSums,F_spec_BestSums),(n_spec_DrawRightMatch,F_spec_DrawRightMatch),(n_spec_Solve,F_spec_Solve),(n_impl_Certifies,F_impl_Certifies),(n_spec_Certifies,F_spec_Certifies),(n_spec_MatchOk,F_spec_MatchOk),(n_laws_worth,F_laws_worth),(n_spec_l01New,F_spec_l01New),(n_spec_l08Graph,F_spec_l08Graph),(n_spec_l01Once,F_spec_l01Once),(n_spec_l01Below,F_spec_l01Below),(n_impl_GraphOk,F_impl_GraphOk),(n_impl_in,F_impl_in),(n_impl_groupOk,F_impl_groupOk),(n_impl_within,F_impl_within),(n_impl_slackOf,F_impl_slackOf),(n_spec_GraphOk,F_spec_GraphOk),(n_spec_l01In,F_spec_l01In),(n_spec_l11Nested,F_spec_l11Nested),(n_spec_l11Slack,F_spec_l11Slack),(n_impl_weight,F_impl_weight),(n_spec_l09Best,F_spec_l09Best),(n_spec_l09Match,F_spec_l09Match),(n_spec_l10Solve,F_spec_l10Solve),(n_spec_l10Groups,F_spec_l10Groups),(n_spec_l10IsTop,F_spec_l10IsTop),(n_spec_l10Open,F_spec_l10Open),(n_impl_MatchOk,F_impl_MatchOk),(n_impl_Scalar,F_impl_Scalar),(n_impl_edgeAt,F_impl_edgeAt),(n_spec_l11Worth,F_spec_l11Worth),(n_spec_l11Sum,F_spec_l11Sum),(n_spec_l08At,F_spec_l08At),(n_spec_l03In,F_spec_l03In),(n_spec_EdgeAt,F_spec_EdgeAt),(n_spec_Scalar,F_spec_Scalar),(n_impl_hasInt,F_impl_hasInt),(n_spec_l01PickInt,F_spec_l01PickInt),(n_spec_l01Byte,F_spec_l01Byte),(n_spec_l08Worth,F_spec_l08Worth),(n_spec_Better,F_spec_Better),(n_spec_l10Round,F_spec_l10Round),(n_spec_l10Within,F_spec_l10Within),(n_spec_l10Ahead,F_spec_l10Ahead),(n_spec_l10Base,F_spec_l10Base),(n_spec_l10Label,F_spec_l10Label),(n_spec_l10Adjust,F_spec_l10Adjust),(n_spec_l10Top,F_spec_l10Top),(n_spec_l10Shrink,F_spec_l10Shrink),(n_spec_l10Augment,F_spec_l10Augment),(n_spec_l10Mate,F_spec_l10Mate),(n_spec_l10Slack,F_spec_l10Slack),(n_spec_l10Step,F_spec_l10Step),(n_spec_l10First,F_spec_l10First),(n_spec_l10Way,F_spec_l10Way),(n_spec_l08Place,F_spec_l08Place),(n_spec_l10Without,F_spec_l10Without),(n_spec_l10Least,F_spec_l10Least)]
def T:FuncId→Option Fun:=fun f=>tab.lookup f
theorem t_laws_FnProves:T n_laws_FnProves=some F_laws_FnProves:=rfl
theorem t_laws_big:T n_laws_big=some F_laws_big:=rfl
theorem t_spec_DrawAnyProof:T n_spec_DrawAnyProof=some F_spec_DrawAnyProof:=rfl
theorem t_impl_ProofOk:T n_impl_ProofOk=some F_impl_ProofOk:=rfl
theorem t_spec_ProofOk:T n_spec_ProofOk=some F_spec_ProofOk:=rfl
theorem t_impl_Bound:T n_impl_Bound=some F_impl_Bound:=rfl
theorem t_spec_BestSums:T n_spec_BestSums=some F_spec_BestSums:=rfl
theorem t_spec_DrawRightMatch:T n_spec_DrawRightMatch=some F_spec_DrawRightMatch:=rfl
theorem t_spec_Solve:T n_spec_Solve=some F_spec_Solve:=rfl
theorem t_impl_Certifies:T n_impl_Certifies=some F_impl_Certifies:=rfl
theorem t_spec_Certifies:T n_spec_Certifies=some F_spec_Certifies:=rfl
theorem t_spec_MatchOk:T n_spec_MatchOk=some F_spec_MatchOk:=rfl
theorem t_laws_worth:T n_laws_worth=some F_laws_worth:=rfl
theorem t_spec_l01New:T n_spec_l01New=some F_spec_l01New:=rfl
theorem t_spec_l08Graph:T n_spec_l08Graph=some F_spec_l08Graph:=rfl
theorem t_spec_l01Once:T n_spec_l01Once=some F_spec_l01Once:=rfl
theorem t_spec_l01Below:T n_spec_l01Below=some F_spec_l01Below:=rfl
theorem t_impl_GraphOk:T n_impl_GraphOk=some F_impl_GraphOk:=rfl
theorem t_impl_in:T n_impl_in=some F_impl_in:=rfl
theorem t_impl_groupOk:T n_impl_groupOk=some F_impl_groupOk:=rfl
theorem t_impl_within:T n_impl_within=some F_impl_within:=rfl
theorem t_impl_slackOf:T n_impl_slackOf=some F_impl_slackOf:=rfl
theorem t_spec_GraphOk:T n_spec_GraphOk=some F_spec_GraphOk:=rfl
theorem t_spec_l01In:T n_spec_l01In=some F_spec_l01In:=rfl
theorem t_spec_l11Nested:T n_spec_l11Nested=some F_spec_l11Nested:=rfl
theorem t_spec_l11Slack:T n_spec_l11Slack=some F_spec_l11Slack:=rfl
theorem t_impl_weight:T n_impl_weight=some F_impl_weight:=rfl
theorem t_spec_l09Best:T n_spec_l09Best=some F_spec_l09Best:=rfl
theorem t_spec_l09Match:T n_spec_l09Match=some F_spec_l09Match:=rfl
theorem t_spec_l10Solve:T n_spec_l10Solve=some F_spec_l10Solve:=rfl
theorem t_spec_l10Groups:T n_spec_l10Groups=some F_spec_l10Groups:=rfl
theorem t_spec_l10IsTop:T n_spec_l10IsTop=some F_spec_l10IsTop:=rfl
theorem t_spec_l10Open:T n_spec_l10Open=some F_spec_l10Open:=rfl
theorem t_impl_MatchOk:T n_impl_MatchOk=some F_impl_MatchOk:=rfl
theorem t_impl_Scalar:T n_impl_Scalar=some F_impl_Scalar:=rfl
theorem t_impl_edgeAt:T n_impl_edgeAt=some F_impl_edgeAt:=rfl
theorem t_spec_l11Worth:T n_spec_l11Worth=some F_spec_l11Worth:=rfl
theorem t_spec_l11Sum:T n_spec_l11Sum=some F_spec_l11Sum:=rfl
theorem t_spec_l08At:T n_spec_l08At=some F_spec_l08At:=rfl
theorem t_spec_l03In:T n_spec_l03In=some F_spec_l03In:=rfl
theorem t_spec_EdgeAt:T n_spec_EdgeAt=some F_spec_EdgeAt:=rfl
theorem t_spec_Scalar:T n_spec_Scalar=some F_spec_Scalar:=rfl
theorem t_impl_hasInt:T n_impl_hasInt=some F_impl_hasInt:=rfl
theorem t_spec_l01PickInt:T n_spec_l01PickInt=some F_spec_l01PickInt:=rfl
theorem t_spec_l01Byte:T n_spec_l01Byte=some F_spec_l01Byte:=rfl
theorem t_spec_l08Worth:T n_spec_l08Worth=some F_spec_l08Worth:=rfl
theorem t_spec_Better:T n_spec_Better=some F_spec_Better:=rfl
theorem t_spec_l10Round:T n_spec_l10Round=some F_spec_l10Round:=rfl
theorem t_spec_l10Within:T n_spec_l10Within=some F_spec_l10Within:=rfl
theorem t_spec_l10Ahead:T n_spec_l10Ahead=some F_spec_l10Ahead:=rfl
theorem t_spec_l10Base:T n_spec_l10Base=some F_spec_l10Base:=rfl
theorem t_spec_l10Label:T n_spec_l10Label=some F_spec_l10Label:=rfl
theorem t_spec_l10Adjust:T n_spec_l10Adjust=some F_spec_l10Adjust:=rfl
theorem t_spec_l10Top:T n_spec_l10Top=some F_spec_l10Top:=rfl
theorem t_spec_l10Shrink:T n_spec_l10Shrink=some F_spec_l10Shrink:=rfl
theorem t_spec_l10Augment:T n_spec_l10Augment=some F_spec_l10Augment:=rfl
theorem t_spec_l10Mate:T n_spec_l10Mate=some F_spec_l10Mate:=rfl
theorem t_spec_l10Slack:T n_spec_l10Slack=some F_spec_l10Slack:=rfl
theorem t_spec_l10Step:T n_spec_l10Step=some F_spec_l10Step:=rfl
theorem t_spec_l10First:T n_spec_l10First=some F_spec_l10First:=rfl
theorem t_spec_l10Way:T n_spec_l10Way=some F_spec_l10Way:=rfl
theorem t_spec_l08Place:T n_spec_l08Place=some F_spec_l08Place:=rfl
theorem t_spec_l10Without:T n_spec_l10Without=some F_spec_l10Without:=rfl
theorem t_spec_l10Least:T n_spec_l10Least=some F_spec_l10Least:=rfl
theorem mem_lookup {l:List (Nat × Fun)} {f:Nat} {F:Fun} (h:l.lookup f=some F):(f,F)∈l:=by
  induction l with
  | nil=>simp at h
  | cons p l ih =>
    obtain ⟨a,b⟩:=p;rw [List.lookup_cons] at h;split at h
    · rename_i he
      cases h
      have:f=a:=by simpa using he
      subst this;exact List.mem_cons_self
    · exact List.mem_cons_of_mem _ (ih h)
def TabIs (p:Nat × Fun):Prop:=∃ fn b,Try.prog.funcs[p.1]?=some fn∧compFun b Try.prog fn=some p.2.bare
theorem is_cons {p:Nat × Fun} {l:List (Nat × Fun)} (h:TabIs p) (hl:∀ q∈l,TabIs q):∀ q∈p::l,TabIs q:=by
  intro q hq;rcases List.mem_cons.1 hq with rfl | hq
  · exact h
  · exact hl q hq
set_option maxRecDepth 100000 in
theorem tab_ok:TabOk Try.prog T:=by
  have key:∀ q∈tab,TabIs q :=
    is_cons ⟨_,_,Try.func3,c_laws_FnProves⟩ <|
    is_cons ⟨_,_,Try.func10,c_laws_big⟩ <|
    is_cons ⟨_,_,Try.func11,c_spec_DrawAnyProof⟩ <|
    is_cons ⟨_,_,Try.func12,c_impl_ProofOk⟩ <|
    is_cons ⟨_,_,Try.func13,c_spec_ProofOk⟩ <|
    is_cons ⟨_,_,Try.func14,c_impl_Bound⟩ <|
    is_cons ⟨_,_,Try.func15,c_spec_BestSums⟩ <|
    is_cons ⟨_,_,Try.func16,c_spec_DrawRightMatch⟩ <|
    is_cons ⟨_,_,Try.func17,c_spec_Solve⟩ <|
    is_cons ⟨_,_,Try.func18,c_impl_Certifies⟩ <|
    is_cons ⟨_,_,Try.func19,c_spec_Certifies⟩ <|
    is_cons ⟨_,_,Try.func20,c_spec_MatchOk⟩ <|
    is_cons ⟨_,_,Try.func21,c_laws_worth⟩ <|
    is_cons ⟨_,_,Try.func47,c_spec_l01New⟩ <|
    is_cons ⟨_,_,Try.func48,c_spec_l08Graph⟩ <|
    is_cons ⟨_,_,Try.func49,c_spec_l01Once⟩ <|
    is_cons ⟨_,_,Try.func50,c_spec_l01Below⟩ <|
    is_cons ⟨_,_,Try.func51,c_impl_GraphOk⟩ <|
    is_cons ⟨_,_,Try.func52,c_impl_in⟩ <|
    is_cons ⟨_,_,Try.func53,c_impl_groupOk⟩ <|
    is_cons ⟨_,_,Try.func54,c_impl_within⟩ <|
    is_cons ⟨_,_,Try.func55,c_impl_slackOf⟩ <|
    is_cons ⟨_,_,Try.func56,c_spec_GraphOk⟩ <|
    is_cons ⟨_,_,Try.func57,c_spec_l01In⟩ <|
    is_cons ⟨_,_,Try.func58,c_spec_l11Nested⟩ <|
    is_cons ⟨_,_,Try.func59,c_spec_l11Slack⟩ <|
    is_cons ⟨_,_,Try.func60,c_impl_weight⟩ <|
    is_cons ⟨_,_,Try.func61,c_spec_l09Best⟩ <|
    is_cons ⟨_,_,Try.func62,c_spec_l09Match⟩ <|
    is_cons ⟨_,_,Try.func63,c_spec_l10Solve⟩ <|
    is_cons ⟨_,_,Try.func64,c_spec_l10Groups⟩ <|
    is_cons ⟨_,_,Try.func65,c_spec_l10IsTop⟩ <|
    is_cons ⟨_,_,Try.func66,c_spec_l10Open⟩ <|
    is_cons ⟨_,_,Try.func67,c_impl_MatchOk⟩ <|
    is_cons ⟨_,_,Try.func68,c_impl_Scalar⟩ <|
    is_cons ⟨_,_,Try.func69,c_impl_edgeAt⟩ <|
    is_cons ⟨_,_,Try.func70,c_spec_l11Worth⟩ <|
    is_cons ⟨_,_,Try.func71,c_spec_l11Sum⟩ <|
    is_cons ⟨_,_,Try.func72,c_spec_l08At⟩ <|
    is_cons ⟨_,_,Try.func73,c_spec_l03In⟩ <|
    is_cons ⟨_,_,Try.func74,c_spec_EdgeAt⟩ <|
    is_cons ⟨_,_,Try.func75,c_spec_Scalar⟩ <|
    is_cons ⟨_,_,Try.func80,c_impl_hasInt⟩ <|
    is_cons ⟨_,_,Try.func90,c_spec_l01PickInt⟩ <|
    is_cons ⟨_,_,Try.func94,c_spec_l01Byte⟩ <|
    is_cons ⟨_,_,Try.func100,c_spec_l08Worth⟩ <|
    is_cons ⟨_,_,Try.func101,c_spec_Better⟩ <|
    is_cons ⟨_,_,Try.func102,c_spec_l10Round⟩ <|
    is_cons ⟨_,_,Try.func103,c_spec_l10Within⟩ <|
    is_cons ⟨_,_,Try.func104,c_spec_l10Ahead⟩ <|
    is_cons ⟨_,_,Try.func105,c_spec_l10Base⟩ <|
    is_cons ⟨_,_,Try.func120,c_spec_l10Label⟩ <|
    is_cons ⟨_,_,Try.func121,c_spec_l10Adjust⟩ <|
    is_cons ⟨_,_,Try.func122,c_spec_l10Top⟩ <|
    is_cons ⟨_,_,Try.func123,c_spec_l10Shrink⟩ <|
    is_cons ⟨_,_,Try.func124,c_spec_l10Augment⟩ <|
    is_cons ⟨_,_,Try.func125,c_spec_l10Mate⟩ <|
    is_cons ⟨_,_,Try.func141,c_spec_l10Slack⟩ <|
    is_cons ⟨_,_,Try.func142,c_spec_l10Step⟩ <|
    is_cons ⟨_,_,Try.func143,c_spec_l10First⟩ <|
    is_cons ⟨_,_,Try.func144,c_spec_l10Way⟩ <|
    is_cons ⟨_,_,Try.func145,c_spec_l08Place⟩ <|
    is_cons ⟨_,_,Try.func146,c_spec_l10Without⟩ <|
    is_cons ⟨_,_,Try.func163,c_spec_l10Least⟩ <|
    fun q hq=>by cases hq
  exact fun f F hf=>key _ (mem_lookup hf)
theorem sound {X:CallF} {W:World} (hX:SoundC Try.prog W X) (n:Nat):SoundC Try.prog W (call T X n):=call_sound tab_ok hX (fun _ _ _ _ _ h=>free_ok h) (fun _ _ _ _ _ h=>opn_ok h) n
end Go.Proofs.Ytafhipglhnfgnaa.Ab
