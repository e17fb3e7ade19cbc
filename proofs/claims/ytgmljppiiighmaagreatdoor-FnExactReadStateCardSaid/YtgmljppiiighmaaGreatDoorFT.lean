/- The table of the functions, and that it is the program. No conditions. -/
import Derived.Test.YtgmljppiiighmaaGreatDoorFC
import Derived.Test.YtgmljppiiighmaaGreatDoorA3
namespace Go.Proofs.YtgmljppiiighmaaGreatDoor.Ab
open Go.RowKit
def tab : List (Nat × Fun) := [(n_laws_FnExactReadState, F_laws_FnExactReadState), (n_laws_eqPairS, F_laws_eqPairS), (n_spec_StateText, F_spec_StateText), (n_spec_ReadState, F_spec_ReadState), (n_impl_ReadState, F_impl_ReadState), (n_laws_markPairS, F_laws_markPairS), (n_laws_heldPairS, F_laws_heldPairS), (n_spec_Decimal, F_spec_Decimal), (n_spec_l13Pool, F_spec_l13Pool), (n_spec_l03In, F_spec_l03In), (n_impl_hasInt, F_impl_hasInt), (n_laws_eqPair, F_laws_eqPair), (n_spec_StateOk, F_spec_StateOk), (n_spec_l01In, F_spec_l01In), (n_spec_l13Get, F_spec_l13Get), (n_spec_l13Two, F_spec_l13Two), (n_spec_ReadDecimal, F_spec_ReadDecimal), (n_impl_StateOk, F_impl_StateOk), (n_impl_in, F_impl_in), (n_impl_get, F_impl_get), (n_impl_two, F_impl_two), (n_spec_l01Var, F_spec_l01Var), (n_spec_l04Short, F_spec_l04Short), (n_spec_Sealed, F_spec_Sealed), (n_impl_Sealed, F_impl_Sealed), (n_spec_Unsealed, F_spec_Unsealed), (n_spec_ReadVar, F_spec_ReadVar), (n_spec_ReadShort, F_spec_ReadShort), (n_impl_Unsealed, F_impl_Unsealed), (n_impl_reader_num, F_impl_reader_num), (n_impl_reader_short, F_impl_reader_short), (n_impl_reader_ends, F_impl_reader_ends), (n_laws_markText, F_laws_markText), (n_spec_l13Rounds, F_spec_l13Rounds), (n_impl_roundsOf, F_impl_roundsOf), (n_spec_l01Figure, F_spec_l01Figure), (n_impl_certOf, F_impl_certOf), (n_impl_ReadCert, F_impl_ReadCert), (n_spec_MapOk, F_spec_MapOk), (n_spec_l13KeyOk, F_spec_l13KeyOk), (n_spec_l13RoundOk, F_spec_l13RoundOk), (n_spec_CertParts, F_spec_CertParts), (n_spec_l13Text, F_spec_l13Text), (n_impl_MapOk, F_impl_MapOk), (n_impl_idOk, F_impl_idOk), (n_impl_linkOk, F_impl_linkOk), (n_impl_poolOk, F_impl_poolOk), (n_impl_partOk, F_impl_partOk), (n_spec_l02Four, F_spec_l02Four), (n_spec_SumOf, F_spec_SumOf), (n_impl_SumOf, F_impl_SumOf), (n_impl_ReadVar, F_impl_ReadVar), (n_impl_ReadShort, F_impl_ReadShort), (n_spec_ReadCert, F_spec_ReadCert), (n_spec_GraphOk, F_spec_GraphOk), (n_spec_MatchOk, F_spec_MatchOk), (n_spec_l13Num, F_spec_l13Num), (n_impl_GraphOk, F_impl_GraphOk), (n_impl_MatchOk, F_impl_MatchOk), (n_impl_edgeAt, F_impl_edgeAt), (n_impl_reader_group, F_impl_reader_group), (n_impl_Certifies, F_impl_Certifies), (n_impl_readTwo, F_impl_readTwo), (n_impl_joined, F_impl_joined), (n_impl_CertParts, F_impl_CertParts), (n_spec_SumMore, F_spec_SumMore), (n_impl_SumMore, F_impl_SumMore), (n_spec_l12Var, F_spec_l12Var), (n_spec_CertText, F_spec_CertText), (n_spec_l08Worth, F_spec_l08Worth), (n_spec_l08At, F_spec_l08At), (n_impl_ProofOk, F_impl_ProofOk), (n_impl_Scalar, F_impl_Scalar), (n_impl_weight, F_impl_weight), (n_spec_Certifies, F_spec_Certifies), (n_impl_groupOk, F_impl_groupOk), (n_impl_within, F_impl_within), (n_impl_slackOf, F_impl_slackOf), (n_spec_ProofOk, F_spec_ProofOk), (n_spec_l11Worth, F_spec_l11Worth), (n_spec_l11Sum, F_spec_l11Sum), (n_spec_l11Nested, F_spec_l11Nested), (n_spec_l11Slack, F_spec_l11Slack), (n_spec_Scalar, F_spec_Scalar)]
def T : FuncId → Option Fun := fun f => tab.lookup f
theorem t_laws_FnExactReadState : T n_laws_FnExactReadState = some F_laws_FnExactReadState := rfl
theorem t_laws_eqPairS : T n_laws_eqPairS = some F_laws_eqPairS := rfl
theorem t_spec_StateText : T n_spec_StateText = some F_spec_StateText := rfl
theorem t_spec_ReadState : T n_spec_ReadState = some F_spec_ReadState := rfl
theorem t_impl_ReadState : T n_impl_ReadState = some F_impl_ReadState := rfl
theorem t_laws_markPairS : T n_laws_markPairS = some F_laws_markPairS := rfl
theorem t_laws_heldPairS : T n_laws_heldPairS = some F_laws_heldPairS := rfl
theorem t_spec_Decimal : T n_spec_Decimal = some F_spec_Decimal := rfl
theorem t_spec_l13Pool : T n_spec_l13Pool = some F_spec_l13Pool := rfl
theorem t_spec_l03In : T n_spec_l03In = some F_spec_l03In := rfl
theorem t_impl_hasInt : T n_impl_hasInt = some F_impl_hasInt := rfl
theorem t_laws_eqPair : T n_laws_eqPair = some F_laws_eqPair := rfl
theorem t_spec_StateOk : T n_spec_StateOk = some F_spec_StateOk := rfl
theorem t_spec_l01In : T n_spec_l01In = some F_spec_l01In := rfl
theorem t_spec_l13Get : T n_spec_l13Get = some F_spec_l13Get := rfl
theorem t_spec_l13Two : T n_spec_l13Two = some F_spec_l13Two := rfl
theorem t_spec_ReadDecimal : T n_spec_ReadDecimal = some F_spec_ReadDecimal := rfl
theorem t_impl_StateOk : T n_impl_StateOk = some F_impl_StateOk := rfl
theorem t_impl_in : T n_impl_in = some F_impl_in := rfl
theorem t_impl_get : T n_impl_get = some F_impl_get := rfl
theorem t_impl_two : T n_impl_two = some F_impl_two := rfl
theorem t_spec_l01Var : T n_spec_l01Var = some F_spec_l01Var := rfl
theorem t_spec_l04Short : T n_spec_l04Short = some F_spec_l04Short := rfl
theorem t_spec_Sealed : T n_spec_Sealed = some F_spec_Sealed := rfl
theorem t_impl_Sealed : T n_impl_Sealed = some F_impl_Sealed := rfl
theorem t_spec_Unsealed : T n_spec_Unsealed = some F_spec_Unsealed := rfl
theorem t_spec_ReadVar : T n_spec_ReadVar = some F_spec_ReadVar := rfl
theorem t_spec_ReadShort : T n_spec_ReadShort = some F_spec_ReadShort := rfl
theorem t_impl_Unsealed : T n_impl_Unsealed = some F_impl_Unsealed := rfl
theorem t_impl_reader_num : T n_impl_reader_num = some F_impl_reader_num := rfl
theorem t_impl_reader_short : T n_impl_reader_short = some F_impl_reader_short := rfl
theorem t_impl_reader_ends : T n_impl_reader_ends = some F_impl_reader_ends := rfl
theorem t_laws_markText : T n_laws_markText = some F_laws_markText := rfl
theorem t_spec_l13Rounds : T n_spec_l13Rounds = some F_spec_l13Rounds := rfl
theorem t_impl_roundsOf : T n_impl_roundsOf = some F_impl_roundsOf := rfl
theorem t_spec_l01Figure : T n_spec_l01Figure = some F_spec_l01Figure := rfl
theorem t_impl_certOf : T n_impl_certOf = some F_impl_certOf := rfl
theorem t_impl_ReadCert : T n_impl_ReadCert = some F_impl_ReadCert := rfl
theorem t_spec_MapOk : T n_spec_MapOk = some F_spec_MapOk := rfl
theorem t_spec_l13KeyOk : T n_spec_l13KeyOk = some F_spec_l13KeyOk := rfl
theorem t_spec_l13RoundOk : T n_spec_l13RoundOk = some F_spec_l13RoundOk := rfl
theorem t_spec_CertParts : T n_spec_CertParts = some F_spec_CertParts := rfl
theorem t_spec_l13Text : T n_spec_l13Text = some F_spec_l13Text := rfl
theorem t_impl_MapOk : T n_impl_MapOk = some F_impl_MapOk := rfl
theorem t_impl_idOk : T n_impl_idOk = some F_impl_idOk := rfl
theorem t_impl_linkOk : T n_impl_linkOk = some F_impl_linkOk := rfl
theorem t_impl_poolOk : T n_impl_poolOk = some F_impl_poolOk := rfl
theorem t_impl_partOk : T n_impl_partOk = some F_impl_partOk := rfl
theorem t_spec_l02Four : T n_spec_l02Four = some F_spec_l02Four := rfl
theorem t_spec_SumOf : T n_spec_SumOf = some F_spec_SumOf := rfl
theorem t_impl_SumOf : T n_impl_SumOf = some F_impl_SumOf := rfl
theorem t_impl_ReadVar : T n_impl_ReadVar = some F_impl_ReadVar := rfl
theorem t_impl_ReadShort : T n_impl_ReadShort = some F_impl_ReadShort := rfl
theorem t_spec_ReadCert : T n_spec_ReadCert = some F_spec_ReadCert := rfl
theorem t_spec_GraphOk : T n_spec_GraphOk = some F_spec_GraphOk := rfl
theorem t_spec_MatchOk : T n_spec_MatchOk = some F_spec_MatchOk := rfl
theorem t_spec_l13Num : T n_spec_l13Num = some F_spec_l13Num := rfl
theorem t_impl_GraphOk : T n_impl_GraphOk = some F_impl_GraphOk := rfl
theorem t_impl_MatchOk : T n_impl_MatchOk = some F_impl_MatchOk := rfl
theorem t_impl_edgeAt : T n_impl_edgeAt = some F_impl_edgeAt := rfl
theorem t_impl_reader_group : T n_impl_reader_group = some F_impl_reader_group := rfl
theorem t_impl_Certifies : T n_impl_Certifies = some F_impl_Certifies := rfl
theorem t_impl_readTwo : T n_impl_readTwo = some F_impl_readTwo := rfl
theorem t_impl_joined : T n_impl_joined = some F_impl_joined := rfl
theorem t_impl_CertParts : T n_impl_CertParts = some F_impl_CertParts := rfl
theorem t_spec_SumMore : T n_spec_SumMore = some F_spec_SumMore := rfl
theorem t_impl_SumMore : T n_impl_SumMore = some F_impl_SumMore := rfl
theorem t_spec_l12Var : T n_spec_l12Var = some F_spec_l12Var := rfl
theorem t_spec_CertText : T n_spec_CertText = some F_spec_CertText := rfl
theorem t_spec_l08Worth : T n_spec_l08Worth = some F_spec_l08Worth := rfl
theorem t_spec_l08At : T n_spec_l08At = some F_spec_l08At := rfl
theorem t_impl_ProofOk : T n_impl_ProofOk = some F_impl_ProofOk := rfl
theorem t_impl_Scalar : T n_impl_Scalar = some F_impl_Scalar := rfl
theorem t_impl_weight : T n_impl_weight = some F_impl_weight := rfl
theorem t_spec_Certifies : T n_spec_Certifies = some F_spec_Certifies := rfl
theorem t_impl_groupOk : T n_impl_groupOk = some F_impl_groupOk := rfl
theorem t_impl_within : T n_impl_within = some F_impl_within := rfl
theorem t_impl_slackOf : T n_impl_slackOf = some F_impl_slackOf := rfl
theorem t_spec_ProofOk : T n_spec_ProofOk = some F_spec_ProofOk := rfl
theorem t_spec_l11Worth : T n_spec_l11Worth = some F_spec_l11Worth := rfl
theorem t_spec_l11Sum : T n_spec_l11Sum = some F_spec_l11Sum := rfl
theorem t_spec_l11Nested : T n_spec_l11Nested = some F_spec_l11Nested := rfl
theorem t_spec_l11Slack : T n_spec_l11Slack = some F_spec_l11Slack := rfl
theorem t_spec_Scalar : T n_spec_Scalar = some F_spec_Scalar := rfl
theorem mem_lookup {l : List (Nat × Fun)} {f : Nat} {F : Fun} (h : l.lookup f = some F) : (f, F) ∈ l := by
  induction l with
  | nil => simp at h
  | cons p l ih =>
    obtain ⟨a, b⟩ := p
    rw [List.lookup_cons] at h
    split at h
    · rename_i he
      cases h
      have : f = a := by simpa using he
      subst this
      exact List.mem_cons_self
    · exact List.mem_cons_of_mem _ (ih h)
def TabIs (p : Nat × Fun) : Prop := ∃ fn, Tryz.prog.funcs[p.1]? = some fn ∧ compFun Tryz.prog fn = some p.2.bare
theorem is_cons {p : Nat × Fun} {l : List (Nat × Fun)} (h : TabIs p) (hl : ∀ q ∈ l, TabIs q) : ∀ q ∈ p :: l, TabIs q := by
  intro q hq
  rcases List.mem_cons.1 hq with rfl | hq
  · exact h
  · exact hl q hq
set_option maxRecDepth 100000 in
theorem tab_ok : TabOk Tryz.prog T := by
  have key : ∀ q ∈ tab, TabIs q :=
    is_cons ⟨_, Tryz.func6, c_laws_FnExactReadState⟩ <|
    is_cons ⟨_, Tryz.func12, c_laws_eqPairS⟩ <|
    is_cons ⟨_, Tryz.func15, c_spec_StateText⟩ <|
    is_cons ⟨_, Tryz.func17, c_spec_ReadState⟩ <|
    is_cons ⟨_, Tryz.func18, c_impl_ReadState⟩ <|
    is_cons ⟨_, Tryz.func19, c_laws_markPairS⟩ <|
    is_cons ⟨_, Tryz.func20, c_laws_heldPairS⟩ <|
    is_cons ⟨_, Tryz.func25, c_spec_Decimal⟩ <|
    is_cons ⟨_, Tryz.func26, c_spec_l13Pool⟩ <|
    is_cons ⟨_, Tryz.func27, c_spec_l03In⟩ <|
    is_cons ⟨_, Tryz.func32, c_impl_hasInt⟩ <|
    is_cons ⟨_, Tryz.func33, c_laws_eqPair⟩ <|
    is_cons ⟨_, Tryz.func34, c_spec_StateOk⟩ <|
    is_cons ⟨_, Tryz.func35, c_spec_l01In⟩ <|
    is_cons ⟨_, Tryz.func36, c_spec_l13Get⟩ <|
    is_cons ⟨_, Tryz.func37, c_spec_l13Two⟩ <|
    is_cons ⟨_, Tryz.func38, c_spec_ReadDecimal⟩ <|
    is_cons ⟨_, Tryz.func39, c_impl_StateOk⟩ <|
    is_cons ⟨_, Tryz.func40, c_impl_in⟩ <|
    is_cons ⟨_, Tryz.func41, c_impl_get⟩ <|
    is_cons ⟨_, Tryz.func42, c_impl_two⟩ <|
    is_cons ⟨_, Tryz.func44, c_spec_l01Var⟩ <|
    is_cons ⟨_, Tryz.func45, c_spec_l04Short⟩ <|
    is_cons ⟨_, Tryz.func46, c_spec_Sealed⟩ <|
    is_cons ⟨_, Tryz.func49, c_impl_Sealed⟩ <|
    is_cons ⟨_, Tryz.func50, c_spec_Unsealed⟩ <|
    is_cons ⟨_, Tryz.func51, c_spec_ReadVar⟩ <|
    is_cons ⟨_, Tryz.func52, c_spec_ReadShort⟩ <|
    is_cons ⟨_, Tryz.func53, c_impl_Unsealed⟩ <|
    is_cons ⟨_, Tryz.func54, c_impl_reader_num⟩ <|
    is_cons ⟨_, Tryz.func55, c_impl_reader_short⟩ <|
    is_cons ⟨_, Tryz.func56, c_impl_reader_ends⟩ <|
    is_cons ⟨_, Tryz.func57, c_laws_markText⟩ <|
    is_cons ⟨_, Tryz.func58, c_spec_l13Rounds⟩ <|
    is_cons ⟨_, Tryz.func63, c_impl_roundsOf⟩ <|
    is_cons ⟨_, Tryz.func68, c_spec_l01Figure⟩ <|
    is_cons ⟨_, Tryz.func70, c_impl_certOf⟩ <|
    is_cons ⟨_, Tryz.func71, c_impl_ReadCert⟩ <|
    is_cons ⟨_, Tryz.func72, c_spec_MapOk⟩ <|
    is_cons ⟨_, Tryz.func73, c_spec_l13KeyOk⟩ <|
    is_cons ⟨_, Tryz.func74, c_spec_l13RoundOk⟩ <|
    is_cons ⟨_, Tryz.func75, c_spec_CertParts⟩ <|
    is_cons ⟨_, Tryz.func76, c_spec_l13Text⟩ <|
    is_cons ⟨_, Tryz.func77, c_impl_MapOk⟩ <|
    is_cons ⟨_, Tryz.func78, c_impl_idOk⟩ <|
    is_cons ⟨_, Tryz.func79, c_impl_linkOk⟩ <|
    is_cons ⟨_, Tryz.func80, c_impl_poolOk⟩ <|
    is_cons ⟨_, Tryz.func81, c_impl_partOk⟩ <|
    is_cons ⟨_, Tryz.func83, c_spec_l02Four⟩ <|
    is_cons ⟨_, Tryz.func84, c_spec_SumOf⟩ <|
    is_cons ⟨_, Tryz.func86, c_impl_SumOf⟩ <|
    is_cons ⟨_, Tryz.func87, c_impl_ReadVar⟩ <|
    is_cons ⟨_, Tryz.func88, c_impl_ReadShort⟩ <|
    is_cons ⟨_, Tryz.func89, c_spec_ReadCert⟩ <|
    is_cons ⟨_, Tryz.func90, c_spec_GraphOk⟩ <|
    is_cons ⟨_, Tryz.func92, c_spec_MatchOk⟩ <|
    is_cons ⟨_, Tryz.func94, c_spec_l13Num⟩ <|
    is_cons ⟨_, Tryz.func95, c_impl_GraphOk⟩ <|
    is_cons ⟨_, Tryz.func99, c_impl_MatchOk⟩ <|
    is_cons ⟨_, Tryz.func101, c_impl_edgeAt⟩ <|
    is_cons ⟨_, Tryz.func105, c_impl_reader_group⟩ <|
    is_cons ⟨_, Tryz.func106, c_impl_Certifies⟩ <|
    is_cons ⟨_, Tryz.func107, c_impl_readTwo⟩ <|
    is_cons ⟨_, Tryz.func108, c_impl_joined⟩ <|
    is_cons ⟨_, Tryz.func109, c_impl_CertParts⟩ <|
    is_cons ⟨_, Tryz.func112, c_spec_SumMore⟩ <|
    is_cons ⟨_, Tryz.func113, c_impl_SumMore⟩ <|
    is_cons ⟨_, Tryz.func114, c_spec_l12Var⟩ <|
    is_cons ⟨_, Tryz.func115, c_spec_CertText⟩ <|
    is_cons ⟨_, Tryz.func116, c_spec_l08Worth⟩ <|
    is_cons ⟨_, Tryz.func117, c_spec_l08At⟩ <|
    is_cons ⟨_, Tryz.func121, c_impl_ProofOk⟩ <|
    is_cons ⟨_, Tryz.func122, c_impl_Scalar⟩ <|
    is_cons ⟨_, Tryz.func123, c_impl_weight⟩ <|
    is_cons ⟨_, Tryz.func129, c_spec_Certifies⟩ <|
    is_cons ⟨_, Tryz.func135, c_impl_groupOk⟩ <|
    is_cons ⟨_, Tryz.func136, c_impl_within⟩ <|
    is_cons ⟨_, Tryz.func137, c_impl_slackOf⟩ <|
    is_cons ⟨_, Tryz.func141, c_spec_ProofOk⟩ <|
    is_cons ⟨_, Tryz.func142, c_spec_l11Worth⟩ <|
    is_cons ⟨_, Tryz.func143, c_spec_l11Sum⟩ <|
    is_cons ⟨_, Tryz.func151, c_spec_l11Nested⟩ <|
    is_cons ⟨_, Tryz.func152, c_spec_l11Slack⟩ <|
    is_cons ⟨_, Tryz.func153, c_spec_Scalar⟩ <|
    fun q hq => by cases hq
  exact fun f F hf => key _ (mem_lookup hf)
theorem sound {X : CallF} {W : World} (hX : SoundC Tryz.prog W X) (n : Nat) : SoundC Tryz.prog W (call T X n) := call_sound tab_ok hX (fun _ _ _ _ _ h => free_ok h) n
end Go.Proofs.YtgmljppiiighmaaGreatDoor.Ab
