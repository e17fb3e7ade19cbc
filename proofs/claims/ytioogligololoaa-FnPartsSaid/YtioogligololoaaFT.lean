/- The table of the functions, and that it is the program. No conditions. -/
import Derived.Test.YtioogligololoaaFC
import Derived.Test.YtioogligololoaaA3
namespace Go.Proofs.Ytioogligololoaa.Ab
open Go.RowKit
def tab : List (Nat × Fun) := [(n_laws_FnExactMostCouples, F_laws_FnExactMostCouples), (n_laws_FnParts, F_laws_FnParts), (n_laws_FnAsks, F_laws_FnAsks), (n_laws_FnExactCertText, F_laws_FnExactCertText), (n_laws_FnExactReadCert, F_laws_FnExactReadCert), (n_laws_szGraph, F_laws_szGraph), (n_spec_MostCouples, F_spec_MostCouples), (n_laws_toGraph, F_laws_toGraph), (n_impl_MostCouples, F_impl_MostCouples), (n_laws_eqGraph, F_laws_eqGraph), (n_laws_big, F_laws_big), (n_spec_DrawRightGraph, F_spec_DrawRightGraph), (n_spec_DrawPlaces, F_spec_DrawPlaces), (n_impl_PiecesOf, F_impl_PiecesOf), (n_laws_within, F_laws_within), (n_impl_Neighbours, F_impl_Neighbours), (n_spec_PiecesOf, F_spec_PiecesOf), (n_spec_DrawAskText, F_spec_DrawAskText), (n_impl_AskText, F_impl_AskText), (n_spec_AskText, F_spec_AskText), (n_impl_ReadAsk, F_impl_ReadAsk), (n_spec_DrawReadAsk, F_spec_DrawReadAsk), (n_spec_ReadAsk, F_spec_ReadAsk), (n_laws_szCert, F_laws_szCert), (n_spec_CertText, F_spec_CertText), (n_laws_toCert, F_laws_toCert), (n_impl_CertText, F_impl_CertText), (n_laws_eqCert, F_laws_eqCert), (n_spec_ReadCert, F_spec_ReadCert), (n_impl_ReadCert, F_impl_ReadCert), (n_laws_markCert, F_laws_markCert), (n_laws_heldCert, F_laws_heldCert), (n_laws_szEdgeS, F_laws_szEdgeS), (n_spec_GraphOk, F_spec_GraphOk), (n_spec_l09Best, F_spec_l09Best), (n_laws_toEdgeS, F_laws_toEdgeS), (n_impl_GraphOk, F_impl_GraphOk), (n_impl_every, F_impl_every), (n_impl_MostCouples_1, F_impl_MostCouples_1), (n_laws_eqEdgeS, F_laws_eqEdgeS), (n_spec_l08Graph, F_spec_l08Graph), (n_spec_l01New, F_spec_l01New), (n_spec_l01Byte, F_spec_l01Byte), (n_spec_l01Below, F_spec_l01Below), (n_impl_pieces, F_impl_pieces), (n_impl_with, F_impl_with), (n_spec_l17Parts, F_spec_l17Parts), (n_spec_l13Ask, F_spec_l13Ask), (n_spec_l01Once, F_spec_l01Once), (n_spec_l01PickInt, F_spec_l01PickInt), (n_impl_told, F_impl_told), (n_impl_in, F_impl_in), (n_impl_vars, F_impl_vars), (n_spec_l01In, F_spec_l01In), (n_spec_l14List, F_spec_l14List), (n_spec_l14Numbers, F_spec_l14Numbers), (n_spec_l01Var, F_spec_l01Var), (n_impl_reader_one, F_impl_reader_one), (n_impl_reader_num, F_impl_reader_num), (n_impl_reader_ends, F_impl_reader_ends), (n_spec_l02Spoilt, F_spec_l02Spoilt), (n_spec_l12Var, F_spec_l12Var), (n_laws_szCoupleS, F_laws_szCoupleS), (n_laws_szProof, F_laws_szProof), (n_spec_Certifies, F_spec_Certifies), (n_laws_toCoupleS, F_laws_toCoupleS), (n_laws_toProof, F_laws_toProof), (n_impl_Certifies, F_impl_Certifies), (n_laws_eqCoupleS, F_laws_eqCoupleS), (n_laws_eqProof, F_laws_eqProof), (n_impl_reader_group, F_impl_reader_group), (n_laws_markGraph, F_laws_markGraph), (n_laws_markCoupleS, F_laws_markCoupleS), (n_laws_markProof, F_laws_markProof), (n_laws_heldGraph, F_laws_heldGraph), (n_laws_heldCoupleS, F_laws_heldCoupleS), (n_laws_heldProof, F_laws_heldProof), (n_spec_l08Worth, F_spec_l08Worth), (n_spec_l03In, F_spec_l03In), (n_spec_l08At, F_spec_l08At), (n_spec_Better, F_spec_Better), (n_laws_toEdge, F_laws_toEdge), (n_impl_Sums_plus, F_impl_Sums_plus), (n_laws_eqEdge, F_laws_eqEdge), (n_impl_hasInt, F_impl_hasInt), (n_impl_copyInts, F_impl_copyInts), (n_spec_l17Part, F_spec_l17Part), (n_spec_l13Ids, F_spec_l13Ids), (n_impl_VarText, F_impl_VarText), (n_impl_ReadVar, F_impl_ReadVar), (n_spec_l01Text, F_spec_l01Text), (n_spec_ReadVar, F_spec_ReadVar), (n_laws_szIntS, F_laws_szIntS), (n_laws_szGroupS, F_laws_szGroupS), (n_spec_ProofOk, F_spec_ProofOk), (n_spec_MatchOk, F_spec_MatchOk), (n_spec_l11Worth, F_spec_l11Worth), (n_spec_l11Sum, F_spec_l11Sum), (n_laws_toCouple, F_laws_toCouple), (n_laws_toIntS, F_laws_toIntS), (n_laws_toGroupS, F_laws_toGroupS), (n_impl_ProofOk, F_impl_ProofOk), (n_impl_MatchOk, F_impl_MatchOk), (n_impl_Scalar, F_impl_Scalar), (n_impl_edgeAt, F_impl_edgeAt), (n_impl_weight, F_impl_weight), (n_laws_eqCouple, F_laws_eqCouple), (n_laws_eqIntS, F_laws_eqIntS), (n_laws_eqGroupS, F_laws_eqGroupS), (n_laws_markEdgeS, F_laws_markEdgeS), (n_laws_markIntS, F_laws_markIntS), (n_laws_markGroupS, F_laws_markGroupS), (n_laws_heldEdgeS, F_laws_heldEdgeS), (n_laws_heldIntS, F_laws_heldIntS), (n_laws_heldGroupS, F_laws_heldGroupS), (n_spec_l17Next, F_spec_l17Next), (n_spec_l13Num, F_spec_l13Num), (n_laws_szGroup, F_laws_szGroup), (n_spec_l11Nested, F_spec_l11Nested), (n_spec_l11Slack, F_spec_l11Slack), (n_spec_Scalar, F_spec_Scalar), (n_laws_toGroup, F_laws_toGroup), (n_impl_groupOk, F_impl_groupOk), (n_impl_within, F_impl_within), (n_impl_slackOf, F_impl_slackOf), (n_laws_eqGroup, F_laws_eqGroup)]
def T : FuncId → Option Fun := fun f => tab.lookup f
theorem t_laws_FnExactMostCouples : T n_laws_FnExactMostCouples = some F_laws_FnExactMostCouples := rfl
theorem t_laws_FnParts : T n_laws_FnParts = some F_laws_FnParts := rfl
theorem t_laws_FnAsks : T n_laws_FnAsks = some F_laws_FnAsks := rfl
theorem t_laws_FnExactCertText : T n_laws_FnExactCertText = some F_laws_FnExactCertText := rfl
theorem t_laws_FnExactReadCert : T n_laws_FnExactReadCert = some F_laws_FnExactReadCert := rfl
theorem t_laws_szGraph : T n_laws_szGraph = some F_laws_szGraph := rfl
theorem t_spec_MostCouples : T n_spec_MostCouples = some F_spec_MostCouples := rfl
theorem t_laws_toGraph : T n_laws_toGraph = some F_laws_toGraph := rfl
theorem t_impl_MostCouples : T n_impl_MostCouples = some F_impl_MostCouples := rfl
theorem t_laws_eqGraph : T n_laws_eqGraph = some F_laws_eqGraph := rfl
theorem t_laws_big : T n_laws_big = some F_laws_big := rfl
theorem t_spec_DrawRightGraph : T n_spec_DrawRightGraph = some F_spec_DrawRightGraph := rfl
theorem t_spec_DrawPlaces : T n_spec_DrawPlaces = some F_spec_DrawPlaces := rfl
theorem t_impl_PiecesOf : T n_impl_PiecesOf = some F_impl_PiecesOf := rfl
theorem t_laws_within : T n_laws_within = some F_laws_within := rfl
theorem t_impl_Neighbours : T n_impl_Neighbours = some F_impl_Neighbours := rfl
theorem t_spec_PiecesOf : T n_spec_PiecesOf = some F_spec_PiecesOf := rfl
theorem t_spec_DrawAskText : T n_spec_DrawAskText = some F_spec_DrawAskText := rfl
theorem t_impl_AskText : T n_impl_AskText = some F_impl_AskText := rfl
theorem t_spec_AskText : T n_spec_AskText = some F_spec_AskText := rfl
theorem t_impl_ReadAsk : T n_impl_ReadAsk = some F_impl_ReadAsk := rfl
theorem t_spec_DrawReadAsk : T n_spec_DrawReadAsk = some F_spec_DrawReadAsk := rfl
theorem t_spec_ReadAsk : T n_spec_ReadAsk = some F_spec_ReadAsk := rfl
theorem t_laws_szCert : T n_laws_szCert = some F_laws_szCert := rfl
theorem t_spec_CertText : T n_spec_CertText = some F_spec_CertText := rfl
theorem t_laws_toCert : T n_laws_toCert = some F_laws_toCert := rfl
theorem t_impl_CertText : T n_impl_CertText = some F_impl_CertText := rfl
theorem t_laws_eqCert : T n_laws_eqCert = some F_laws_eqCert := rfl
theorem t_spec_ReadCert : T n_spec_ReadCert = some F_spec_ReadCert := rfl
theorem t_impl_ReadCert : T n_impl_ReadCert = some F_impl_ReadCert := rfl
theorem t_laws_markCert : T n_laws_markCert = some F_laws_markCert := rfl
theorem t_laws_heldCert : T n_laws_heldCert = some F_laws_heldCert := rfl
theorem t_laws_szEdgeS : T n_laws_szEdgeS = some F_laws_szEdgeS := rfl
theorem t_spec_GraphOk : T n_spec_GraphOk = some F_spec_GraphOk := rfl
theorem t_spec_l09Best : T n_spec_l09Best = some F_spec_l09Best := rfl
theorem t_laws_toEdgeS : T n_laws_toEdgeS = some F_laws_toEdgeS := rfl
theorem t_impl_GraphOk : T n_impl_GraphOk = some F_impl_GraphOk := rfl
theorem t_impl_every : T n_impl_every = some F_impl_every := rfl
theorem t_impl_MostCouples_1 : T n_impl_MostCouples_1 = some F_impl_MostCouples_1 := rfl
theorem t_laws_eqEdgeS : T n_laws_eqEdgeS = some F_laws_eqEdgeS := rfl
theorem t_spec_l08Graph : T n_spec_l08Graph = some F_spec_l08Graph := rfl
theorem t_spec_l01New : T n_spec_l01New = some F_spec_l01New := rfl
theorem t_spec_l01Byte : T n_spec_l01Byte = some F_spec_l01Byte := rfl
theorem t_spec_l01Below : T n_spec_l01Below = some F_spec_l01Below := rfl
theorem t_impl_pieces : T n_impl_pieces = some F_impl_pieces := rfl
theorem t_impl_with : T n_impl_with = some F_impl_with := rfl
theorem t_spec_l17Parts : T n_spec_l17Parts = some F_spec_l17Parts := rfl
theorem t_spec_l13Ask : T n_spec_l13Ask = some F_spec_l13Ask := rfl
theorem t_spec_l01Once : T n_spec_l01Once = some F_spec_l01Once := rfl
theorem t_spec_l01PickInt : T n_spec_l01PickInt = some F_spec_l01PickInt := rfl
theorem t_impl_told : T n_impl_told = some F_impl_told := rfl
theorem t_impl_in : T n_impl_in = some F_impl_in := rfl
theorem t_impl_vars : T n_impl_vars = some F_impl_vars := rfl
theorem t_spec_l01In : T n_spec_l01In = some F_spec_l01In := rfl
theorem t_spec_l14List : T n_spec_l14List = some F_spec_l14List := rfl
theorem t_spec_l14Numbers : T n_spec_l14Numbers = some F_spec_l14Numbers := rfl
theorem t_spec_l01Var : T n_spec_l01Var = some F_spec_l01Var := rfl
theorem t_impl_reader_one : T n_impl_reader_one = some F_impl_reader_one := rfl
theorem t_impl_reader_num : T n_impl_reader_num = some F_impl_reader_num := rfl
theorem t_impl_reader_ends : T n_impl_reader_ends = some F_impl_reader_ends := rfl
theorem t_spec_l02Spoilt : T n_spec_l02Spoilt = some F_spec_l02Spoilt := rfl
theorem t_spec_l12Var : T n_spec_l12Var = some F_spec_l12Var := rfl
theorem t_laws_szCoupleS : T n_laws_szCoupleS = some F_laws_szCoupleS := rfl
theorem t_laws_szProof : T n_laws_szProof = some F_laws_szProof := rfl
theorem t_spec_Certifies : T n_spec_Certifies = some F_spec_Certifies := rfl
theorem t_laws_toCoupleS : T n_laws_toCoupleS = some F_laws_toCoupleS := rfl
theorem t_laws_toProof : T n_laws_toProof = some F_laws_toProof := rfl
theorem t_impl_Certifies : T n_impl_Certifies = some F_impl_Certifies := rfl
theorem t_laws_eqCoupleS : T n_laws_eqCoupleS = some F_laws_eqCoupleS := rfl
theorem t_laws_eqProof : T n_laws_eqProof = some F_laws_eqProof := rfl
theorem t_impl_reader_group : T n_impl_reader_group = some F_impl_reader_group := rfl
theorem t_laws_markGraph : T n_laws_markGraph = some F_laws_markGraph := rfl
theorem t_laws_markCoupleS : T n_laws_markCoupleS = some F_laws_markCoupleS := rfl
theorem t_laws_markProof : T n_laws_markProof = some F_laws_markProof := rfl
theorem t_laws_heldGraph : T n_laws_heldGraph = some F_laws_heldGraph := rfl
theorem t_laws_heldCoupleS : T n_laws_heldCoupleS = some F_laws_heldCoupleS := rfl
theorem t_laws_heldProof : T n_laws_heldProof = some F_laws_heldProof := rfl
theorem t_spec_l08Worth : T n_spec_l08Worth = some F_spec_l08Worth := rfl
theorem t_spec_l03In : T n_spec_l03In = some F_spec_l03In := rfl
theorem t_spec_l08At : T n_spec_l08At = some F_spec_l08At := rfl
theorem t_spec_Better : T n_spec_Better = some F_spec_Better := rfl
theorem t_laws_toEdge : T n_laws_toEdge = some F_laws_toEdge := rfl
theorem t_impl_Sums_plus : T n_impl_Sums_plus = some F_impl_Sums_plus := rfl
theorem t_laws_eqEdge : T n_laws_eqEdge = some F_laws_eqEdge := rfl
theorem t_impl_hasInt : T n_impl_hasInt = some F_impl_hasInt := rfl
theorem t_impl_copyInts : T n_impl_copyInts = some F_impl_copyInts := rfl
theorem t_spec_l17Part : T n_spec_l17Part = some F_spec_l17Part := rfl
theorem t_spec_l13Ids : T n_spec_l13Ids = some F_spec_l13Ids := rfl
theorem t_impl_VarText : T n_impl_VarText = some F_impl_VarText := rfl
theorem t_impl_ReadVar : T n_impl_ReadVar = some F_impl_ReadVar := rfl
theorem t_spec_l01Text : T n_spec_l01Text = some F_spec_l01Text := rfl
theorem t_spec_ReadVar : T n_spec_ReadVar = some F_spec_ReadVar := rfl
theorem t_laws_szIntS : T n_laws_szIntS = some F_laws_szIntS := rfl
theorem t_laws_szGroupS : T n_laws_szGroupS = some F_laws_szGroupS := rfl
theorem t_spec_ProofOk : T n_spec_ProofOk = some F_spec_ProofOk := rfl
theorem t_spec_MatchOk : T n_spec_MatchOk = some F_spec_MatchOk := rfl
theorem t_spec_l11Worth : T n_spec_l11Worth = some F_spec_l11Worth := rfl
theorem t_spec_l11Sum : T n_spec_l11Sum = some F_spec_l11Sum := rfl
theorem t_laws_toCouple : T n_laws_toCouple = some F_laws_toCouple := rfl
theorem t_laws_toIntS : T n_laws_toIntS = some F_laws_toIntS := rfl
theorem t_laws_toGroupS : T n_laws_toGroupS = some F_laws_toGroupS := rfl
theorem t_impl_ProofOk : T n_impl_ProofOk = some F_impl_ProofOk := rfl
theorem t_impl_MatchOk : T n_impl_MatchOk = some F_impl_MatchOk := rfl
theorem t_impl_Scalar : T n_impl_Scalar = some F_impl_Scalar := rfl
theorem t_impl_edgeAt : T n_impl_edgeAt = some F_impl_edgeAt := rfl
theorem t_impl_weight : T n_impl_weight = some F_impl_weight := rfl
theorem t_laws_eqCouple : T n_laws_eqCouple = some F_laws_eqCouple := rfl
theorem t_laws_eqIntS : T n_laws_eqIntS = some F_laws_eqIntS := rfl
theorem t_laws_eqGroupS : T n_laws_eqGroupS = some F_laws_eqGroupS := rfl
theorem t_laws_markEdgeS : T n_laws_markEdgeS = some F_laws_markEdgeS := rfl
theorem t_laws_markIntS : T n_laws_markIntS = some F_laws_markIntS := rfl
theorem t_laws_markGroupS : T n_laws_markGroupS = some F_laws_markGroupS := rfl
theorem t_laws_heldEdgeS : T n_laws_heldEdgeS = some F_laws_heldEdgeS := rfl
theorem t_laws_heldIntS : T n_laws_heldIntS = some F_laws_heldIntS := rfl
theorem t_laws_heldGroupS : T n_laws_heldGroupS = some F_laws_heldGroupS := rfl
theorem t_spec_l17Next : T n_spec_l17Next = some F_spec_l17Next := rfl
theorem t_spec_l13Num : T n_spec_l13Num = some F_spec_l13Num := rfl
theorem t_laws_szGroup : T n_laws_szGroup = some F_laws_szGroup := rfl
theorem t_spec_l11Nested : T n_spec_l11Nested = some F_spec_l11Nested := rfl
theorem t_spec_l11Slack : T n_spec_l11Slack = some F_spec_l11Slack := rfl
theorem t_spec_Scalar : T n_spec_Scalar = some F_spec_Scalar := rfl
theorem t_laws_toGroup : T n_laws_toGroup = some F_laws_toGroup := rfl
theorem t_impl_groupOk : T n_impl_groupOk = some F_impl_groupOk := rfl
theorem t_impl_within : T n_impl_within = some F_impl_within := rfl
theorem t_impl_slackOf : T n_impl_slackOf = some F_impl_slackOf := rfl
theorem t_laws_eqGroup : T n_laws_eqGroup = some F_laws_eqGroup := rfl
theorem mem_lookup {l : List (Nat × Fun)} {f : Nat} {F : Fun} (h : l.lookup f = some F) : (f, F) ∈ l := by
  induction l with
  | nil => simp at h
  | cons p l ih =>
    obtain ⟨a, b⟩ := p
    rw [List.lookup_cons] at h
    split at h
    · rename_i he
      cases h
      have : f = a := by simpa using he
      subst this
      exact List.mem_cons_self
    · exact List.mem_cons_of_mem _ (ih h)
def TabIs (p : Nat × Fun) : Prop := ∃ fn, Try.prog.funcs[p.1]? = some fn ∧ compFun Try.prog fn = some p.2.bare
theorem is_cons {p : Nat × Fun} {l : List (Nat × Fun)} (h : TabIs p) (hl : ∀ q ∈ l, TabIs q) : ∀ q ∈ p :: l, TabIs q := by
  intro q hq
  rcases List.mem_cons.1 hq with rfl | hq
  · exact h
  · exact hl q hq
set_option maxRecDepth 100000 in
theorem tab_ok : TabOk Try.prog T := by
  have key : ∀ q ∈ tab, TabIs q :=
    is_cons ⟨_, Try.func3, c_laws_FnExactMostCouples⟩ <|
    is_cons ⟨_, Try.func4, c_laws_FnParts⟩ <|
    is_cons ⟨_, Try.func5, c_laws_FnAsks⟩ <|
    is_cons ⟨_, Try.func6, c_laws_FnExactCertText⟩ <|
    is_cons ⟨_, Try.func7, c_laws_FnExactReadCert⟩ <|
    is_cons ⟨_, Try.func8, c_laws_szGraph⟩ <|
    is_cons ⟨_, Try.func9, c_spec_MostCouples⟩ <|
    is_cons ⟨_, Try.func10, c_laws_toGraph⟩ <|
    is_cons ⟨_, Try.func11, c_impl_MostCouples⟩ <|
    is_cons ⟨_, Try.func12, c_laws_eqGraph⟩ <|
    is_cons ⟨_, Try.func13, c_laws_big⟩ <|
    is_cons ⟨_, Try.func14, c_spec_DrawRightGraph⟩ <|
    is_cons ⟨_, Try.func15, c_spec_DrawPlaces⟩ <|
    is_cons ⟨_, Try.func16, c_impl_PiecesOf⟩ <|
    is_cons ⟨_, Try.func17, c_laws_within⟩ <|
    is_cons ⟨_, Try.func18, c_impl_Neighbours⟩ <|
    is_cons ⟨_, Try.func19, c_spec_PiecesOf⟩ <|
    is_cons ⟨_, Try.func20, c_spec_DrawAskText⟩ <|
    is_cons ⟨_, Try.func21, c_impl_AskText⟩ <|
    is_cons ⟨_, Try.func22, c_spec_AskText⟩ <|
    is_cons ⟨_, Try.func23, c_impl_ReadAsk⟩ <|
    is_cons ⟨_, Try.func24, c_spec_DrawReadAsk⟩ <|
    is_cons ⟨_, Try.func25, c_spec_ReadAsk⟩ <|
    is_cons ⟨_, Try.func26, c_laws_szCert⟩ <|
    is_cons ⟨_, Try.func27, c_spec_CertText⟩ <|
    is_cons ⟨_, Try.func28, c_laws_toCert⟩ <|
    is_cons ⟨_, Try.func29, c_impl_CertText⟩ <|
    is_cons ⟨_, Try.func30, c_laws_eqCert⟩ <|
    is_cons ⟨_, Try.func31, c_spec_ReadCert⟩ <|
    is_cons ⟨_, Try.func32, c_impl_ReadCert⟩ <|
    is_cons ⟨_, Try.func33, c_laws_markCert⟩ <|
    is_cons ⟨_, Try.func34, c_laws_heldCert⟩ <|
    is_cons ⟨_, Try.func35, c_laws_szEdgeS⟩ <|
    is_cons ⟨_, Try.func36, c_spec_GraphOk⟩ <|
    is_cons ⟨_, Try.func37, c_spec_l09Best⟩ <|
    is_cons ⟨_, Try.func38, c_laws_toEdgeS⟩ <|
    is_cons ⟨_, Try.func39, c_impl_GraphOk⟩ <|
    is_cons ⟨_, Try.func40, c_impl_every⟩ <|
    is_cons ⟨_, Try.func41, c_impl_MostCouples_1⟩ <|
    is_cons ⟨_, Try.func42, c_laws_eqEdgeS⟩ <|
    is_cons ⟨_, Try.func43, c_spec_l08Graph⟩ <|
    is_cons ⟨_, Try.func44, c_spec_l01New⟩ <|
    is_cons ⟨_, Try.func45, c_spec_l01Byte⟩ <|
    is_cons ⟨_, Try.func46, c_spec_l01Below⟩ <|
    is_cons ⟨_, Try.func47, c_impl_pieces⟩ <|
    is_cons ⟨_, Try.func48, c_impl_with⟩ <|
    is_cons ⟨_, Try.func49, c_spec_l17Parts⟩ <|
    is_cons ⟨_, Try.func50, c_spec_l13Ask⟩ <|
    is_cons ⟨_, Try.func51, c_spec_l01Once⟩ <|
    is_cons ⟨_, Try.func52, c_spec_l01PickInt⟩ <|
    is_cons ⟨_, Try.func53, c_impl_told⟩ <|
    is_cons ⟨_, Try.func54, c_impl_in⟩ <|
    is_cons ⟨_, Try.func55, c_impl_vars⟩ <|
    is_cons ⟨_, Try.func56, c_spec_l01In⟩ <|
    is_cons ⟨_, Try.func57, c_spec_l14List⟩ <|
    is_cons ⟨_, Try.func58, c_spec_l14Numbers⟩ <|
    is_cons ⟨_, Try.func59, c_spec_l01Var⟩ <|
    is_cons ⟨_, Try.func60, c_impl_reader_one⟩ <|
    is_cons ⟨_, Try.func61, c_impl_reader_num⟩ <|
    is_cons ⟨_, Try.func62, c_impl_reader_ends⟩ <|
    is_cons ⟨_, Try.func63, c_spec_l02Spoilt⟩ <|
    is_cons ⟨_, Try.func64, c_spec_l12Var⟩ <|
    is_cons ⟨_, Try.func65, c_laws_szCoupleS⟩ <|
    is_cons ⟨_, Try.func66, c_laws_szProof⟩ <|
    is_cons ⟨_, Try.func67, c_spec_Certifies⟩ <|
    is_cons ⟨_, Try.func68, c_laws_toCoupleS⟩ <|
    is_cons ⟨_, Try.func69, c_laws_toProof⟩ <|
    is_cons ⟨_, Try.func70, c_impl_Certifies⟩ <|
    is_cons ⟨_, Try.func71, c_laws_eqCoupleS⟩ <|
    is_cons ⟨_, Try.func72, c_laws_eqProof⟩ <|
    is_cons ⟨_, Try.func73, c_impl_reader_group⟩ <|
    is_cons ⟨_, Try.func74, c_laws_markGraph⟩ <|
    is_cons ⟨_, Try.func75, c_laws_markCoupleS⟩ <|
    is_cons ⟨_, Try.func76, c_laws_markProof⟩ <|
    is_cons ⟨_, Try.func77, c_laws_heldGraph⟩ <|
    is_cons ⟨_, Try.func78, c_laws_heldCoupleS⟩ <|
    is_cons ⟨_, Try.func79, c_laws_heldProof⟩ <|
    is_cons ⟨_, Try.func80, c_spec_l08Worth⟩ <|
    is_cons ⟨_, Try.func81, c_spec_l03In⟩ <|
    is_cons ⟨_, Try.func82, c_spec_l08At⟩ <|
    is_cons ⟨_, Try.func83, c_spec_Better⟩ <|
    is_cons ⟨_, Try.func84, c_laws_toEdge⟩ <|
    is_cons ⟨_, Try.func85, c_impl_Sums_plus⟩ <|
    is_cons ⟨_, Try.func86, c_laws_eqEdge⟩ <|
    is_cons ⟨_, Try.func87, c_impl_hasInt⟩ <|
    is_cons ⟨_, Try.func88, c_impl_copyInts⟩ <|
    is_cons ⟨_, Try.func89, c_spec_l17Part⟩ <|
    is_cons ⟨_, Try.func90, c_spec_l13Ids⟩ <|
    is_cons ⟨_, Try.func91, c_impl_VarText⟩ <|
    is_cons ⟨_, Try.func92, c_impl_ReadVar⟩ <|
    is_cons ⟨_, Try.func93, c_spec_l01Text⟩ <|
    is_cons ⟨_, Try.func94, c_spec_ReadVar⟩ <|
    is_cons ⟨_, Try.func95, c_laws_szIntS⟩ <|
    is_cons ⟨_, Try.func96, c_laws_szGroupS⟩ <|
    is_cons ⟨_, Try.func97, c_spec_ProofOk⟩ <|
    is_cons ⟨_, Try.func98, c_spec_MatchOk⟩ <|
    is_cons ⟨_, Try.func99, c_spec_l11Worth⟩ <|
    is_cons ⟨_, Try.func100, c_spec_l11Sum⟩ <|
    is_cons ⟨_, Try.func101, c_laws_toCouple⟩ <|
    is_cons ⟨_, Try.func102, c_laws_toIntS⟩ <|
    is_cons ⟨_, Try.func103, c_laws_toGroupS⟩ <|
    is_cons ⟨_, Try.func104, c_impl_ProofOk⟩ <|
    is_cons ⟨_, Try.func105, c_impl_MatchOk⟩ <|
    is_cons ⟨_, Try.func106, c_impl_Scalar⟩ <|
    is_cons ⟨_, Try.func107, c_impl_edgeAt⟩ <|
    is_cons ⟨_, Try.func108, c_impl_weight⟩ <|
    is_cons ⟨_, Try.func109, c_laws_eqCouple⟩ <|
    is_cons ⟨_, Try.func110, c_laws_eqIntS⟩ <|
    is_cons ⟨_, Try.func111, c_laws_eqGroupS⟩ <|
    is_cons ⟨_, Try.func112, c_laws_markEdgeS⟩ <|
    is_cons ⟨_, Try.func113, c_laws_markIntS⟩ <|
    is_cons ⟨_, Try.func114, c_laws_markGroupS⟩ <|
    is_cons ⟨_, Try.func115, c_laws_heldEdgeS⟩ <|
    is_cons ⟨_, Try.func116, c_laws_heldIntS⟩ <|
    is_cons ⟨_, Try.func117, c_laws_heldGroupS⟩ <|
    is_cons ⟨_, Try.func118, c_spec_l17Next⟩ <|
    is_cons ⟨_, Try.func119, c_spec_l13Num⟩ <|
    is_cons ⟨_, Try.func120, c_laws_szGroup⟩ <|
    is_cons ⟨_, Try.func121, c_spec_l11Nested⟩ <|
    is_cons ⟨_, Try.func122, c_spec_l11Slack⟩ <|
    is_cons ⟨_, Try.func123, c_spec_Scalar⟩ <|
    is_cons ⟨_, Try.func124, c_laws_toGroup⟩ <|
    is_cons ⟨_, Try.func125, c_impl_groupOk⟩ <|
    is_cons ⟨_, Try.func126, c_impl_within⟩ <|
    is_cons ⟨_, Try.func127, c_impl_slackOf⟩ <|
    is_cons ⟨_, Try.func128, c_laws_eqGroup⟩ <|
    fun q hq => by cases hq
  exact fun f F hf => key _ (mem_lookup hf)
theorem sound {X : CallF} (hX : SoundC Try.prog X) (n : Nat) : SoundC Try.prog (call T X n) := call_sound tab_ok hX (fun _ _ _ _ _ h => free_ok h) n
end Go.Proofs.Ytioogligololoaa.Ab
