/- The table of the functions, and that it is the program. No conditions. -/
import Derived.Test.YtlndlccbecnjoaaFC
import Derived.Test.YtlndlccbecnjoaaA3
namespace Go.Proofs.Ytlndlccbecnjoaa.Ab
open Go.RowKit
def tab : List (Nat × Fun) := [(n_laws_FnExactCertParts, F_laws_FnExactCertParts), (n_laws_FnExactDeedOk, F_laws_FnExactDeedOk), (n_laws_FnExactAskText, F_laws_FnExactAskText), (n_laws_FnExactReadAsk, F_laws_FnExactReadAsk), (n_laws_FnExactNeighbours, F_laws_FnExactNeighbours), (n_laws_FnExactOddParts, F_laws_FnExactOddParts), (n_laws_FnExactLonely, F_laws_FnExactLonely), (n_laws_FnExactPiecesOf, F_laws_FnExactPiecesOf), (n_laws_FnExactBlocks, F_laws_FnExactBlocks), (n_laws_FnExactBound, F_laws_FnExactBound), (n_laws_FnExactSwapped, F_laws_FnExactSwapped), (n_laws_FnExactCertifies, F_laws_FnExactCertifies), (n_spec_CertParts, F_spec_CertParts), (n_impl_CertParts, F_impl_CertParts), (n_laws_eqStringS, F_laws_eqStringS), (n_laws_markStringS, F_laws_markStringS), (n_laws_heldStringS, F_laws_heldStringS), (n_laws_szDeed, F_laws_szDeed), (n_spec_DeedOk, F_spec_DeedOk), (n_laws_toDeed, F_laws_toDeed), (n_impl_DeedOk, F_impl_DeedOk), (n_laws_eqDeed, F_laws_eqDeed), (n_spec_AskText, F_spec_AskText), (n_laws_toAsk, F_laws_toAsk), (n_impl_AskText, F_impl_AskText), (n_spec_ReadAsk, F_spec_ReadAsk), (n_impl_ReadAsk, F_impl_ReadAsk), (n_laws_eqAsk, F_laws_eqAsk), (n_laws_szGraph, F_laws_szGraph), (n_spec_Neighbours, F_spec_Neighbours), (n_laws_toGraph, F_laws_toGraph), (n_impl_Neighbours, F_impl_Neighbours), (n_laws_eqIntS, F_laws_eqIntS), (n_laws_eqGraph, F_laws_eqGraph), (n_laws_markGraph, F_laws_markGraph), (n_laws_markIntS, F_laws_markIntS), (n_laws_heldIntS, F_laws_heldIntS), (n_spec_OddParts, F_spec_OddParts), (n_laws_toIntS, F_laws_toIntS), (n_impl_OddParts, F_impl_OddParts), (n_laws_szCoupleS, F_laws_szCoupleS), (n_spec_Lonely, F_spec_Lonely), (n_laws_toCoupleS, F_laws_toCoupleS), (n_impl_Lonely, F_impl_Lonely), (n_laws_eqCoupleS, F_laws_eqCoupleS), (n_laws_markCoupleS, F_laws_markCoupleS), (n_spec_PiecesOf, F_spec_PiecesOf), (n_impl_PiecesOf, F_impl_PiecesOf), (n_laws_eqIntSS, F_laws_eqIntSS), (n_laws_markIntSS, F_laws_markIntSS), (n_laws_heldIntSS, F_laws_heldIntSS), (n_spec_Blocks, F_spec_Blocks), (n_impl_Blocks, F_impl_Blocks), (n_laws_szProof, F_laws_szProof), (n_spec_Bound, F_spec_Bound), (n_laws_toProof, F_laws_toProof), (n_impl_Bound, F_impl_Bound), (n_laws_eqProof, F_laws_eqProof), (n_spec_Swapped, F_spec_Swapped), (n_impl_Swapped, F_impl_Swapped), (n_spec_Certifies, F_spec_Certifies), (n_impl_Certifies, F_impl_Certifies), (n_laws_markText, F_laws_markText), (n_laws_szIntS, F_laws_szIntS), (n_spec_l01In, F_spec_l01In), (n_impl_in, F_impl_in), (n_spec_l14List, F_spec_l14List), (n_spec_l14Numbers, F_spec_l14Numbers), (n_spec_l01Var, F_spec_l01Var), (n_impl_told, F_impl_told), (n_impl_vars, F_impl_vars), (n_spec_l12Var, F_spec_l12Var), (n_impl_reader_one, F_impl_reader_one), (n_impl_reader_num, F_impl_reader_num), (n_impl_reader_ends, F_impl_reader_ends), (n_laws_szEdgeS, F_laws_szEdgeS), (n_spec_GraphOk, F_spec_GraphOk), (n_spec_l17Next, F_spec_l17Next), (n_laws_toEdgeS, F_laws_toEdgeS), (n_impl_GraphOk, F_impl_GraphOk), (n_impl_with, F_impl_with), (n_laws_eqEdgeS, F_laws_eqEdgeS), (n_laws_markEdgeS, F_laws_markEdgeS), (n_spec_l17Odd, F_spec_l17Odd), (n_impl_pieces, F_impl_pieces), (n_spec_MatchOk, F_spec_MatchOk), (n_laws_toCouple, F_laws_toCouple), (n_impl_MatchOk, F_impl_MatchOk), (n_impl_hasInt, F_impl_hasInt), (n_laws_eqCouple, F_laws_eqCouple), (n_spec_l17Parts, F_spec_l17Parts), (n_spec_l10Ahead, F_spec_l10Ahead), (n_impl_listLess, F_impl_listLess), (n_laws_szGroupS, F_laws_szGroupS), (n_spec_ProofOk, F_spec_ProofOk), (n_spec_l11Sum, F_spec_l11Sum), (n_laws_toGroupS, F_laws_toGroupS), (n_impl_ProofOk, F_impl_ProofOk), (n_impl_weight, F_impl_weight), (n_laws_eqGroupS, F_laws_eqGroupS), (n_spec_l17Has, F_spec_l17Has), (n_impl_hasCouple, F_impl_hasCouple), (n_spec_l11Worth, F_spec_l11Worth), (n_impl_Scalar, F_impl_Scalar), (n_impl_edgeAt, F_impl_edgeAt), (n_impl_VarText, F_impl_VarText), (n_spec_ReadVar, F_spec_ReadVar), (n_impl_ReadVar, F_impl_ReadVar), (n_spec_l08Worth, F_spec_l08Worth), (n_spec_l08At, F_spec_l08At), (n_laws_toEdge, F_laws_toEdge), (n_impl_copyInts, F_impl_copyInts), (n_laws_eqEdge, F_laws_eqEdge), (n_spec_l03In, F_spec_l03In), (n_spec_l17Part, F_spec_l17Part), (n_laws_szGroup, F_laws_szGroup), (n_spec_l11Nested, F_spec_l11Nested), (n_spec_l11Slack, F_spec_l11Slack), (n_laws_toGroup, F_laws_toGroup), (n_impl_groupOk, F_impl_groupOk), (n_impl_within, F_impl_within), (n_impl_slackOf, F_impl_slackOf), (n_laws_eqGroup, F_laws_eqGroup), (n_spec_Scalar, F_spec_Scalar)]
def T : FuncId → Option Fun := fun f => tab.lookup f
theorem t_laws_FnExactCertParts : T n_laws_FnExactCertParts = some F_laws_FnExactCertParts := rfl
theorem t_laws_FnExactDeedOk : T n_laws_FnExactDeedOk = some F_laws_FnExactDeedOk := rfl
theorem t_laws_FnExactAskText : T n_laws_FnExactAskText = some F_laws_FnExactAskText := rfl
theorem t_laws_FnExactReadAsk : T n_laws_FnExactReadAsk = some F_laws_FnExactReadAsk := rfl
theorem t_laws_FnExactNeighbours : T n_laws_FnExactNeighbours = some F_laws_FnExactNeighbours := rfl
theorem t_laws_FnExactOddParts : T n_laws_FnExactOddParts = some F_laws_FnExactOddParts := rfl
theorem t_laws_FnExactLonely : T n_laws_FnExactLonely = some F_laws_FnExactLonely := rfl
theorem t_laws_FnExactPiecesOf : T n_laws_FnExactPiecesOf = some F_laws_FnExactPiecesOf := rfl
theorem t_laws_FnExactBlocks : T n_laws_FnExactBlocks = some F_laws_FnExactBlocks := rfl
theorem t_laws_FnExactBound : T n_laws_FnExactBound = some F_laws_FnExactBound := rfl
theorem t_laws_FnExactSwapped : T n_laws_FnExactSwapped = some F_laws_FnExactSwapped := rfl
theorem t_laws_FnExactCertifies : T n_laws_FnExactCertifies = some F_laws_FnExactCertifies := rfl
theorem t_spec_CertParts : T n_spec_CertParts = some F_spec_CertParts := rfl
theorem t_impl_CertParts : T n_impl_CertParts = some F_impl_CertParts := rfl
theorem t_laws_eqStringS : T n_laws_eqStringS = some F_laws_eqStringS := rfl
theorem t_laws_markStringS : T n_laws_markStringS = some F_laws_markStringS := rfl
theorem t_laws_heldStringS : T n_laws_heldStringS = some F_laws_heldStringS := rfl
theorem t_laws_szDeed : T n_laws_szDeed = some F_laws_szDeed := rfl
theorem t_spec_DeedOk : T n_spec_DeedOk = some F_spec_DeedOk := rfl
theorem t_laws_toDeed : T n_laws_toDeed = some F_laws_toDeed := rfl
theorem t_impl_DeedOk : T n_impl_DeedOk = some F_impl_DeedOk := rfl
theorem t_laws_eqDeed : T n_laws_eqDeed = some F_laws_eqDeed := rfl
theorem t_spec_AskText : T n_spec_AskText = some F_spec_AskText := rfl
theorem t_laws_toAsk : T n_laws_toAsk = some F_laws_toAsk := rfl
theorem t_impl_AskText : T n_impl_AskText = some F_impl_AskText := rfl
theorem t_spec_ReadAsk : T n_spec_ReadAsk = some F_spec_ReadAsk := rfl
theorem t_impl_ReadAsk : T n_impl_ReadAsk = some F_impl_ReadAsk := rfl
theorem t_laws_eqAsk : T n_laws_eqAsk = some F_laws_eqAsk := rfl
theorem t_laws_szGraph : T n_laws_szGraph = some F_laws_szGraph := rfl
theorem t_spec_Neighbours : T n_spec_Neighbours = some F_spec_Neighbours := rfl
theorem t_laws_toGraph : T n_laws_toGraph = some F_laws_toGraph := rfl
theorem t_impl_Neighbours : T n_impl_Neighbours = some F_impl_Neighbours := rfl
theorem t_laws_eqIntS : T n_laws_eqIntS = some F_laws_eqIntS := rfl
theorem t_laws_eqGraph : T n_laws_eqGraph = some F_laws_eqGraph := rfl
theorem t_laws_markGraph : T n_laws_markGraph = some F_laws_markGraph := rfl
theorem t_laws_markIntS : T n_laws_markIntS = some F_laws_markIntS := rfl
theorem t_laws_heldIntS : T n_laws_heldIntS = some F_laws_heldIntS := rfl
theorem t_spec_OddParts : T n_spec_OddParts = some F_spec_OddParts := rfl
theorem t_laws_toIntS : T n_laws_toIntS = some F_laws_toIntS := rfl
theorem t_impl_OddParts : T n_impl_OddParts = some F_impl_OddParts := rfl
theorem t_laws_szCoupleS : T n_laws_szCoupleS = some F_laws_szCoupleS := rfl
theorem t_spec_Lonely : T n_spec_Lonely = some F_spec_Lonely := rfl
theorem t_laws_toCoupleS : T n_laws_toCoupleS = some F_laws_toCoupleS := rfl
theorem t_impl_Lonely : T n_impl_Lonely = some F_impl_Lonely := rfl
theorem t_laws_eqCoupleS : T n_laws_eqCoupleS = some F_laws_eqCoupleS := rfl
theorem t_laws_markCoupleS : T n_laws_markCoupleS = some F_laws_markCoupleS := rfl
theorem t_spec_PiecesOf : T n_spec_PiecesOf = some F_spec_PiecesOf := rfl
theorem t_impl_PiecesOf : T n_impl_PiecesOf = some F_impl_PiecesOf := rfl
theorem t_laws_eqIntSS : T n_laws_eqIntSS = some F_laws_eqIntSS := rfl
theorem t_laws_markIntSS : T n_laws_markIntSS = some F_laws_markIntSS := rfl
theorem t_laws_heldIntSS : T n_laws_heldIntSS = some F_laws_heldIntSS := rfl
theorem t_spec_Blocks : T n_spec_Blocks = some F_spec_Blocks := rfl
theorem t_impl_Blocks : T n_impl_Blocks = some F_impl_Blocks := rfl
theorem t_laws_szProof : T n_laws_szProof = some F_laws_szProof := rfl
theorem t_spec_Bound : T n_spec_Bound = some F_spec_Bound := rfl
theorem t_laws_toProof : T n_laws_toProof = some F_laws_toProof := rfl
theorem t_impl_Bound : T n_impl_Bound = some F_impl_Bound := rfl
theorem t_laws_eqProof : T n_laws_eqProof = some F_laws_eqProof := rfl
theorem t_spec_Swapped : T n_spec_Swapped = some F_spec_Swapped := rfl
theorem t_impl_Swapped : T n_impl_Swapped = some F_impl_Swapped := rfl
theorem t_spec_Certifies : T n_spec_Certifies = some F_spec_Certifies := rfl
theorem t_impl_Certifies : T n_impl_Certifies = some F_impl_Certifies := rfl
theorem t_laws_markText : T n_laws_markText = some F_laws_markText := rfl
theorem t_laws_szIntS : T n_laws_szIntS = some F_laws_szIntS := rfl
theorem t_spec_l01In : T n_spec_l01In = some F_spec_l01In := rfl
theorem t_impl_in : T n_impl_in = some F_impl_in := rfl
theorem t_spec_l14List : T n_spec_l14List = some F_spec_l14List := rfl
theorem t_spec_l14Numbers : T n_spec_l14Numbers = some F_spec_l14Numbers := rfl
theorem t_spec_l01Var : T n_spec_l01Var = some F_spec_l01Var := rfl
theorem t_impl_told : T n_impl_told = some F_impl_told := rfl
theorem t_impl_vars : T n_impl_vars = some F_impl_vars := rfl
theorem t_spec_l12Var : T n_spec_l12Var = some F_spec_l12Var := rfl
theorem t_impl_reader_one : T n_impl_reader_one = some F_impl_reader_one := rfl
theorem t_impl_reader_num : T n_impl_reader_num = some F_impl_reader_num := rfl
theorem t_impl_reader_ends : T n_impl_reader_ends = some F_impl_reader_ends := rfl
theorem t_laws_szEdgeS : T n_laws_szEdgeS = some F_laws_szEdgeS := rfl
theorem t_spec_GraphOk : T n_spec_GraphOk = some F_spec_GraphOk := rfl
theorem t_spec_l17Next : T n_spec_l17Next = some F_spec_l17Next := rfl
theorem t_laws_toEdgeS : T n_laws_toEdgeS = some F_laws_toEdgeS := rfl
theorem t_impl_GraphOk : T n_impl_GraphOk = some F_impl_GraphOk := rfl
theorem t_impl_with : T n_impl_with = some F_impl_with := rfl
theorem t_laws_eqEdgeS : T n_laws_eqEdgeS = some F_laws_eqEdgeS := rfl
theorem t_laws_markEdgeS : T n_laws_markEdgeS = some F_laws_markEdgeS := rfl
theorem t_spec_l17Odd : T n_spec_l17Odd = some F_spec_l17Odd := rfl
theorem t_impl_pieces : T n_impl_pieces = some F_impl_pieces := rfl
theorem t_spec_MatchOk : T n_spec_MatchOk = some F_spec_MatchOk := rfl
theorem t_laws_toCouple : T n_laws_toCouple = some F_laws_toCouple := rfl
theorem t_impl_MatchOk : T n_impl_MatchOk = some F_impl_MatchOk := rfl
theorem t_impl_hasInt : T n_impl_hasInt = some F_impl_hasInt := rfl
theorem t_laws_eqCouple : T n_laws_eqCouple = some F_laws_eqCouple := rfl
theorem t_spec_l17Parts : T n_spec_l17Parts = some F_spec_l17Parts := rfl
theorem t_spec_l10Ahead : T n_spec_l10Ahead = some F_spec_l10Ahead := rfl
theorem t_impl_listLess : T n_impl_listLess = some F_impl_listLess := rfl
theorem t_laws_szGroupS : T n_laws_szGroupS = some F_laws_szGroupS := rfl
theorem t_spec_ProofOk : T n_spec_ProofOk = some F_spec_ProofOk := rfl
theorem t_spec_l11Sum : T n_spec_l11Sum = some F_spec_l11Sum := rfl
theorem t_laws_toGroupS : T n_laws_toGroupS = some F_laws_toGroupS := rfl
theorem t_impl_ProofOk : T n_impl_ProofOk = some F_impl_ProofOk := rfl
theorem t_impl_weight : T n_impl_weight = some F_impl_weight := rfl
theorem t_laws_eqGroupS : T n_laws_eqGroupS = some F_laws_eqGroupS := rfl
theorem t_spec_l17Has : T n_spec_l17Has = some F_spec_l17Has := rfl
theorem t_impl_hasCouple : T n_impl_hasCouple = some F_impl_hasCouple := rfl
theorem t_spec_l11Worth : T n_spec_l11Worth = some F_spec_l11Worth := rfl
theorem t_impl_Scalar : T n_impl_Scalar = some F_impl_Scalar := rfl
theorem t_impl_edgeAt : T n_impl_edgeAt = some F_impl_edgeAt := rfl
theorem t_impl_VarText : T n_impl_VarText = some F_impl_VarText := rfl
theorem t_spec_ReadVar : T n_spec_ReadVar = some F_spec_ReadVar := rfl
theorem t_impl_ReadVar : T n_impl_ReadVar = some F_impl_ReadVar := rfl
theorem t_spec_l08Worth : T n_spec_l08Worth = some F_spec_l08Worth := rfl
theorem t_spec_l08At : T n_spec_l08At = some F_spec_l08At := rfl
theorem t_laws_toEdge : T n_laws_toEdge = some F_laws_toEdge := rfl
theorem t_impl_copyInts : T n_impl_copyInts = some F_impl_copyInts := rfl
theorem t_laws_eqEdge : T n_laws_eqEdge = some F_laws_eqEdge := rfl
theorem t_spec_l03In : T n_spec_l03In = some F_spec_l03In := rfl
theorem t_spec_l17Part : T n_spec_l17Part = some F_spec_l17Part := rfl
theorem t_laws_szGroup : T n_laws_szGroup = some F_laws_szGroup := rfl
theorem t_spec_l11Nested : T n_spec_l11Nested = some F_spec_l11Nested := rfl
theorem t_spec_l11Slack : T n_spec_l11Slack = some F_spec_l11Slack := rfl
theorem t_laws_toGroup : T n_laws_toGroup = some F_laws_toGroup := rfl
theorem t_impl_groupOk : T n_impl_groupOk = some F_impl_groupOk := rfl
theorem t_impl_within : T n_impl_within = some F_impl_within := rfl
theorem t_impl_slackOf : T n_impl_slackOf = some F_impl_slackOf := rfl
theorem t_laws_eqGroup : T n_laws_eqGroup = some F_laws_eqGroup := rfl
theorem t_spec_Scalar : T n_spec_Scalar = some F_spec_Scalar := rfl
theorem mem_lookup {l : List (Nat × Fun)} {f : Nat} {F : Fun} (h : l.lookup f = some F) : (f, F) ∈ l := by
  induction l with
  | nil => simp at h
  | cons p l ih =>
    obtain ⟨a, b⟩ := p
    rw [List.lookup_cons] at h
    split at h
    · rename_i he
      cases h
      have : f = a := by simpa using he
      subst this
      exact List.mem_cons_self
    · exact List.mem_cons_of_mem _ (ih h)
def TabIs (p : Nat × Fun) : Prop := ∃ fn, Try.prog.funcs[p.1]? = some fn ∧ compFun Try.prog fn = some p.2.bare
theorem is_cons {p : Nat × Fun} {l : List (Nat × Fun)} (h : TabIs p) (hl : ∀ q ∈ l, TabIs q) : ∀ q ∈ p :: l, TabIs q := by
  intro q hq
  rcases List.mem_cons.1 hq with rfl | hq
  · exact h
  · exact hl q hq
set_option maxRecDepth 100000 in
theorem tab_ok : TabOk Try.prog T := by
  have key : ∀ q ∈ tab, TabIs q :=
    is_cons ⟨_, Try.func3, c_laws_FnExactCertParts⟩ <|
    is_cons ⟨_, Try.func4, c_laws_FnExactDeedOk⟩ <|
    is_cons ⟨_, Try.func5, c_laws_FnExactAskText⟩ <|
    is_cons ⟨_, Try.func6, c_laws_FnExactReadAsk⟩ <|
    is_cons ⟨_, Try.func7, c_laws_FnExactNeighbours⟩ <|
    is_cons ⟨_, Try.func8, c_laws_FnExactOddParts⟩ <|
    is_cons ⟨_, Try.func9, c_laws_FnExactLonely⟩ <|
    is_cons ⟨_, Try.func10, c_laws_FnExactPiecesOf⟩ <|
    is_cons ⟨_, Try.func11, c_laws_FnExactBlocks⟩ <|
    is_cons ⟨_, Try.func12, c_laws_FnExactBound⟩ <|
    is_cons ⟨_, Try.func13, c_laws_FnExactSwapped⟩ <|
    is_cons ⟨_, Try.func14, c_laws_FnExactCertifies⟩ <|
    is_cons ⟨_, Try.func15, c_spec_CertParts⟩ <|
    is_cons ⟨_, Try.func16, c_impl_CertParts⟩ <|
    is_cons ⟨_, Try.func17, c_laws_eqStringS⟩ <|
    is_cons ⟨_, Try.func18, c_laws_markStringS⟩ <|
    is_cons ⟨_, Try.func19, c_laws_heldStringS⟩ <|
    is_cons ⟨_, Try.func20, c_laws_szDeed⟩ <|
    is_cons ⟨_, Try.func21, c_spec_DeedOk⟩ <|
    is_cons ⟨_, Try.func22, c_laws_toDeed⟩ <|
    is_cons ⟨_, Try.func23, c_impl_DeedOk⟩ <|
    is_cons ⟨_, Try.func24, c_laws_eqDeed⟩ <|
    is_cons ⟨_, Try.func25, c_spec_AskText⟩ <|
    is_cons ⟨_, Try.func26, c_laws_toAsk⟩ <|
    is_cons ⟨_, Try.func27, c_impl_AskText⟩ <|
    is_cons ⟨_, Try.func28, c_spec_ReadAsk⟩ <|
    is_cons ⟨_, Try.func29, c_impl_ReadAsk⟩ <|
    is_cons ⟨_, Try.func30, c_laws_eqAsk⟩ <|
    is_cons ⟨_, Try.func31, c_laws_szGraph⟩ <|
    is_cons ⟨_, Try.func32, c_spec_Neighbours⟩ <|
    is_cons ⟨_, Try.func33, c_laws_toGraph⟩ <|
    is_cons ⟨_, Try.func34, c_impl_Neighbours⟩ <|
    is_cons ⟨_, Try.func35, c_laws_eqIntS⟩ <|
    is_cons ⟨_, Try.func36, c_laws_eqGraph⟩ <|
    is_cons ⟨_, Try.func37, c_laws_markGraph⟩ <|
    is_cons ⟨_, Try.func38, c_laws_markIntS⟩ <|
    is_cons ⟨_, Try.func39, c_laws_heldIntS⟩ <|
    is_cons ⟨_, Try.func40, c_spec_OddParts⟩ <|
    is_cons ⟨_, Try.func41, c_laws_toIntS⟩ <|
    is_cons ⟨_, Try.func42, c_impl_OddParts⟩ <|
    is_cons ⟨_, Try.func43, c_laws_szCoupleS⟩ <|
    is_cons ⟨_, Try.func44, c_spec_Lonely⟩ <|
    is_cons ⟨_, Try.func45, c_laws_toCoupleS⟩ <|
    is_cons ⟨_, Try.func46, c_impl_Lonely⟩ <|
    is_cons ⟨_, Try.func47, c_laws_eqCoupleS⟩ <|
    is_cons ⟨_, Try.func48, c_laws_markCoupleS⟩ <|
    is_cons ⟨_, Try.func49, c_spec_PiecesOf⟩ <|
    is_cons ⟨_, Try.func50, c_impl_PiecesOf⟩ <|
    is_cons ⟨_, Try.func51, c_laws_eqIntSS⟩ <|
    is_cons ⟨_, Try.func52, c_laws_markIntSS⟩ <|
    is_cons ⟨_, Try.func53, c_laws_heldIntSS⟩ <|
    is_cons ⟨_, Try.func54, c_spec_Blocks⟩ <|
    is_cons ⟨_, Try.func55, c_impl_Blocks⟩ <|
    is_cons ⟨_, Try.func56, c_laws_szProof⟩ <|
    is_cons ⟨_, Try.func57, c_spec_Bound⟩ <|
    is_cons ⟨_, Try.func58, c_laws_toProof⟩ <|
    is_cons ⟨_, Try.func59, c_impl_Bound⟩ <|
    is_cons ⟨_, Try.func60, c_laws_eqProof⟩ <|
    is_cons ⟨_, Try.func61, c_spec_Swapped⟩ <|
    is_cons ⟨_, Try.func62, c_impl_Swapped⟩ <|
    is_cons ⟨_, Try.func63, c_spec_Certifies⟩ <|
    is_cons ⟨_, Try.func64, c_impl_Certifies⟩ <|
    is_cons ⟨_, Try.func65, c_laws_markText⟩ <|
    is_cons ⟨_, Try.func66, c_laws_szIntS⟩ <|
    is_cons ⟨_, Try.func67, c_spec_l01In⟩ <|
    is_cons ⟨_, Try.func68, c_impl_in⟩ <|
    is_cons ⟨_, Try.func69, c_spec_l14List⟩ <|
    is_cons ⟨_, Try.func70, c_spec_l14Numbers⟩ <|
    is_cons ⟨_, Try.func71, c_spec_l01Var⟩ <|
    is_cons ⟨_, Try.func72, c_impl_told⟩ <|
    is_cons ⟨_, Try.func73, c_impl_vars⟩ <|
    is_cons ⟨_, Try.func74, c_spec_l12Var⟩ <|
    is_cons ⟨_, Try.func75, c_impl_reader_one⟩ <|
    is_cons ⟨_, Try.func76, c_impl_reader_num⟩ <|
    is_cons ⟨_, Try.func77, c_impl_reader_ends⟩ <|
    is_cons ⟨_, Try.func78, c_laws_szEdgeS⟩ <|
    is_cons ⟨_, Try.func79, c_spec_GraphOk⟩ <|
    is_cons ⟨_, Try.func80, c_spec_l17Next⟩ <|
    is_cons ⟨_, Try.func81, c_laws_toEdgeS⟩ <|
    is_cons ⟨_, Try.func82, c_impl_GraphOk⟩ <|
    is_cons ⟨_, Try.func83, c_impl_with⟩ <|
    is_cons ⟨_, Try.func84, c_laws_eqEdgeS⟩ <|
    is_cons ⟨_, Try.func85, c_laws_markEdgeS⟩ <|
    is_cons ⟨_, Try.func86, c_spec_l17Odd⟩ <|
    is_cons ⟨_, Try.func87, c_impl_pieces⟩ <|
    is_cons ⟨_, Try.func88, c_spec_MatchOk⟩ <|
    is_cons ⟨_, Try.func89, c_laws_toCouple⟩ <|
    is_cons ⟨_, Try.func90, c_impl_MatchOk⟩ <|
    is_cons ⟨_, Try.func91, c_impl_hasInt⟩ <|
    is_cons ⟨_, Try.func92, c_laws_eqCouple⟩ <|
    is_cons ⟨_, Try.func93, c_spec_l17Parts⟩ <|
    is_cons ⟨_, Try.func94, c_spec_l10Ahead⟩ <|
    is_cons ⟨_, Try.func95, c_impl_listLess⟩ <|
    is_cons ⟨_, Try.func96, c_laws_szGroupS⟩ <|
    is_cons ⟨_, Try.func97, c_spec_ProofOk⟩ <|
    is_cons ⟨_, Try.func98, c_spec_l11Sum⟩ <|
    is_cons ⟨_, Try.func99, c_laws_toGroupS⟩ <|
    is_cons ⟨_, Try.func100, c_impl_ProofOk⟩ <|
    is_cons ⟨_, Try.func101, c_impl_weight⟩ <|
    is_cons ⟨_, Try.func102, c_laws_eqGroupS⟩ <|
    is_cons ⟨_, Try.func103, c_spec_l17Has⟩ <|
    is_cons ⟨_, Try.func104, c_impl_hasCouple⟩ <|
    is_cons ⟨_, Try.func105, c_spec_l11Worth⟩ <|
    is_cons ⟨_, Try.func106, c_impl_Scalar⟩ <|
    is_cons ⟨_, Try.func107, c_impl_edgeAt⟩ <|
    is_cons ⟨_, Try.func108, c_impl_VarText⟩ <|
    is_cons ⟨_, Try.func109, c_spec_ReadVar⟩ <|
    is_cons ⟨_, Try.func110, c_impl_ReadVar⟩ <|
    is_cons ⟨_, Try.func111, c_spec_l08Worth⟩ <|
    is_cons ⟨_, Try.func112, c_spec_l08At⟩ <|
    is_cons ⟨_, Try.func113, c_laws_toEdge⟩ <|
    is_cons ⟨_, Try.func114, c_impl_copyInts⟩ <|
    is_cons ⟨_, Try.func115, c_laws_eqEdge⟩ <|
    is_cons ⟨_, Try.func116, c_spec_l03In⟩ <|
    is_cons ⟨_, Try.func117, c_spec_l17Part⟩ <|
    is_cons ⟨_, Try.func118, c_laws_szGroup⟩ <|
    is_cons ⟨_, Try.func119, c_spec_l11Nested⟩ <|
    is_cons ⟨_, Try.func120, c_spec_l11Slack⟩ <|
    is_cons ⟨_, Try.func121, c_laws_toGroup⟩ <|
    is_cons ⟨_, Try.func122, c_impl_groupOk⟩ <|
    is_cons ⟨_, Try.func123, c_impl_within⟩ <|
    is_cons ⟨_, Try.func124, c_impl_slackOf⟩ <|
    is_cons ⟨_, Try.func125, c_laws_eqGroup⟩ <|
    is_cons ⟨_, Try.func126, c_spec_Scalar⟩ <|
    fun q hq => by cases hq
  exact fun f F hf => key _ (mem_lookup hf)
theorem sound {X : CallF} (hX : SoundC Try.prog X) (n : Nat) : SoundC Try.prog (call T X n) := call_sound tab_ok hX (fun _ _ _ _ _ h => free_ok h) n
end Go.Proofs.Ytlndlccbecnjoaa.Ab
