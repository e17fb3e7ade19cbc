/- Contracts of the laws' helpers for groups and proofs. No conditions. -/
import Derived.Test.YtioogligololoaaH5
import Derived.Test.YtioogligololoaaR7
set_option linter.unusedSimpArgs false
set_option linter.unusedVariables false
set_option linter.unnecessarySimpa false
set_option maxHeartbeats 4000000
namespace Go.Proofs.Ytioogligololoaa.Ab
open Go.RowKit
section
variable {X : CallF} {h : Heap} {v w y y' : Value} {gs : List Gp} {ys il : List Int} {n z : Int}

theorem k_szGroup (hm : Rows h 1 v (ints il)) (hl : il.length ≤ maxLen) (h0 : 0 ≤ n) (h1 : n ≤ 1048576) : C T X n_laws_szGroup [.agg ⟨[v, .int .i64 z]⟩, .int .i64 n] h = some (.int .i64 (szL il.length n), h) := by
  refine C_go t_laws_szGroup rfl ?_
  unfold F_laws_szGroup
  have hk := k_szIntS (X := X) hm hl h0 h1
  simp only [hk, go_sem, reduceIte, Nat.reduceEqDiff, Nat.reduceAdd, Nat.reduceMul, Nat.reduceLT, Nat.reduceLeDiff, reduceCtorEq, ne_eq, Int.reduceEq, Int.reduceLT, Int.reduceLE, Int.reduceNeg, Int.reduceToNat]
  refine w_open (by simp only [go_sem, reduceIte, Nat.reduceEqDiff, Nat.reduceAdd, Nat.reduceMul, Nat.reduceLT, Nat.reduceLeDiff, reduceCtorEq, ne_eq, Int.reduceEq, Int.reduceLT, Int.reduceLE, Int.reduceNeg, Int.reduceToNat]; rfl) ?_ ?_ <;> intro hc
  · have : szL il.length n = -1 := by unfold szL at hc ⊢; split <;> omega
    simp only [this, go_sem, reduceIte, Nat.reduceEqDiff, Nat.reduceAdd, Nat.reduceMul, Nat.reduceLT, Nat.reduceLeDiff, reduceCtorEq, ne_eq, Int.reduceEq, Int.reduceLT, Int.reduceLE, Int.reduceNeg, Int.reduceToNat]
  · simp only [go_sem, reduceIte, Nat.reduceEqDiff, Nat.reduceAdd, Nat.reduceMul, Nat.reduceLT, Nat.reduceLeDiff, reduceCtorEq, ne_eq, Int.reduceEq, Int.reduceLT, Int.reduceLE, Int.reduceNeg, Int.reduceToNat]

/-- What is left behind some groups. -/
def szG : List Gp → Int → Int
  | [], n => n
  | g :: gs, n => if szL g.ms.length n < 0 then -1 else szG gs (szL g.ms.length n)
theorem szG_le : ∀ {gs : List Gp} {n : Int}, 0 ≤ n → szG gs n ≤ n ∧ (0 ≤ szG gs n → ∀ g ∈ gs, (g.ms.length : Int) ≤ n)
  | [], n, h => ⟨Int.le_refl _, fun _ g hg => by cases hg⟩
  | g :: gs, n, h => by
    have h1 := szL_le (len := g.ms.length) h
    unfold szG
    split
    · exact ⟨by omega, fun h => by omega⟩
    · have h2 := szG_le (gs := gs) (n := szL g.ms.length n) (by omega)
      refine ⟨by omega, fun hk x hx => ?_⟩
      rcases List.mem_cons.1 hx with rfl | hx
      · exact h1.2 (by omega)
      · have := h2.2 hk x hx; omega
theorem szG_step {gs : List Gp} {n : Int} {i : Nat} (hi : i < gs.length) : szG (gs.drop i) n = if szL (gs.getD i g0).ms.length n < 0 then -1 else szG (gs.drop (i + 1)) (szL (gs.getD i g0).ms.length n) := by
  rw [drop_getD (d := g0) hi]
  rfl

theorem k_szGroupS (hg : RowsG h v gs) (hl : gs.length ≤ maxLen) (hm : ∀ g ∈ gs, g.ms.length ≤ maxLen) (h0 : 0 ≤ n) (h1 : n ≤ 1048576) :
    C T X n_laws_szGroupS [v, .int .i64 n] h = some (.int .i64 (if szL gs.length n < 0 then -1 else szG gs (szL gs.length n)), h) := by
  unfold maxLen at hl
  have hsl := szL_le (len := gs.length) h0
  have hsz : szL gs.length n = if n - gs.length < 0 then -1 else n - gs.length := rfl
  have hw0 : IntKind.i64.wrap (n - (gs.length : Int)) = n - gs.length := w64 (by omega) (by omega)
  refine C_go t_laws_szGroupS rfl ?_
  unfold F_laws_szGroupS
  simp only [hg.ln, hw0, go_sem, reduceIte, Nat.reduceEqDiff, Nat.reduceAdd, Nat.reduceMul, Nat.reduceLT, Nat.reduceLeDiff, reduceCtorEq, ne_eq, Int.reduceEq, Int.reduceLT, Int.reduceLE, Int.reduceNeg, Int.reduceToNat]
  by_cases hc : n - (gs.length : Int) < 0
  · rw [if_pos hc] at hsz
    have : szL gs.length n < 0 := by omega
    simp only [hc, this, go_sem, reduceIte, Nat.reduceEqDiff, Nat.reduceAdd, Nat.reduceMul, Nat.reduceLT, Nat.reduceLeDiff, reduceCtorEq, ne_eq, Int.reduceEq, Int.reduceLT, Int.reduceLE, Int.reduceNeg, Int.reduceToNat]
  · rw [if_neg hc] at hsz
    have hnn : ¬ szL gs.length n < 0 := by omega
    rw [if_neg hnn]
    rw [hsz] at *
    simp only [hc, go_sem, reduceIte, Nat.reduceEqDiff, Nat.reduceAdd, Nat.reduceMul, Nat.reduceLT, Nat.reduceLeDiff, reduceCtorEq, ne_eq, Int.reduceEq, Int.reduceLT, Int.reduceLE, Int.reduceNeg, Int.reduceToNat]
    refine w_for gs.length (fun i t loc h' => h' = h ∧ t 0 = v ∧ t 5 = .int .i64 i ∧ ∃ m : Int, t 1 = .int .i64 m ∧ 0 ≤ m ∧ m ≤ 1048576 ∧ szG gs (n - gs.length) = szG (gs.drop i) m) ⟨rfl, rfl, rfl, _, rfl, by omega, by omega, rfl⟩ ?_
    rintro i t loc h' hi ⟨rfl, t0, t5, m, t1, hm0, hm1, hs⟩
    simp only [t0, t5, hg.ln, go_sem, reduceIte, Nat.reduceEqDiff, Nat.reduceAdd, Nat.reduceMul, Nat.reduceLT, Nat.reduceLeDiff, reduceCtorEq, ne_eq, Int.reduceEq, Int.reduceLT, Int.reduceLE, Int.reduceNeg, Int.reduceToNat]
    refine w_open (by simp only [go_sem, reduceIte, Nat.reduceEqDiff, Nat.reduceAdd, Nat.reduceMul, Nat.reduceLT, Nat.reduceLeDiff, reduceCtorEq, ne_eq, Int.reduceEq, Int.reduceLT, Int.reduceLE, Int.reduceNeg, Int.reduceToNat]; rfl) ?_ ?_ <;> intro hc
    · have hi1 : i < gs.length := by omega
      have hw : IntKind.i64.wrap ((i : Int) + 1) = ((i + 1 : Nat) : Int) := w64 (by omega) (by omega)
      obtain ⟨x, e1, e2, e3, e4, e5, e6⟩ := hg.el hi1
      have hk := k_szGroup (X := X) (z := (gs.getD i g0).z) e6 (hm _ (getD_mem hi1)) hm0 hm1
      have hst := szG_step (n := m) hi1
      by_cases hn : szL (gs.getD i g0).ms.length m < 0
      · rw [if_pos hn] at hst
        have e : szG gs (n - gs.length) = -1 := by rw [hs, hst]
        simp only [t0, t1, t5, e1, e3, hk, hn, e, go_sem, reduceIte, Nat.reduceEqDiff, Nat.reduceAdd, Nat.reduceMul, Nat.reduceLT, Nat.reduceLeDiff, reduceCtorEq, ne_eq, Int.reduceEq, Int.reduceLT, Int.reduceLE, Int.reduceNeg, Int.reduceToNat]
      · rw [if_neg hn] at hst
        have hsl2 := szL_le (len := (gs.getD i g0).ms.length) hm0
        simp only [t0, t1, t5, e1, e3, hk, hn, hw, go_sem, reduceIte, Nat.reduceEqDiff, Nat.reduceAdd, Nat.reduceMul, Nat.reduceLT, Nat.reduceLeDiff, reduceCtorEq, ne_eq, Int.reduceEq, Int.reduceLT, Int.reduceLE, Int.reduceNeg, Int.reduceToNat]
        exact ⟨hi1, _, rfl, by omega, by omega, by rw [hs, hst]⟩
    · have hil : i = gs.length := by omega
      subst hil
      rw [List.drop_length] at hs
      have e : szG gs (n - gs.length) = m := hs
      simp only [t1, e, go_sem, reduceIte, Nat.reduceEqDiff, Nat.reduceAdd, Nat.reduceMul, Nat.reduceLT, Nat.reduceLeDiff, reduceCtorEq, ne_eq, Int.reduceEq, Int.reduceLT, Int.reduceLE, Int.reduceNeg, Int.reduceToNat]

theorem z_szProof (hy : Rows h 1 y (ints ys)) (hg : RowsG h v gs) (hp : PfMax ys gs) (h0 : 0 ≤ n) (h1 : n ≤ 1048576) : ∃ m, C T X n_laws_szProof [proofV y v, .int .i64 n] h = some (.int .i64 m, h) ∧ m ≤ 1048576 ∧ (0 ≤ m → PfBnd ys gs) := by
  have c1 := k_szIntS (X := X) hy hp.1 h0 h1
  have s1 := szL_le (len := ys.length) h0
  by_cases hn : szL ys.length n < 0
  · refine ⟨-1, C_go t_laws_szProof rfl ?_, by omega, fun h => by omega⟩
    unfold F_laws_szProof proofV
    simp only [c1, hn, go_sem, reduceIte, Nat.reduceEqDiff, Nat.reduceAdd, Nat.reduceMul, Nat.reduceLT, Nat.reduceLeDiff, reduceCtorEq, ne_eq, Int.reduceEq, Int.reduceLT, Int.reduceLE, Int.reduceNeg, Int.reduceToNat]
  have c2 := k_szGroupS (X := X) hg hp.2.1 (fun g h => (hp.2.2.1 g h).1) (n := szL ys.length n) (by omega) (by omega)
  have s2 := szL_le (len := gs.length) (n := szL ys.length n) (by omega)
  by_cases hn2 : szL gs.length (szL ys.length n) < 0
  · rw [if_pos hn2] at c2
    refine ⟨-1, C_go t_laws_szProof rfl ?_, by omega, fun h => by omega⟩
    unfold F_laws_szProof proofV
    simp only [c1, c2, hn, go_sem, reduceIte, Nat.reduceEqDiff, Nat.reduceAdd, Nat.reduceMul, Nat.reduceLT, Nat.reduceLeDiff, reduceCtorEq, ne_eq, Int.reduceEq, Int.reduceLT, Int.reduceLE, Int.reduceNeg, Int.reduceToNat]
  rw [if_neg hn2] at c2
  have s3 := szG_le (gs := gs) (n := szL gs.length (szL ys.length n)) (by omega)
  by_cases hn3 : szG gs (szL gs.length (szL ys.length n)) < 0
  · refine ⟨-1, C_go t_laws_szProof rfl ?_, by omega, fun h => by omega⟩
    unfold F_laws_szProof proofV
    simp only [c1, c2, hn, hn3, go_sem, reduceIte, Nat.reduceEqDiff, Nat.reduceAdd, Nat.reduceMul, Nat.reduceLT, Nat.reduceLeDiff, reduceCtorEq, ne_eq, Int.reduceEq, Int.reduceLT, Int.reduceLE, Int.reduceNeg, Int.reduceToNat]
  · refine ⟨_, C_go t_laws_szProof rfl (r := (.int .i64 (szG gs (szL gs.length (szL ys.length n))), h)) ?_, by omega, fun h => ⟨by have := s1.2 (by omega); omega, by have := s2.2 (by omega); omega, fun g hg => by have := s3.2 h g hg; omega⟩⟩
    unfold F_laws_szProof proofV
    simp only [c1, c2, hn, hn3, go_sem, reduceIte, Nat.reduceEqDiff, Nat.reduceAdd, Nat.reduceMul, Nat.reduceLT, Nat.reduceLeDiff, reduceCtorEq, ne_eq, Int.reduceEq, Int.reduceLT, Int.reduceLE, Int.reduceNeg, Int.reduceToNat]

theorem k_toGroup (hm : Rows h 1 v (ints il)) (hl : il.length ≤ lim) : C T X n_laws_toGroup [.agg ⟨[v, .int .i64 z]⟩] h = some (.agg ⟨[.slice (some ⟨h.length, 0, none⟩) il.length il.length, .int .i64 z]⟩, h ++ [⟨(ints il).flatten, 1, y_int, true⟩]) := by
  refine C_go t_laws_toGroup rfl ?_
  unfold F_laws_toGroup
  simp only [k_toIntS hm hl, go_sem, reduceIte, Nat.reduceEqDiff, Nat.reduceAdd, Nat.reduceMul, Nat.reduceLT, Nat.reduceLeDiff, reduceCtorEq, ne_eq, Int.reduceEq, Int.reduceLT, Int.reduceLE, Int.reduceNeg, Int.reduceToNat]
  exact finish_deep rfl

/-- The blocks of the members. -/
def gBlk (g : Gp) : Blk := ⟨(ints g.ms).flatten, 1, y_int, true⟩
def gVals (n : Nat) (gs : List Gp) : List Value := (List.range gs.length).map fun i => .slice (some ⟨n + 1 + i, 0, none⟩) (gs.getD i g0).ms.length (gs.getD i g0).ms.length
theorem gVals_get {n : Nat} {gs : List Gp} {i : Nat} (hi : i < gs.length) : (gVals n gs).getD i nilV = .slice (some ⟨n + 1 + i, 0, none⟩) (gs.getD i g0).ms.length (gs.getD i g0).ms.length := by
  simp [gVals, hi]

theorem x_toGroupS (hg : RowsG h v gs) (hl : gs.length ≤ lim) (hm : ∀ g ∈ gs, g.ms.length ≤ lim) : ∃ w hh, C T X n_laws_toGroupS [v] h = some (w, hh) ∧ h <+: hh ∧ OwnG hh h.length hh.length y_Group w gs := by
  obtain ⟨vs, hvs⟩ : ∃ vs, vs = gVals h.length gs := ⟨_, rfl⟩
  have hrow : ∀ r ∈ gRows vs gs, r.length = 2 := map_row gRow_len
  have hlen : (gRows vs gs).length = gs.length := by simp
  refine ⟨.slice (some ⟨h.length, 0, none⟩) gs.length gs.length, h ++ ⟨(gRows vs gs).flatten, 2, y_Group, true⟩ :: gs.map gBlk, ?_, List.prefix_append _ _, vs, ?_⟩
  · refine C_go t_laws_toGroupS rfl ?_
    unfold F_laws_toGroupS
    simp only [hg.ln, mkW_ok hl, go_sem, reduceIte, Nat.reduceEqDiff, Nat.reduceAdd, Nat.reduceMul, Nat.reduceLT, Nat.reduceLeDiff, reduceCtorEq, ne_eq, Int.reduceEq, Int.reduceLT, Int.reduceLE, Int.reduceNeg, Int.reduceToNat]
    have hl2 := hl
    unfold lim at hl2
    rw [fill_start (rows := gRows vs gs)]
    refine w_for gs.length (fun i t loc h' => h' = h ++ ⟨fillC [.slice none 0 0, .int .i64 0] (gRows vs gs) gs.length i, 2, y_Group, true⟩ :: (gs.take i).map gBlk ∧ t 0 = v ∧ t 3 = .slice (some ⟨h.length, 0, none⟩) gs.length gs.length ∧ t 4 = .int .i64 i) ⟨rfl, rfl, rfl, rfl⟩ ?_
    rintro i t loc h' hi ⟨rfl, t0, t3, t4⟩
    have hu := hg.up (List.prefix_append h (⟨fillC [.slice none 0 0, .int .i64 0] (gRows vs gs) gs.length i, 2, y_Group, true⟩ :: (gs.take i).map gBlk))
    simp only [t0, t4, hu.ln, go_sem, reduceIte, Nat.reduceEqDiff, Nat.reduceAdd, Nat.reduceMul, Nat.reduceLT, Nat.reduceLeDiff, reduceCtorEq, ne_eq, Int.reduceEq, Int.reduceLT, Int.reduceLE, Int.reduceNeg, Int.reduceToNat]
    refine w_open (by simp only [go_sem, reduceIte, Nat.reduceEqDiff, Nat.reduceAdd, Nat.reduceMul, Nat.reduceLT, Nat.reduceLeDiff, reduceCtorEq, ne_eq, Int.reduceEq, Int.reduceLT, Int.reduceLE, Int.reduceNeg, Int.reduceToNat]; rfl) ?_ ?_ <;> intro hc
    · have hi1 : i < gs.length := by omega
      have hw : IntKind.i64.wrap ((i : Int) + 1) = ((i + 1 : Nat) : Int) := w64 (by omega) (by omega)
      have hi2 : i < (gRows vs gs).length := by omega
      obtain ⟨x, e1, e2, e3, e4, e5, e6⟩ := hu.el hi1
      have ct := k_toGroup (X := X) (z := (gs.getD i g0).z) e6 (hm _ (getD_mem hi1))
      have hll : List.length (h ++ (⟨fillC [.slice none 0 0, .int .i64 0] (gRows vs gs) gs.length i, 2, y_Group, true⟩ : Blk) :: (gs.take i).map gBlk) = h.length + 1 + i := by
        simp only [List.length_append, List.length_cons, List.length_map, List.length_take]; omega
      have hap : h ++ (⟨fillC [.slice none 0 0, .int .i64 0] (gRows vs gs) gs.length i, 2, y_Group, true⟩ : Blk) :: (gs.take i).map gBlk ++ [⟨(ints (gs.getD i g0).ms).flatten, 1, y_int, true⟩] =
          h ++ (⟨fillC [.slice none 0 0, .int .i64 0] (gRows vs gs) gs.length i, 2, y_Group, true⟩ : Blk) :: (gs.take (i + 1)).map gBlk := by
        rw [take_getD (d := g0) hi1, List.map_append]; simp [gBlk]
      rw [hll, hap] at ct
      have hst := fill_st (h := h) (ext := (gs.take (i + 1)).map gBlk) (z := [.slice none 0 0, .int .i64 0]) (ty := y_Group) hrow rfl hlen hi2
      have hia := fill_ia (h := h) (ext := (gs.take (i + 1)).map gBlk) (z := [.slice none 0 0, .int .i64 0]) (ty := y_Group) hrow rfl hlen (i := i) (by omega) (k := .i64) (j := (i : Int)) (by omega) (by omega)
      rw [Int.toNat_natCast] at hia
      have hgt : (gRows vs gs)[i] = [.slice (some ⟨h.length + 1 + i, 0, none⟩) (gs.getD i g0).ms.length (gs.getD i g0).ms.length, .int .i64 (gs.getD i g0).z] := by
        have : (gRows vs gs)[i] = gRow vs gs i := by simp
        rw [this, hvs]
        unfold gRow
        rw [gVals_get hi1]
      rw [hgt] at hst
      simp only [t0, t3, t4, e1, e3, ct, hia, hst, hw, go_sem, reduceIte, Nat.reduceEqDiff, Nat.reduceAdd, Nat.reduceMul, Nat.reduceLT, Nat.reduceLeDiff, reduceCtorEq, ne_eq, Int.reduceEq, Int.reduceLT, Int.reduceLE, Int.reduceNeg, Int.reduceToNat]
      exact hi1
    · have hil : i = gs.length := by omega
      subst hil
      simp only [t3, go_sem, reduceIte, Nat.reduceEqDiff, Nat.reduceAdd, Nat.reduceMul, Nat.reduceLT, Nat.reduceLeDiff, reduceCtorEq, ne_eq, Int.reduceEq, Int.reduceLT, Int.reduceLE, Int.reduceNeg, Int.reduceToNat]
      rw [finish_deep rfl, fill_end hlen, List.take_length]
  · have hL : List.length (h ++ (⟨(gRows vs gs).flatten, 2, y_Group, true⟩ : Blk) :: gs.map gBlk) = h.length + 1 + gs.length := by simp only [List.length_append, List.length_cons, List.length_map]; omega
    refine ⟨⟨hrow, .inr ⟨h.length, Nat.le_refl _, by rw [hL]; omega, by rw [hlen], by simp⟩⟩, fun i hi => ?_, fun i hi => ?_, fun i j hij hj => ?_⟩
    · rw [hvs, gVals_get hi]
      refine ⟨ints_row, .inr ⟨h.length + 1 + i, by omega, by rw [← hvs, hL]; omega, by rw [ints_len], ?_⟩⟩
      rw [List.getElem?_append_right (by omega), show h.length + 1 + i - h.length = i + 1 by omega, List.getElem?_cons_succ]
      simp [hi, gBlk]
    · rw [hvs, gVals_get hi]; exact .inl (by simp only [tlo, thi]; omega)
    · rw [hvs, gVals_get (by omega), gVals_get hj]; exact .inl (by simp only [tlo, thi]; omega)

theorem k_eqGroup (ha : Rows h 1 v (ints il)) (hb : Rows h 1 w (ints il)) (hl : il.length ≤ lim) : C T X n_laws_eqGroup [.agg ⟨[v, .int .i64 z]⟩, .agg ⟨[w, .int .i64 z]⟩] h = some (.bool true, h) := by
  refine C_go t_laws_eqGroup rfl ?_
  unfold F_laws_eqGroup
  simp only [k_eqIntS ha hb hl, go_sem, reduceIte, Nat.reduceEqDiff, Nat.reduceAdd, Nat.reduceMul, Nat.reduceLT, Nat.reduceLeDiff, reduceCtorEq, ne_eq, Int.reduceEq, Int.reduceLT, Int.reduceLE, Int.reduceNeg, Int.reduceToNat]
theorem k_eqGroupS (ha : RowsG h v gs) (hb : RowsG h w gs) (hl : gs.length ≤ lim) (hm : ∀ g ∈ gs, g.ms.length ≤ lim) : C T X n_laws_eqGroupS [v, w] h = some (.bool true, h) := by
  unfold lim at hl
  refine C_go t_laws_eqGroupS rfl ?_
  unfold F_laws_eqGroupS
  simp only [ha.ln, hb.ln, go_sem, reduceIte, Nat.reduceEqDiff, Nat.reduceAdd, Nat.reduceMul, Nat.reduceLT, Nat.reduceLeDiff, reduceCtorEq, ne_eq, Int.reduceEq, Int.reduceLT, Int.reduceLE, Int.reduceNeg, Int.reduceToNat]
  refine w_for gs.length (fun i t loc h' => h' = h ∧ t 0 = v ∧ t 1 = w ∧ t 5 = .int .i64 i) ⟨rfl, rfl, rfl, rfl⟩ ?_
  rintro i t loc h' hi ⟨rfl, t0, t1, t5⟩
  simp only [t0, t5, ha.ln, go_sem, reduceIte, Nat.reduceEqDiff, Nat.reduceAdd, Nat.reduceMul, Nat.reduceLT, Nat.reduceLeDiff, reduceCtorEq, ne_eq, Int.reduceEq, Int.reduceLT, Int.reduceLE, Int.reduceNeg, Int.reduceToNat]
  refine w_open (by simp only [go_sem, reduceIte, Nat.reduceEqDiff, Nat.reduceAdd, Nat.reduceMul, Nat.reduceLT, Nat.reduceLeDiff, reduceCtorEq, ne_eq, Int.reduceEq, Int.reduceLT, Int.reduceLE, Int.reduceNeg, Int.reduceToNat]; rfl) ?_ ?_ <;> intro hc
  · have hi1 : i < gs.length := by omega
    have hw : IntKind.i64.wrap ((i : Int) + 1) = ((i + 1 : Nat) : Int) := w64 (by omega) (by omega)
    obtain ⟨x, e1, e2, e3, e4, e5, e6⟩ := ha.el hi1
    obtain ⟨x', f1, f2, f3, f4, f5, f6⟩ := hb.el hi1
    have hc := k_eqGroup (X := X) (z := (gs.getD i g0).z) e6 f6 (hm _ (getD_mem hi1))
    simp only [t0, t1, t5, e1, e3, f1, f3, hc, hw, List.prefix_refl, go_sem, reduceIte, Nat.reduceEqDiff, Nat.reduceAdd, Nat.reduceMul, Nat.reduceLT, Nat.reduceLeDiff, reduceCtorEq, ne_eq, Int.reduceEq, Int.reduceLT, Int.reduceLE, Int.reduceNeg, Int.reduceToNat]
    exact hi1
  · simp only [go_sem, reduceIte, Nat.reduceEqDiff, Nat.reduceAdd, Nat.reduceMul, Nat.reduceLT, Nat.reduceLeDiff, reduceCtorEq, ne_eq, Int.reduceEq, Int.reduceLT, Int.reduceLE, Int.reduceNeg, Int.reduceToNat]

theorem x_toProof (hy : Rows h 1 y (ints ys)) (hg : RowsG h v gs) (hb : PfBnd ys gs) : ∃ yw gw hh, C T X n_laws_toProof [proofV y v] h = some (proofV yw gw, hh) ∧ h <+: hh ∧ Own hh h.length hh.length 1 y_int yw (ints ys) ∧ OwnG hh h.length hh.length y_Group gw gs := by
  obtain ⟨yw, h1, c1, p1, o1⟩ := x_toIntS (X := X) hy (by have := hb.1; unfold lim; omega)
  obtain ⟨gw, h2, c2, p2, o2⟩ := x_toGroupS (X := X) (hg.up p1) (by have := hb.2.1; unfold lim; omega) (fun g hg => by have := hb.2.2 g hg; unfold lim; omega)
  have l1 := pre_len p1
  have l2 := pre_len p2
  refine ⟨yw, gw, h2, C_go t_laws_toProof rfl ?_, p1.trans p2, (o1.up p2).wide (Nat.le_refl _) l2, o2.wide l1 (Nat.le_refl _)⟩
  unfold F_laws_toProof proofV
  have hc2 : cellsOf gw = some [gw] := by obtain ⟨vs, o, _⟩ := o2; exact o.cells
  simp only [c1, c2, o1.cells, hc2, go_sem, reduceIte, Nat.reduceEqDiff, Nat.reduceAdd, Nat.reduceMul, Nat.reduceLT, Nat.reduceLeDiff, reduceCtorEq, ne_eq, Int.reduceEq, Int.reduceLT, Int.reduceLE, Int.reduceNeg, Int.reduceToNat]
  obtain ⟨hh, e, _, hc⟩ := finish_cases (v := .agg ⟨[yw, gw]⟩) (p1.trans p2)
  rw [e]
  rcases hc with rfl | ⟨hf, rfl⟩
  · rfl
  · exfalso
    have hz : yw ≠ nilV := by
      intro hz
      subst hz
      have := k_toIntS (X := X) hy (by have := hb.1; unfold lim; omega)
      rw [c1] at this
      simp only [Option.some.injEq, Prod.mk.injEq] at this
      cases this.1
    rcases o1.within with q | _
    · exact hz q
    · rcases o1.is with ⟨q, _⟩ | ⟨b, _, _, rfl, _⟩
      · exact hz q
      · simp [flat, prim] at hf
theorem k_eqProof (ha : Rows h 1 y (ints ys)) (hb : Rows h 1 y' (ints ys)) (hg : RowsG h v gs) (hg' : RowsG h w gs) (hp : PfBnd ys gs) : C T X n_laws_eqProof [proofV y v, proofV y' w] h = some (.bool true, h) := by
  refine C_go t_laws_eqProof rfl ?_
  unfold F_laws_eqProof proofV
  have c1 := k_eqIntS (X := X) ha hb (by have := hp.1; unfold lim; omega)
  have c2 := k_eqGroupS (X := X) hg hg' (by have := hp.2.1; unfold lim; omega) (fun g hg => by have := hp.2.2 g hg; unfold lim; omega)
  simp only [c1, c2, go_sem, reduceIte, Nat.reduceEqDiff, Nat.reduceAdd, Nat.reduceMul, Nat.reduceLT, Nat.reduceLeDiff, reduceCtorEq, ne_eq, Int.reduceEq, Int.reduceLT, Int.reduceLE, Int.reduceNeg, Int.reduceToNat]
end
end Go.Proofs.Ytioogligololoaa.Ab
