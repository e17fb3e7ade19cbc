/- Contracts: is a proof right, by the reference; bounds. No conditions. -/
import Derived.Test.YtioogligololoaaK23
set_option linter.unusedSimpArgs false
set_option linter.unusedVariables false
set_option linter.unnecessarySimpa false
set_option maxHeartbeats 4000000
namespace Go.Proofs.Ytioogligololoaa.Ab
open Go.RowKit
section
variable {X : CallF} {h : Heap} {v w ev yv gv : Value} {ys : List Int} {gs : List Gp} {es : List E} {g : Gp} {size : Int}

open Classical in
theorem k_spec_ProofOk (he : Rows h 5 ev (edges es)) (hy : Rows h 1 yv (ints ys)) (hg : RowsG h gv gs) (hl : es.length ≤ lim) (hb : PfBnd ys gs) : C T X n_spec_ProofOk [graphV size ev, proofV yv gv] h = some (.bool (decide (PfOk size es ys gs)), h) := by
  have hk := k_spec_GraphOk (X := X) (size := size) he hl
  obtain ⟨hyl, hgl, hml⟩ := hb
  refine C_go t_spec_ProofOk rfl ?_
  unfold F_spec_ProofOk
  by_cases g1 : GOk size es
  rotate_left
  · have hr : ¬ PfOk size es ys gs := fun h => g1 h.1.1
    unfold graphV at hk; unfold graphV proofV
    simp only [hk, g1, hr, go_sem, reduceIte, Nat.reduceEqDiff, Nat.reduceAdd, Nat.reduceMul, Nat.reduceLT, Nat.reduceLeDiff, reduceCtorEq, ne_eq, Int.reduceEq, Int.reduceLT, Int.reduceLE, Int.reduceNeg, Int.reduceToNat]
  by_cases g2 : (ys.length : Int) = size
  rotate_left
  · have hr : ¬ PfOk size es ys gs := fun h => g2 h.1.2.1
    unfold graphV at hk; unfold graphV proofV
    simp only [hk, g1, ints_ln hy, g2, hr, go_sem, reduceIte, Nat.reduceEqDiff, Nat.reduceAdd, Nat.reduceMul, Nat.reduceLT, Nat.reduceLeDiff, reduceCtorEq, ne_eq, Int.reduceEq, Int.reduceLT, Int.reduceLE, Int.reduceNeg, Int.reduceToNat]
  by_cases g3 : (8 : Int) < gs.length
  · have hr : ¬ PfOk size es ys gs := fun h => by have := h.1.2.2; omega
    unfold graphV at hk; unfold graphV proofV
    simp only [hk, g1, ints_ln hy, hg.ln, g2, g3, hr, go_sem, reduceIte, Nat.reduceEqDiff, Nat.reduceAdd, Nat.reduceMul, Nat.reduceLT, Nat.reduceLeDiff, reduceCtorEq, ne_eq, Int.reduceEq, Int.reduceLT, Int.reduceLE, Int.reduceNeg, Int.reduceToNat]
  have hs := g1.1
  have hws : IntKind.i64.wrap (size - 1) = size - 1 := w64 (by omega) (by omega)
  unfold graphV at hk; unfold graphV proofV
  simp only [hk, g1, ints_ln hy, hg.ln, g2, g3, go_sem, reduceIte, Nat.reduceEqDiff, Nat.reduceAdd, Nat.reduceMul, Nat.reduceLT, Nat.reduceLeDiff, reduceCtorEq, ne_eq, Int.reduceEq, Int.reduceLT, Int.reduceLE, Int.reduceNeg, Int.reduceToNat]
  refine w_for ys.length (fun i t loc h' => h' = h ∧ loc 2 = some [.int .i64 size, ev] ∧ loc 3 = some [yv, gv] ∧ t 5 = .int .i64 i ∧ ∀ j, j < i → 0 ≤ ys.getD j 0 ∧ ys.getD j 0 ≤ 1000000000) ⟨rfl, rfl, rfl, rfl, fun j hj => by omega⟩ ?_
  rintro i t loc h' hi ⟨rfl, l2, l3, t5, hall⟩
  simp only [l3, t5, ints_ln hy, go_sem, reduceIte, Nat.reduceEqDiff, Nat.reduceAdd, Nat.reduceMul, Nat.reduceLT, Nat.reduceLeDiff, reduceCtorEq, ne_eq, Int.reduceEq, Int.reduceLT, Int.reduceLE, Int.reduceNeg, Int.reduceToNat]
  refine w_open (by simp only [go_sem, reduceIte, Nat.reduceEqDiff, Nat.reduceAdd, Nat.reduceMul, Nat.reduceLT, Nat.reduceLeDiff, reduceCtorEq, ne_eq, Int.reduceEq, Int.reduceLT, Int.reduceLE, Int.reduceNeg, Int.reduceToNat]; rfl) ?_ ?_ <;> intro hc
  · have hi1 : i < ys.length := by omega
    have hw : IntKind.i64.wrap ((i : Int) + 1) = ((i + 1 : Nat) : Int) := w64 (by omega) (by omega)
    have hel := int_el hy hi1
    by_cases b1 : 0 ≤ ys.getD i 0 ∧ ys.getD i 0 ≤ 1000000000
    · have b1' : (decide (0 ≤ ys.getD i 0) && decide (ys.getD i 0 ≤ 1000000000)) = true := by simp only [Bool.and_eq_true, decide_eq_true_eq]; exact b1
      simp only [l2, l3, t5, hel.1, hel.2, k_spec_l01In, b1', hw, go_sem, reduceIte, Nat.reduceEqDiff, Nat.reduceAdd, Nat.reduceMul, Nat.reduceLT, Nat.reduceLeDiff, reduceCtorEq, ne_eq, Int.reduceEq, Int.reduceLT, Int.reduceLE, Int.reduceNeg, Int.reduceToNat]
      exact ⟨hi1, below_succ hall b1⟩
    · have hr : ¬ PfOk size es ys gs := fun h => b1 (h.2.1 i hi1)
      have b1' : (decide (0 ≤ ys.getD i 0) && decide (ys.getD i 0 ≤ 1000000000)) = false := by simp only [Bool.and_eq_false_iff, decide_eq_false_iff_not]; omega
      simp only [l2, l3, t5, hel.1, hel.2, k_spec_l01In, b1', hr, go_sem, reduceIte, Nat.reduceEqDiff, Nat.reduceAdd, Nat.reduceMul, Nat.reduceLT, Nat.reduceLeDiff, reduceCtorEq, ne_eq, Int.reduceEq, Int.reduceLT, Int.reduceLE, Int.reduceNeg, Int.reduceToNat]
  have hil : i = ys.length := by omega
  subst hil
  simp only [l2, l3, go_sem, reduceIte, Nat.reduceEqDiff, Nat.reduceAdd, Nat.reduceMul, Nat.reduceLT, Nat.reduceLeDiff, reduceCtorEq, ne_eq, Int.reduceEq, Int.reduceLT, Int.reduceLE, Int.reduceNeg, Int.reduceToNat]
  refine w_for gs.length (fun i t loc h2 => h2 = h' ∧ loc 2 = some [.int .i64 size, ev] ∧ loc 3 = some [yv, gv] ∧ t 6 = .int .i64 i ∧ ∀ j, j < i → GrOk size (gs.getD j g0) ∧ ∀ k, k < j → Nest (gs.getD k g0).ms (gs.getD j g0).ms) ⟨rfl, rfl, rfl, rfl, fun j hj => by omega⟩ ?_
  rintro i t loc h2 hi ⟨rfl, l2, l3, t6, hallG⟩
  simp only [l3, t6, hg.ln, go_sem, reduceIte, Nat.reduceEqDiff, Nat.reduceAdd, Nat.reduceMul, Nat.reduceLT, Nat.reduceLeDiff, reduceCtorEq, ne_eq, Int.reduceEq, Int.reduceLT, Int.reduceLE, Int.reduceNeg, Int.reduceToNat]
  refine w_open (by simp only [go_sem, reduceIte, Nat.reduceEqDiff, Nat.reduceAdd, Nat.reduceMul, Nat.reduceLT, Nat.reduceLeDiff, reduceCtorEq, ne_eq, Int.reduceEq, Int.reduceLT, Int.reduceLE, Int.reduceNeg, Int.reduceToNat]; rfl) ?_ ?_ <;> intro hc
  · have hi1 : i < gs.length := by omega
    have hw : IntKind.i64.wrap ((i : Int) + 1) = ((i + 1 : Nat) : Int) := w64 (by omega) (by omega)
    obtain ⟨x, e1, e2, e3, e4, e5, e6⟩ := hg.el hi1
    obtain ⟨G, hG⟩ : ∃ G, G = gs.getD i g0 := ⟨_, rfl⟩
    rw [← hG] at e3 e5 e6
    have hmi : G.ms.length ≤ 1048576 := by rw [hG]; exact hml _ (getD_mem (d := g0) hi1)
    have hno : ¬ GrOk size G → ¬ PfOk size es ys gs := fun hn h => hn (by rw [hG]; exact (h.2.2.1 i hi1).1)
    have hmd : ((G.ms.length : Nat) : Int).tmod 2 = ((G.ms.length % 2 : Nat) : Int) := rfl
    by_cases a1 : (G.ms.length : Int) < 3
    · have hr := hno fun h => by have := h.1.1; omega
      simp only [l2, l3, t6, e1, e3, e6.cells, ints_ln e6, a1, hr, go_sem, reduceIte, Nat.reduceEqDiff, Nat.reduceAdd, Nat.reduceMul, Nat.reduceLT, Nat.reduceLeDiff, reduceCtorEq, ne_eq, Int.reduceEq, Int.reduceLT, Int.reduceLE, Int.reduceNeg, Int.reduceToNat]
    by_cases a2 : ((G.ms.length % 2 : Nat) : Int) = 0
    · have hr := hno fun h => by have := h.1.2.1; omega
      simp only [l2, l3, t6, e1, e3, e6.cells, ints_ln e6, hmd, a1, a2, hr, go_sem, reduceIte, Nat.reduceEqDiff, Nat.reduceAdd, Nat.reduceMul, Nat.reduceLT, Nat.reduceLeDiff, reduceCtorEq, ne_eq, Int.reduceEq, Int.reduceLT, Int.reduceLE, Int.reduceNeg, Int.reduceToNat]
    by_cases a4 : size < (G.ms.length : Int)
    · have hr := hno fun h => by have := grOk_len h hs.1; omega
      simp only [l2, l3, t6, e1, e3, e6.cells, ints_ln e6, hmd, a1, a2, a4, hr, go_sem, reduceIte, Nat.reduceEqDiff, Nat.reduceAdd, Nat.reduceMul, Nat.reduceLT, Nat.reduceLeDiff, reduceCtorEq, ne_eq, Int.reduceEq, Int.reduceLT, Int.reduceLE, Int.reduceNeg, Int.reduceToNat]
    by_cases a3 : 1 ≤ G.z ∧ G.z ≤ 1000000000
    rotate_left
    · have hr := hno fun h => a3 h.1.2.2
      have a3' : (decide (1 ≤ G.z) && decide (G.z ≤ 1000000000)) = false := by simp only [Bool.and_eq_false_iff, decide_eq_false_iff_not]; omega
      simp only [l2, l3, t6, e1, e3, e6.cells, ints_ln e6, hmd, k_spec_l01In, a1, a2, a4, a3', hr, go_sem, reduceIte, Nat.reduceEqDiff, Nat.reduceAdd, Nat.reduceMul, Nat.reduceLT, Nat.reduceLeDiff, reduceCtorEq, ne_eq, Int.reduceEq, Int.reduceLT, Int.reduceLE, Int.reduceNeg, Int.reduceToNat]
    have a3' : (decide (1 ≤ G.z) && decide (G.z ≤ 1000000000)) = true := by simp only [Bool.and_eq_true, decide_eq_true_eq]; exact a3
    simp only [l2, l3, t6, e1, e3, e6.cells, ints_ln e6, hmd, k_spec_l01In, a1, a2, a4, a3', go_sem, reduceIte, Nat.reduceEqDiff, Nat.reduceAdd, Nat.reduceMul, Nat.reduceLT, Nat.reduceLeDiff, reduceCtorEq, ne_eq, Int.reduceEq, Int.reduceLT, Int.reduceLE, Int.reduceNeg, Int.reduceToNat]
    refine w_for G.ms.length (fun k t loc h3 => h3 = h2 ∧ loc 2 = some [.int .i64 size, ev] ∧ loc 3 = some [yv, gv] ∧ loc 7 = some [x, .int .i64 G.z] ∧ t 6 = .int .i64 i ∧ t 8 = .int .i64 k ∧ ∀ j, j < k → (0 ≤ G.ms.getD j 0 ∧ G.ms.getD j 0 ≤ size - 1) ∧ (0 < j → G.ms.getD (j - 1) 0 < G.ms.getD j 0)) ⟨rfl, rfl, rfl, rfl, rfl, rfl, fun j hj => by omega⟩ ?_
    rintro k t loc h3 hk ⟨rfl, l2, l3, l7, t6, t8, hallM⟩
    simp only [l7, t8, ints_ln e6, go_sem, reduceIte, Nat.reduceEqDiff, Nat.reduceAdd, Nat.reduceMul, Nat.reduceLT, Nat.reduceLeDiff, reduceCtorEq, ne_eq, Int.reduceEq, Int.reduceLT, Int.reduceLE, Int.reduceNeg, Int.reduceToNat]
    refine w_open (by simp only [go_sem, reduceIte, Nat.reduceEqDiff, Nat.reduceAdd, Nat.reduceMul, Nat.reduceLT, Nat.reduceLeDiff, reduceCtorEq, ne_eq, Int.reduceEq, Int.reduceLT, Int.reduceLE, Int.reduceNeg, Int.reduceToNat]; rfl) ?_ ?_ <;> intro hc
    · have hk1 : k < G.ms.length := by omega
      have hw2 : IntKind.i64.wrap ((k : Int) + 1) = ((k + 1 : Nat) : Int) := w64 (by omega) (by omega)
      have hel := int_el e6 hk1
      by_cases b1 : 0 ≤ G.ms.getD k 0 ∧ G.ms.getD k 0 ≤ size - 1
      rotate_left
      · have hr := hno fun h => b1 (h.2 k hk1).1
        have b1' : (decide (0 ≤ G.ms.getD k 0) && decide (G.ms.getD k 0 ≤ size - 1)) = false := by simp only [Bool.and_eq_false_iff, decide_eq_false_iff_not]; omega
        simp only [l2, l3, l7, t6, t8, hel.1, hel.2, k_spec_l01In, hws, b1', hr, List.prefix_refl, go_sem, reduceIte, Nat.reduceEqDiff, Nat.reduceAdd, Nat.reduceMul, Nat.reduceLT, Nat.reduceLeDiff, reduceCtorEq, ne_eq, Int.reduceEq, Int.reduceLT, Int.reduceLE, Int.reduceNeg, Int.reduceToNat]
      have b1' : (decide (0 ≤ G.ms.getD k 0) && decide (G.ms.getD k 0 ≤ size - 1)) = true := by simp only [Bool.and_eq_true, decide_eq_true_eq]; exact b1
      rcases Nat.eq_zero_or_pos k with hz | hp
      · have hz' : ¬ (0 : Int) < k := by omega
        simp only [l2, l3, l7, t6, t8, hel.1, hel.2, k_spec_l01In, hws, b1', hz', hw2, List.prefix_refl, go_sem, reduceIte, Nat.reduceEqDiff, Nat.reduceAdd, Nat.reduceMul, Nat.reduceLT, Nat.reduceLeDiff, reduceCtorEq, ne_eq, Int.reduceEq, Int.reduceLT, Int.reduceLE, Int.reduceNeg, Int.reduceToNat]
        exact ⟨hk1, below_succ hallM ⟨b1, fun hp => by omega⟩⟩
      · have hp' : (0 : Int) < k := by omega
        have hw1 : IntKind.i64.wrap ((k : Int) - 1) = ((k - 1 : Nat) : Int) := by rw [w64 (by omega) (by omega)]; omega
        have hel2 := int_el e6 (show k - 1 < G.ms.length by omega)
        by_cases b2 : G.ms.getD k 0 ≤ G.ms.getD (k - 1) 0
        · have hr := hno fun h => by have := (h.2 k hk1).2 hp; omega
          simp only [l2, l3, l7, t6, t8, hel.1, hel.2, hel2.1, hel2.2, k_spec_l01In, hws, b1', hp', hw1, b2, hr, List.prefix_refl, go_sem, reduceIte, Nat.reduceEqDiff, Nat.reduceAdd, Nat.reduceMul, Nat.reduceLT, Nat.reduceLeDiff, reduceCtorEq, ne_eq, Int.reduceEq, Int.reduceLT, Int.reduceLE, Int.reduceNeg, Int.reduceToNat]
        · simp only [l2, l3, l7, t6, t8, hel.1, hel.2, hel2.1, hel2.2, k_spec_l01In, hws, b1', hp', hw1, b2, hw2, List.prefix_refl, go_sem, reduceIte, Nat.reduceEqDiff, Nat.reduceAdd, Nat.reduceMul, Nat.reduceLT, Nat.reduceLeDiff, reduceCtorEq, ne_eq, Int.reduceEq, Int.reduceLT, Int.reduceLE, Int.reduceNeg, Int.reduceToNat]
          exact ⟨hk1, below_succ hallM ⟨b1, fun hp => by omega⟩⟩
    have hkG : k = G.ms.length := by omega
    subst hkG
    have hGr : GrOk size G := ⟨⟨by omega, by omega, a3.1, a3.2⟩, hallM⟩
    simp only [l2, l3, l7, t6, go_sem, reduceIte, Nat.reduceEqDiff, Nat.reduceAdd, Nat.reduceMul, Nat.reduceLT, Nat.reduceLeDiff, reduceCtorEq, ne_eq, Int.reduceEq, Int.reduceLT, Int.reduceLE, Int.reduceNeg, Int.reduceToNat]
    refine w_for i (fun k t loc h4 => h4 = h3 ∧ loc 2 = some [.int .i64 size, ev] ∧ loc 3 = some [yv, gv] ∧ loc 7 = some [x, .int .i64 G.z] ∧ t 6 = .int .i64 i ∧ t 9 = .int .i64 k ∧ ∀ j, j < k → Nest (gs.getD j g0).ms G.ms) ⟨rfl, rfl, rfl, rfl, rfl, rfl, fun j hj => by omega⟩ ?_
    rintro k t loc h4 hk ⟨rfl, l2, l3, l7, t6, t9, hallN⟩
    simp only [t6, t9, go_sem, reduceIte, Nat.reduceEqDiff, Nat.reduceAdd, Nat.reduceMul, Nat.reduceLT, Nat.reduceLeDiff, reduceCtorEq, ne_eq, Int.reduceEq, Int.reduceLT, Int.reduceLE, Int.reduceNeg, Int.reduceToNat]
    refine w_open (by simp only [go_sem, reduceIte, Nat.reduceEqDiff, Nat.reduceAdd, Nat.reduceMul, Nat.reduceLT, Nat.reduceLeDiff, reduceCtorEq, ne_eq, Int.reduceEq, Int.reduceLT, Int.reduceLE, Int.reduceNeg, Int.reduceToNat]; rfl) ?_ ?_ <;> intro hc
    · have hk1 : k < i := by omega
      have hw2 : IntKind.i64.wrap ((k : Int) + 1) = ((k + 1 : Nat) : Int) := w64 (by omega) (by omega)
      obtain ⟨z, f1, f2, f3, f4, f5, f6⟩ := hg.el (i := k) (by omega)
      have hmk := hml _ (getD_mem (d := g0) (show k < gs.length by omega))
      have w1 := k_spec_l11Nested (X := X) f6 e6 (by unfold lim; omega) (by unfold lim; omega)
      have hnc := nest_cnt (grOk_asc (hallG k hk1).1) (grOk_asc hGr)
      by_cases c1 : Nest (gs.getD k g0).ms G.ms
      · have hd : (decide (cntIn (gs.getD k g0).ms G.ms = 0) || (decide (cntIn (gs.getD k g0).ms G.ms = (gs.getD k g0).ms.length) || decide (cntIn (gs.getD k g0).ms G.ms = G.ms.length))) = true := by
          simp only [Bool.or_eq_true, decide_eq_true_eq]; exact hnc.1 c1
        rw [hd] at w1
        simp only [l2, l3, l7, t6, t9, f1, f2, f4, w1, hw2, List.prefix_refl, go_sem, reduceIte, Nat.reduceEqDiff, Nat.reduceAdd, Nat.reduceMul, Nat.reduceLT, Nat.reduceLeDiff, reduceCtorEq, ne_eq, Int.reduceEq, Int.reduceLT, Int.reduceLE, Int.reduceNeg, Int.reduceToNat]
        exact ⟨hk1, below_succ hallN c1⟩
      · have hd : (decide (cntIn (gs.getD k g0).ms G.ms = 0) || (decide (cntIn (gs.getD k g0).ms G.ms = (gs.getD k g0).ms.length) || decide (cntIn (gs.getD k g0).ms G.ms = G.ms.length))) = false := by
          rw [Bool.eq_false_iff]
          simp only [ne_eq, Bool.or_eq_true, decide_eq_true_eq]
          exact fun h => c1 (hnc.2 h)
        have hr : ¬ PfOk size es ys gs := fun h => c1 (by rw [hG]; exact (h.2.2.1 i hi1).2 k hk1)
        rw [hd] at w1
        simp only [l2, l3, l7, t6, t9, f1, f2, f4, w1, hr, List.prefix_refl, go_sem, reduceIte, Nat.reduceEqDiff, Nat.reduceAdd, Nat.reduceMul, Nat.reduceLT, Nat.reduceLeDiff, reduceCtorEq, ne_eq, Int.reduceEq, Int.reduceLT, Int.reduceLE, Int.reduceNeg, Int.reduceToNat]
    · have hki : k = i := by omega
      subst hki
      simp only [l2, l3, t6, hw, go_sem, reduceIte, Nat.reduceEqDiff, Nat.reduceAdd, Nat.reduceMul, Nat.reduceLT, Nat.reduceLeDiff, reduceCtorEq, ne_eq, Int.reduceEq, Int.reduceLT, Int.reduceLE, Int.reduceNeg, Int.reduceToNat]
      rw [hG] at hGr hallN
      exact ⟨hi1, below_succ hallG ⟨hGr, hallN⟩⟩
  have hig : i = gs.length := by omega
  subst hig
  have fit := pfFit_of (by omega) (by omega) hall hs fun i hi => (hallG i hi).1
  simp only [l2, l3, go_sem, reduceIte, Nat.reduceEqDiff, Nat.reduceAdd, Nat.reduceMul, Nat.reduceLT, Nat.reduceLeDiff, reduceCtorEq, ne_eq, Int.reduceEq, Int.reduceLT, Int.reduceLE, Int.reduceNeg, Int.reduceToNat]
  refine w_for es.length (fun i t loc h3 => h3 = h2 ∧ loc 2 = some [.int .i64 size, ev] ∧ loc 3 = some [yv, gv] ∧ t 10 = .int .i64 i ∧ ∀ j, j < i → 0 ≤ slackL ys gs (es.getD j e0)) ⟨rfl, rfl, rfl, rfl, fun j hj => by omega⟩ ?_
  rintro i t loc h3 hi ⟨rfl, l2, l3, t10, hallS⟩
  simp only [l2, t10, he.lnm, go_sem, reduceIte, Nat.reduceEqDiff, Nat.reduceAdd, Nat.reduceMul, Nat.reduceLT, Nat.reduceLeDiff, reduceCtorEq, ne_eq, Int.reduceEq, Int.reduceLT, Int.reduceLE, Int.reduceNeg, Int.reduceToNat]
  unfold lim at hl
  refine w_open (by simp only [go_sem, reduceIte, Nat.reduceEqDiff, Nat.reduceAdd, Nat.reduceMul, Nat.reduceLT, Nat.reduceLeDiff, reduceCtorEq, ne_eq, Int.reduceEq, Int.reduceLT, Int.reduceLE, Int.reduceNeg, Int.reduceToNat]; rfl) ?_ ?_ <;> intro hc
  · have hi1 : i < es.length := by omega
    have hw : IntKind.i64.wrap ((i : Int) + 1) = ((i + 1 : Nat) : Int) := w64 (by omega) (by omega)
    have hel := edge_el he hi1
    have cs := k_spec_l11Slack (X := X) hy hg fit (gok_mem g1 (getD_mem (d := e0) hi1)) g2
    unfold edgeV edgeR proofV at cs
    by_cases b1 : slackL ys gs (es.getD i e0) < 0
    · have hr : ¬ PfOk size es ys gs := fun h => by have := h.2.2.2 i hi1; omega
      simp only [l2, l3, t10, hel.1, hel.2.2.1, cs, b1, hr, List.prefix_refl, go_sem, reduceIte, Nat.reduceEqDiff, Nat.reduceAdd, Nat.reduceMul, Nat.reduceLT, Nat.reduceLeDiff, reduceCtorEq, ne_eq, Int.reduceEq, Int.reduceLT, Int.reduceLE, Int.reduceNeg, Int.reduceToNat]
    · simp only [l2, l3, t10, hel.1, hel.2.2.1, cs, b1, hw, List.prefix_refl, go_sem, reduceIte, Nat.reduceEqDiff, Nat.reduceAdd, Nat.reduceMul, Nat.reduceLT, Nat.reduceLeDiff, reduceCtorEq, ne_eq, Int.reduceEq, Int.reduceLT, Int.reduceLE, Int.reduceNeg, Int.reduceToNat]
      exact ⟨hi1, below_succ hallS (by omega)⟩
  · have hr : PfOk size es ys gs := ⟨⟨g1, g2, by omega⟩, hall, hallG, fun j hj => hallS j (by omega)⟩
    simp only [hr, go_sem, reduceIte, Nat.reduceEqDiff, Nat.reduceAdd, Nat.reduceMul, Nat.reduceLT, Nat.reduceLeDiff, reduceCtorEq, ne_eq, Int.reduceEq, Int.reduceLT, Int.reduceLE, Int.reduceNeg, Int.reduceToNat]

theorem pfOk_fit (p : PfOk size es ys gs) : PfFit ys gs :=
  pfFit_of (by have := p.1.1.1; have := p.1.2.1; omega) p.1.2.2 p.2.1 p.1.1.1 fun i hi => (p.2.2.1 i hi).1
theorem weight_bnd (f : PfFit ys gs) : 0 ≤ weightL ys gs ∧ weightL ys gs ≤ 100000000000 := by
  have h1 := sumY_bnd f.y ys.length (Nat.le_refl _)
  have h2 := sumG_bnd f.g gs.length (Nat.le_refl _)
  rw [List.take_length] at h1 h2
  have := f.yl
  have := f.gl
  unfold weightL
  omega
theorem half_fits {W : Int} (h : 0 ≤ W ∧ W ≤ 100000000000) : IntKind.i64.wrap (W.tdiv 2) = W.tdiv 2 := by
  obtain ⟨k, rfl⟩ := Int.eq_ofNat_of_zero_le h.1
  rw [show ((k : Int).tdiv 2) = ((k / 2 : Nat) : Int) from rfl]
  exact w64 (by omega) (by omega)
open Classical in
noncomputable def boundL (size : Int) (es : List E) (ys : List Int) (gs : List Gp) : Int := if PfOk size es ys gs then (weightL ys gs).tdiv 2 else 0
end
end Go.Proofs.Ytioogligololoaa.Ab
