/- Contracts: is a group, a proof right, by the program; what a proof comes to. No conditions. -/
import Derived.Test.YtioogligololoaaK22
set_option linter.unusedSimpArgs false
set_option linter.unusedVariables false
set_option linter.unnecessarySimpa false
set_option maxHeartbeats 4000000
namespace Go.Proofs.Ytioogligololoaa.Ab
open Go.RowKit
section
variable {X : CallF} {h : Heap} {v w ev yv gv : Value} {ys : List Int} {gs : List Gp} {es : List E} {g : Gp} {size : Int}

theorem k_impl_weight (hy : Rows h 1 yv (ints ys)) (hg : RowsG h gv gs) (fit : PfFit ys gs) (hodd : ∀ i, i < gs.length → (gs.getD i g0).ms.length % 2 = 1) : C T X n_impl_weight [proofV yv gv] h = some (.int .i64 (weightL ys gs), h) := by
  have hyl := fit.yl
  have hgl := fit.gl
  have by1 := sumY_bnd fit.y
  have by2 := by1 ys.length (Nat.le_refl _)
  rw [List.take_length] at by2
  have bg1 := sumG_bnd fit.g
  refine C_go t_impl_weight rfl ?_
  unfold F_impl_weight proofV weightL
  simp only [ints_ln hy, go_sem, reduceIte, Nat.reduceEqDiff, Nat.reduceAdd, Nat.reduceMul, Nat.reduceLT, Nat.reduceLeDiff, reduceCtorEq, ne_eq, Int.reduceEq, Int.reduceLT, Int.reduceLE, Int.reduceNeg, Int.reduceToNat]
  refine w_for ys.length (fun i t loc h' => h' = h ∧ loc 1 = some [yv, gv] ∧ t 3 = .int .i64 (sumY (ys.take i)) ∧ t 9 = yv ∧ t 10 = .int .i64 ys.length ∧ t 11 = .int .i64 i) ⟨rfl, rfl, rfl, rfl, rfl, rfl⟩ ?_
  rintro i t loc h' hi ⟨rfl, l1, t3, t9, t10, t11⟩
  simp only [t10, t11, go_sem, reduceIte, Nat.reduceEqDiff, Nat.reduceAdd, Nat.reduceMul, Nat.reduceLT, Nat.reduceLeDiff, reduceCtorEq, ne_eq, Int.reduceEq, Int.reduceLT, Int.reduceLE, Int.reduceNeg, Int.reduceToNat]
  refine w_open (by simp only [go_sem, reduceIte, Nat.reduceEqDiff, Nat.reduceAdd, Nat.reduceMul, Nat.reduceLT, Nat.reduceLeDiff, reduceCtorEq, ne_eq, Int.reduceEq, Int.reduceLT, Int.reduceLE, Int.reduceNeg, Int.reduceToNat]; rfl) ?_ ?_ <;> intro hc
  · have hi1 : i < ys.length := by omega
    have hw : IntKind.i64.wrap ((i : Int) + 1) = ((i + 1 : Nat) : Int) := w64 (by omega) (by omega)
    have hel := int_el hy hi1
    have h1 := by1 i (by omega)
    have h2 := fit.y i hi1
    have hst := sumY_take hi1
    have hw2 : IntKind.i64.wrap (sumY (ys.take i) + ys.getD i 0) = sumY (ys.take (i + 1)) := by rw [hst]; exact w64 (by omega) (by omega)
    simp only [l1, t3, t9, t10, t11, hel.1, hel.2, hw2, hw, go_sem, reduceIte, Nat.reduceEqDiff, Nat.reduceAdd, Nat.reduceMul, Nat.reduceLT, Nat.reduceLeDiff, reduceCtorEq, ne_eq, Int.reduceEq, Int.reduceLT, Int.reduceLE, Int.reduceNeg, Int.reduceToNat]
    exact hi1
  have hil : i = ys.length := by omega
  subst hil
  rw [List.take_length] at t3
  simp only [l1, t3, hg.ln, go_sem, reduceIte, Nat.reduceEqDiff, Nat.reduceAdd, Nat.reduceMul, Nat.reduceLT, Nat.reduceLeDiff, reduceCtorEq, ne_eq, Int.reduceEq, Int.reduceLT, Int.reduceLE, Int.reduceNeg, Int.reduceToNat]
  refine w_for gs.length (fun i t loc h2 => h2 = h' ∧ t 3 = .int .i64 (sumY ys + sumG (gs.take i)) ∧ t 20 = gv ∧ t 21 = .int .i64 gs.length ∧ t 22 = .int .i64 i) ⟨rfl, congrArg (Value.int .i64) (Int.add_zero _).symm, rfl, rfl, rfl⟩ ?_
  rintro i t loc h2 hi ⟨rfl, t3, t20, t21, t22⟩
  simp only [t21, t22, go_sem, reduceIte, Nat.reduceEqDiff, Nat.reduceAdd, Nat.reduceMul, Nat.reduceLT, Nat.reduceLeDiff, reduceCtorEq, ne_eq, Int.reduceEq, Int.reduceLT, Int.reduceLE, Int.reduceNeg, Int.reduceToNat]
  refine w_open (by simp only [go_sem, reduceIte, Nat.reduceEqDiff, Nat.reduceAdd, Nat.reduceMul, Nat.reduceLT, Nat.reduceLeDiff, reduceCtorEq, ne_eq, Int.reduceEq, Int.reduceLT, Int.reduceLE, Int.reduceNeg, Int.reduceToNat]; rfl) ?_ ?_ <;> intro hc
  · have hi1 : i < gs.length := by omega
    have hw : IntKind.i64.wrap ((i : Int) + 1) = ((i + 1 : Nat) : Int) := w64 (by omega) (by omega)
    obtain ⟨x, e1, e2, e3, e4, e5, e6⟩ := hg.el hi1
    have hml := fit.g i hi1
    have ho := hodd i hi1
    have hmb := mul_bnd hml.1 hml.2
    have hst := sumG_take hi1
    have h1 := bg1 i (by omega)
    have hw2 : IntKind.i64.wrap (((gs.getD i g0).ms.length : Int) - 1) = (((gs.getD i g0).ms.length - 1 : Nat) : Int) := by rw [w64 (by omega) (by omega)]; omega
    have hdv : (((gs.getD i g0).ms.length - 1 : Nat) : Int).tdiv 2 = (((gs.getD i g0).ms.length / 2 : Nat) : Int) := by
      have : ((gs.getD i g0).ms.length - 1) / 2 = (gs.getD i g0).ms.length / 2 := by omega
      rw [← this]; rfl
    have hw3 : IntKind.i64.wrap (((gs.getD i g0).ms.length / 2 : Nat) : Int) = (((gs.getD i g0).ms.length / 2 : Nat) : Int) := w64 (by omega) (by omega)
    have hw4 : IntKind.i64.wrap ((gs.getD i g0).z * (((gs.getD i g0).ms.length / 2 : Nat) : Int)) = (gs.getD i g0).z * (((gs.getD i g0).ms.length / 2 : Nat) : Int) := w64 (by omega) (by omega)
    have hw5 : IntKind.i64.wrap (sumY ys + sumG (gs.take i) + (gs.getD i g0).z * (((gs.getD i g0).ms.length / 2 : Nat) : Int)) = sumY ys + sumG (gs.take (i + 1)) := by rw [hst, w64 (by omega) (by omega)]; omega
    simp only [t3, t20, t21, t22, e1, e3, e6.cells, ints_ln e6, hw2, hdv, hw3, hw4, hw5, hw, go_sem, reduceIte, Nat.reduceEqDiff, Nat.reduceAdd, Nat.reduceMul, Nat.reduceLT, Nat.reduceLeDiff, reduceCtorEq, ne_eq, Int.reduceEq, Int.reduceLT, Int.reduceLE, Int.reduceNeg, Int.reduceToNat]
    exact hi1
  · have hil : i = gs.length := by omega
    subst hil
    rw [List.take_length] at t3
    simp only [t3, go_sem, reduceIte, Nat.reduceEqDiff, Nat.reduceAdd, Nat.reduceMul, Nat.reduceLT, Nat.reduceLeDiff, reduceCtorEq, ne_eq, Int.reduceEq, Int.reduceLT, Int.reduceLE, Int.reduceNeg, Int.reduceToNat]

theorem k_spec_l11Sum (hy : Rows h 1 yv (ints ys)) (hg : RowsG h gv gs) (fit : PfFit ys gs) : C T X n_spec_l11Sum [proofV yv gv] h = some (.int .i64 (weightL ys gs), h) := by
  have hyl := fit.yl
  have hgl := fit.gl
  have by1 := sumY_bnd fit.y
  have by2 := by1 ys.length (Nat.le_refl _)
  rw [List.take_length] at by2
  have bg1 := sumG_bnd fit.g
  refine C_go t_spec_l11Sum rfl ?_
  unfold F_spec_l11Sum proofV weightL
  simp only [go_sem, reduceIte, Nat.reduceEqDiff, Nat.reduceAdd, Nat.reduceMul, Nat.reduceLT, Nat.reduceLeDiff, reduceCtorEq, ne_eq, Int.reduceEq, Int.reduceLT, Int.reduceLE, Int.reduceNeg, Int.reduceToNat]
  refine w_for ys.length (fun i t loc h' => h' = h ∧ loc 1 = some [yv, gv] ∧ t 3 = .int .i64 (sumY (ys.take i)) ∧ t 4 = .int .i64 i) ⟨rfl, rfl, rfl, rfl⟩ ?_
  rintro i t loc h' hi ⟨rfl, l1, t3, t4⟩
  simp only [l1, t4, ints_ln hy, go_sem, reduceIte, Nat.reduceEqDiff, Nat.reduceAdd, Nat.reduceMul, Nat.reduceLT, Nat.reduceLeDiff, reduceCtorEq, ne_eq, Int.reduceEq, Int.reduceLT, Int.reduceLE, Int.reduceNeg, Int.reduceToNat]
  refine w_open (by simp only [go_sem, reduceIte, Nat.reduceEqDiff, Nat.reduceAdd, Nat.reduceMul, Nat.reduceLT, Nat.reduceLeDiff, reduceCtorEq, ne_eq, Int.reduceEq, Int.reduceLT, Int.reduceLE, Int.reduceNeg, Int.reduceToNat]; rfl) ?_ ?_ <;> intro hc
  · have hi1 : i < ys.length := by omega
    have hw : IntKind.i64.wrap ((i : Int) + 1) = ((i + 1 : Nat) : Int) := w64 (by omega) (by omega)
    have hel := int_el hy hi1
    have h1 := by1 i (by omega)
    have h2 := fit.y i hi1
    have hst := sumY_take hi1
    have hw2 : IntKind.i64.wrap (sumY (ys.take i) + ys.getD i 0) = sumY (ys.take (i + 1)) := by rw [hst]; exact w64 (by omega) (by omega)
    simp only [l1, t3, t4, hel.1, hel.2, hw2, hw, go_sem, reduceIte, Nat.reduceEqDiff, Nat.reduceAdd, Nat.reduceMul, Nat.reduceLT, Nat.reduceLeDiff, reduceCtorEq, ne_eq, Int.reduceEq, Int.reduceLT, Int.reduceLE, Int.reduceNeg, Int.reduceToNat]
    exact hi1
  have hil : i = ys.length := by omega
  subst hil
  rw [List.take_length] at t3
  simp only [l1, t3, go_sem, reduceIte, Nat.reduceEqDiff, Nat.reduceAdd, Nat.reduceMul, Nat.reduceLT, Nat.reduceLeDiff, reduceCtorEq, ne_eq, Int.reduceEq, Int.reduceLT, Int.reduceLE, Int.reduceNeg, Int.reduceToNat]
  refine w_for gs.length (fun i t loc h2 => h2 = h' ∧ loc 1 = some [yv, gv] ∧ t 3 = .int .i64 (sumY ys + sumG (gs.take i)) ∧ t 5 = .int .i64 i) ⟨rfl, rfl, congrArg (Value.int .i64) (Int.add_zero _).symm, rfl⟩ ?_
  rintro i t loc h2 hi ⟨rfl, l1, t3, t5⟩
  simp only [l1, t5, hg.ln, go_sem, reduceIte, Nat.reduceEqDiff, Nat.reduceAdd, Nat.reduceMul, Nat.reduceLT, Nat.reduceLeDiff, reduceCtorEq, ne_eq, Int.reduceEq, Int.reduceLT, Int.reduceLE, Int.reduceNeg, Int.reduceToNat]
  refine w_open (by simp only [go_sem, reduceIte, Nat.reduceEqDiff, Nat.reduceAdd, Nat.reduceMul, Nat.reduceLT, Nat.reduceLeDiff, reduceCtorEq, ne_eq, Int.reduceEq, Int.reduceLT, Int.reduceLE, Int.reduceNeg, Int.reduceToNat]; rfl) ?_ ?_ <;> intro hc
  · have hi1 : i < gs.length := by omega
    have hw : IntKind.i64.wrap ((i : Int) + 1) = ((i + 1 : Nat) : Int) := w64 (by omega) (by omega)
    obtain ⟨x, e1, e2, e3, e4, e5, e6⟩ := hg.el hi1
    have hml := fit.g i hi1
    have hmb := mul_bnd hml.1 hml.2
    have hst := sumG_take hi1
    have h1 := bg1 i (by omega)
    have hdv : (((gs.getD i g0).ms.length : Nat) : Int).tdiv 2 = (((gs.getD i g0).ms.length / 2 : Nat) : Int) := rfl
    have hw3 : IntKind.i64.wrap (((gs.getD i g0).ms.length / 2 : Nat) : Int) = (((gs.getD i g0).ms.length / 2 : Nat) : Int) := w64 (by omega) (by omega)
    have hw4 : IntKind.i64.wrap ((gs.getD i g0).z * (((gs.getD i g0).ms.length / 2 : Nat) : Int)) = (gs.getD i g0).z * (((gs.getD i g0).ms.length / 2 : Nat) : Int) := w64 (by omega) (by omega)
    have hw5 : IntKind.i64.wrap (sumY ys + sumG (gs.take i) + (gs.getD i g0).z * (((gs.getD i g0).ms.length / 2 : Nat) : Int)) = sumY ys + sumG (gs.take (i + 1)) := by rw [hst, w64 (by omega) (by omega)]; omega
    simp only [l1, t3, t5, e1, e2, e4, e5, ints_ln e6, hdv, hw3, hw4, hw5, hw, go_sem, reduceIte, Nat.reduceEqDiff, Nat.reduceAdd, Nat.reduceMul, Nat.reduceLT, Nat.reduceLeDiff, reduceCtorEq, ne_eq, Int.reduceEq, Int.reduceLT, Int.reduceLE, Int.reduceNeg, Int.reduceToNat]
    exact hi1
  · have hil : i = gs.length := by omega
    subst hil
    rw [List.take_length] at t3
    simp only [t3, go_sem, reduceIte, Nat.reduceEqDiff, Nat.reduceAdd, Nat.reduceMul, Nat.reduceLT, Nat.reduceLeDiff, reduceCtorEq, ne_eq, Int.reduceEq, Int.reduceLT, Int.reduceLE, Int.reduceNeg, Int.reduceToNat]

open Classical in
theorem k_impl_groupOk (hm : Rows h 1 v (ints g.ms)) (hl : g.ms.length ≤ 1048576) (hs : 0 ≤ size ∧ size ≤ 9) : C T X n_impl_groupOk [graphV size ev, .agg ⟨[v, .int .i64 g.z]⟩] h = some (.bool (decide (GrOk size g)), h) := by
  refine C_go t_impl_groupOk rfl ?_
  unfold F_impl_groupOk graphV
  have hmd : ((g.ms.length : Nat) : Int).tmod 2 = ((g.ms.length % 2 : Nat) : Int) := rfl
  have hws : IntKind.i64.wrap (size - 1) = size - 1 := w64 (by omega) (by omega)
  by_cases a1 : (g.ms.length : Int) < 3
  · have hr : ¬ GrOk size g := fun h => by have := h.1.1; omega
    simp only [ints_ln hm, a1, hr, go_sem, reduceIte, Nat.reduceEqDiff, Nat.reduceAdd, Nat.reduceMul, Nat.reduceLT, Nat.reduceLeDiff, reduceCtorEq, ne_eq, Int.reduceEq, Int.reduceLT, Int.reduceLE, Int.reduceNeg, Int.reduceToNat]
  by_cases a2 : ((g.ms.length % 2 : Nat) : Int) = 0
  · have hr : ¬ GrOk size g := fun h => by have := h.1.2.1; omega
    simp only [ints_ln hm, hmd, a1, a2, hr, go_sem, reduceIte, Nat.reduceEqDiff, Nat.reduceAdd, Nat.reduceMul, Nat.reduceLT, Nat.reduceLeDiff, reduceCtorEq, ne_eq, Int.reduceEq, Int.reduceLT, Int.reduceLE, Int.reduceNeg, Int.reduceToNat]
  by_cases a3 : 1 ≤ g.z ∧ g.z ≤ 1000000000
  rotate_left
  · have hr : ¬ GrOk size g := fun h => a3 h.1.2.2
    have a3' : (decide (1 ≤ g.z) && decide (g.z ≤ 1000000000)) = false := by simp; omega
    simp only [ints_ln hm, hmd, k_impl_in, a1, a2, a3', hr, go_sem, reduceIte, Nat.reduceEqDiff, Nat.reduceAdd, Nat.reduceMul, Nat.reduceLT, Nat.reduceLeDiff, reduceCtorEq, ne_eq, Int.reduceEq, Int.reduceLT, Int.reduceLE, Int.reduceNeg, Int.reduceToNat]
  have a3' : (decide (1 ≤ g.z) && decide (g.z ≤ 1000000000)) = true := by simp; omega
  simp only [ints_ln hm, hmd, k_impl_in, a1, a2, a3', go_sem, reduceIte, Nat.reduceEqDiff, Nat.reduceAdd, Nat.reduceMul, Nat.reduceLT, Nat.reduceLeDiff, reduceCtorEq, ne_eq, Int.reduceEq, Int.reduceLT, Int.reduceLE, Int.reduceNeg, Int.reduceToNat]
  refine w_for g.ms.length (fun i t loc h' => h' = h ∧ loc 2 = some [.int .i64 size, ev] ∧ loc 3 = some [v, .int .i64 g.z] ∧ t 25 = v ∧ t 26 = .int .i64 g.ms.length ∧ t 27 = .int .i64 i ∧ ∀ j, j < i → (0 ≤ g.ms.getD j 0 ∧ g.ms.getD j 0 ≤ size - 1) ∧ (0 < j → g.ms.getD (j - 1) 0 < g.ms.getD j 0)) ⟨rfl, rfl, rfl, rfl, rfl, rfl, fun j hj => by omega⟩ ?_
  rintro i t loc h' hi ⟨rfl, l2, l3, t25, t26, t27, hall⟩
  simp only [t26, t27, go_sem, reduceIte, Nat.reduceEqDiff, Nat.reduceAdd, Nat.reduceMul, Nat.reduceLT, Nat.reduceLeDiff, reduceCtorEq, ne_eq, Int.reduceEq, Int.reduceLT, Int.reduceLE, Int.reduceNeg, Int.reduceToNat]
  refine w_open (by simp only [go_sem, reduceIte, Nat.reduceEqDiff, Nat.reduceAdd, Nat.reduceMul, Nat.reduceLT, Nat.reduceLeDiff, reduceCtorEq, ne_eq, Int.reduceEq, Int.reduceLT, Int.reduceLE, Int.reduceNeg, Int.reduceToNat]; rfl) ?_ ?_ <;> intro hc
  · have hi1 : i < g.ms.length := by omega
    have hw : IntKind.i64.wrap ((i : Int) + 1) = ((i + 1 : Nat) : Int) := w64 (by omega) (by omega)
    have hel := int_el hm hi1
    by_cases b1 : 0 ≤ g.ms.getD i 0 ∧ g.ms.getD i 0 ≤ size - 1
    rotate_left
    · have hr : ¬ GrOk size g := fun h => b1 (h.2 i hi1).1
      have b1' : (decide (0 ≤ g.ms.getD i 0) && decide (g.ms.getD i 0 ≤ size - 1)) = false := by simp only [Bool.and_eq_false_iff, decide_eq_false_iff_not]; omega
      simp only [l2, l3, t25, t26, t27, hel.1, hel.2, k_impl_in, hws, b1', hr, go_sem, reduceIte, Nat.reduceEqDiff, Nat.reduceAdd, Nat.reduceMul, Nat.reduceLT, Nat.reduceLeDiff, reduceCtorEq, ne_eq, Int.reduceEq, Int.reduceLT, Int.reduceLE, Int.reduceNeg, Int.reduceToNat]
    have b1' : (decide (0 ≤ g.ms.getD i 0) && decide (g.ms.getD i 0 ≤ size - 1)) = true := by simp only [Bool.and_eq_true, decide_eq_true_eq]; exact b1
    rcases Nat.eq_zero_or_pos i with hz | hp
    · have hz' : ¬ (0 : Int) < i := by omega
      simp only [l2, l3, t25, t26, t27, hel.1, hel.2, k_impl_in, hws, b1', hz', hw, go_sem, reduceIte, Nat.reduceEqDiff, Nat.reduceAdd, Nat.reduceMul, Nat.reduceLT, Nat.reduceLeDiff, reduceCtorEq, ne_eq, Int.reduceEq, Int.reduceLT, Int.reduceLE, Int.reduceNeg, Int.reduceToNat]
      exact ⟨hi1, below_succ hall ⟨b1, fun hp => by omega⟩⟩
    · have hp' : (0 : Int) < i := by omega
      have hw1 : IntKind.i64.wrap ((i : Int) - 1) = ((i - 1 : Nat) : Int) := by rw [w64 (by omega) (by omega)]; omega
      have hel2 := int_el hm (show i - 1 < g.ms.length by omega)
      by_cases b2 : g.ms.getD i 0 ≤ g.ms.getD (i - 1) 0
      · have hr : ¬ GrOk size g := fun h => by have := (h.2 i hi1).2 hp; omega
        simp only [l2, l3, t25, t26, t27, hel.1, hel.2, hel2.1, hel2.2, k_impl_in, hws, b1', hp', hw1, b2, hr, go_sem, reduceIte, Nat.reduceEqDiff, Nat.reduceAdd, Nat.reduceMul, Nat.reduceLT, Nat.reduceLeDiff, reduceCtorEq, ne_eq, Int.reduceEq, Int.reduceLT, Int.reduceLE, Int.reduceNeg, Int.reduceToNat]
      · simp only [l2, l3, t25, t26, t27, hel.1, hel.2, hel2.1, hel2.2, k_impl_in, hws, b1', hp', hw1, b2, hw, go_sem, reduceIte, Nat.reduceEqDiff, Nat.reduceAdd, Nat.reduceMul, Nat.reduceLT, Nat.reduceLeDiff, reduceCtorEq, ne_eq, Int.reduceEq, Int.reduceLT, Int.reduceLE, Int.reduceNeg, Int.reduceToNat]
        exact ⟨hi1, below_succ hall ⟨b1, fun hp => by omega⟩⟩
  · have hr : GrOk size g := ⟨⟨by omega, by omega, a3.1, a3.2⟩, fun j hj => hall j (by omega)⟩
    simp only [hr, go_sem, reduceIte, Nat.reduceEqDiff, Nat.reduceAdd, Nat.reduceMul, Nat.reduceLT, Nat.reduceLeDiff, reduceCtorEq, ne_eq, Int.reduceEq, Int.reduceLT, Int.reduceLE, Int.reduceNeg, Int.reduceToNat]

theorem nest_iff {a b : List Int} : Nest a b ↔ AllIn b a ∨ NoIn b a ∨ AllIn a b := Iff.rfl
theorem pfFit_of {gs : List Gp} (h1 : ys.length ≤ 9) (h2 : gs.length ≤ 8) (h3 : ∀ j, j < ys.length → 0 ≤ ys.getD j 0 ∧ ys.getD j 0 ≤ 1000000000) (hs : 0 ≤ size ∧ size ≤ 9) (h4 : ∀ i, i < gs.length → GrOk size (gs.getD i g0)) : PfFit ys gs :=
  ⟨h3, h1, h2, fun i hi => ⟨by have := (h4 i hi).1; omega, by have := grOk_len (h4 i hi) hs.1; omega⟩⟩

open Classical in
theorem k_impl_ProofOk (he : Rows h 5 ev (edges es)) (hy : Rows h 1 yv (ints ys)) (hg : RowsG h gv gs) (hl : es.length ≤ lim) (hb : PfBnd ys gs) : C T X n_impl_ProofOk [graphV size ev, proofV yv gv] h = some (.bool (decide (PfOk size es ys gs)), h) := by
  have hk := k_impl_GraphOk (X := X) (size := size) he hl
  obtain ⟨hyl, hgl, hml⟩ := hb
  refine C_go t_impl_ProofOk rfl ?_
  unfold F_impl_ProofOk
  by_cases g1 : GOk size es
  rotate_left
  · have hr : ¬ PfOk size es ys gs := fun h => g1 h.1.1
    unfold graphV at hk; unfold graphV proofV
    simp only [hk, g1, hr, go_sem, reduceIte, Nat.reduceEqDiff, Nat.reduceAdd, Nat.reduceMul, Nat.reduceLT, Nat.reduceLeDiff, reduceCtorEq, ne_eq, Int.reduceEq, Int.reduceLT, Int.reduceLE, Int.reduceNeg, Int.reduceToNat]
  by_cases g2 : (ys.length : Int) = size
  rotate_left
  · have hr : ¬ PfOk size es ys gs := fun h => g2 h.1.2.1
    unfold graphV at hk; unfold graphV proofV
    simp only [hk, g1, ints_ln hy, g2, hr, go_sem, reduceIte, Nat.reduceEqDiff, Nat.reduceAdd, Nat.reduceMul, Nat.reduceLT, Nat.reduceLeDiff, reduceCtorEq, ne_eq, Int.reduceEq, Int.reduceLT, Int.reduceLE, Int.reduceNeg, Int.reduceToNat]
  by_cases g3 : (8 : Int) < gs.length
  · have hr : ¬ PfOk size es ys gs := fun h => by have := h.1.2.2; omega
    unfold graphV at hk; unfold graphV proofV
    simp only [hk, g1, ints_ln hy, hg.ln, g2, g3, hr, go_sem, reduceIte, Nat.reduceEqDiff, Nat.reduceAdd, Nat.reduceMul, Nat.reduceLT, Nat.reduceLeDiff, reduceCtorEq, ne_eq, Int.reduceEq, Int.reduceLT, Int.reduceLE, Int.reduceNeg, Int.reduceToNat]
  have hs := g1.1
  unfold graphV at hk; unfold graphV proofV
  simp only [hk, g1, ints_ln hy, hg.ln, g2, g3, go_sem, reduceIte, Nat.reduceEqDiff, Nat.reduceAdd, Nat.reduceMul, Nat.reduceLT, Nat.reduceLeDiff, reduceCtorEq, ne_eq, Int.reduceEq, Int.reduceLT, Int.reduceLE, Int.reduceNeg, Int.reduceToNat]
  rw [← g2]
  refine w_for ys.length (fun i t loc h' => h' = h ∧ loc 2 = some [.int .i64 size, ev] ∧ loc 3 = some [yv, gv] ∧ t 35 = yv ∧ t 36 = .int .i64 ys.length ∧ t 37 = .int .i64 i ∧ ∀ j, j < i → 0 ≤ ys.getD j 0 ∧ ys.getD j 0 ≤ 1000000000) ⟨rfl, by rw [g2]; rfl, rfl, rfl, rfl, rfl, fun j hj => by omega⟩ ?_
  rintro i t loc h' hi ⟨rfl, l2, l3, t35, t36, t37, hall⟩
  simp only [t36, t37, go_sem, reduceIte, Nat.reduceEqDiff, Nat.reduceAdd, Nat.reduceMul, Nat.reduceLT, Nat.reduceLeDiff, reduceCtorEq, ne_eq, Int.reduceEq, Int.reduceLT, Int.reduceLE, Int.reduceNeg, Int.reduceToNat]
  refine w_open (by simp only [go_sem, reduceIte, Nat.reduceEqDiff, Nat.reduceAdd, Nat.reduceMul, Nat.reduceLT, Nat.reduceLeDiff, reduceCtorEq, ne_eq, Int.reduceEq, Int.reduceLT, Int.reduceLE, Int.reduceNeg, Int.reduceToNat]; rfl) ?_ ?_ <;> intro hc
  · have hi1 : i < ys.length := by omega
    have hw : IntKind.i64.wrap ((i : Int) + 1) = ((i + 1 : Nat) : Int) := w64 (by omega) (by omega)
    have hel := int_el hy hi1
    by_cases b1 : 0 ≤ ys.getD i 0 ∧ ys.getD i 0 ≤ 1000000000
    · have b1' : (decide (0 ≤ ys.getD i 0) && decide (ys.getD i 0 ≤ 1000000000)) = true := by simp only [Bool.and_eq_true, decide_eq_true_eq]; exact b1
      simp only [l2, l3, t35, t36, t37, hel.1, hel.2, k_impl_in, b1', hw, go_sem, reduceIte, Nat.reduceEqDiff, Nat.reduceAdd, Nat.reduceMul, Nat.reduceLT, Nat.reduceLeDiff, reduceCtorEq, ne_eq, Int.reduceEq, Int.reduceLT, Int.reduceLE, Int.reduceNeg, Int.reduceToNat]
      exact ⟨hi1, below_succ hall b1⟩
    · have hr : ¬ PfOk size es ys gs := fun h => b1 (h.2.1 i hi1)
      have b1' : (decide (0 ≤ ys.getD i 0) && decide (ys.getD i 0 ≤ 1000000000)) = false := by simp only [Bool.and_eq_false_iff, decide_eq_false_iff_not]; omega
      rw [g2]
      simp only [l2, l3, t35, t36, t37, hel.1, hel.2, k_impl_in, b1', hr, go_sem, reduceIte, Nat.reduceEqDiff, Nat.reduceAdd, Nat.reduceMul, Nat.reduceLT, Nat.reduceLeDiff, reduceCtorEq, ne_eq, Int.reduceEq, Int.reduceLT, Int.reduceLE, Int.reduceNeg, Int.reduceToNat]
  have hil : i = ys.length := by omega
  subst hil
  simp only [l2, l3, hg.ln, go_sem, reduceIte, Nat.reduceEqDiff, Nat.reduceAdd, Nat.reduceMul, Nat.reduceLT, Nat.reduceLeDiff, reduceCtorEq, ne_eq, Int.reduceEq, Int.reduceLT, Int.reduceLE, Int.reduceNeg, Int.reduceToNat]
  refine w_for gs.length (fun i t loc h2 => h2 = h' ∧ loc 2 = some [.int .i64 size, ev] ∧ loc 3 = some [yv, gv] ∧ t 46 = gv ∧ t 47 = .int .i64 gs.length ∧ t 48 = .int .i64 i ∧ ∀ j, j < i → GrOk size (gs.getD j g0) ∧ ∀ k, k < j → Nest (gs.getD k g0).ms (gs.getD j g0).ms) ⟨rfl, rfl, rfl, rfl, rfl, rfl, fun j hj => by omega⟩ ?_
  rintro i t loc h2 hi ⟨rfl, l2, l3, t46, t47, t48, hallG⟩
  simp only [t47, t48, go_sem, reduceIte, Nat.reduceEqDiff, Nat.reduceAdd, Nat.reduceMul, Nat.reduceLT, Nat.reduceLeDiff, reduceCtorEq, ne_eq, Int.reduceEq, Int.reduceLT, Int.reduceLE, Int.reduceNeg, Int.reduceToNat]
  refine w_open (by simp only [go_sem, reduceIte, Nat.reduceEqDiff, Nat.reduceAdd, Nat.reduceMul, Nat.reduceLT, Nat.reduceLeDiff, reduceCtorEq, ne_eq, Int.reduceEq, Int.reduceLT, Int.reduceLE, Int.reduceNeg, Int.reduceToNat]; rfl) ?_ ?_ <;> intro hc
  · have hi1 : i < gs.length := by omega
    have hw : IntKind.i64.wrap ((i : Int) + 1) = ((i + 1 : Nat) : Int) := w64 (by omega) (by omega)
    obtain ⟨x, e1, e2, e3, e4, e5, e6⟩ := hg.el hi1
    have hmi := hml _ (getD_mem (d := g0) hi1)
    have cg := k_impl_groupOk (X := X) (ev := ev) e6 hmi hs
    unfold graphV at cg
    obtain ⟨v', s1, s2⟩ := hg.sub (i := i) hi
    by_cases b1 : GrOk size (gs.getD i g0)
    rotate_left
    · have hr : ¬ PfOk size es ys gs := fun h => b1 (h.2.2.1 i hi1).1
      simp only [l2, l3, t46, t47, t48, e1, e3, e6.cells, cg, b1, g2, hr, go_sem, reduceIte, Nat.reduceEqDiff, Nat.reduceAdd, Nat.reduceMul, Nat.reduceLT, Nat.reduceLeDiff, reduceCtorEq, ne_eq, Int.reduceEq, Int.reduceLT, Int.reduceLE, Int.reduceNeg, Int.reduceToNat]
    have htl : (gs.take i).length = i := by simp; omega
    have hlt := s2.ln
    rw [htl] at hlt
    simp only [l2, l3, t46, t47, t48, e1, e3, e6.cells, cg, b1, s1, hlt, go_sem, reduceIte, Nat.reduceEqDiff, Nat.reduceAdd, Nat.reduceMul, Nat.reduceLT, Nat.reduceLeDiff, reduceCtorEq, ne_eq, Int.reduceEq, Int.reduceLT, Int.reduceLE, Int.reduceNeg, Int.reduceToNat]
    refine w_for i (fun k t loc h3 => h3 = h2 ∧ loc 2 = some [.int .i64 size, ev] ∧ loc 3 = some [yv, gv] ∧ loc 8 = some [x, .int .i64 (gs.getD i g0).z] ∧ t 46 = gv ∧ t 47 = .int .i64 gs.length ∧ t 48 = .int .i64 i ∧ t 60 = v' ∧ t 61 = .int .i64 i ∧ t 62 = .int .i64 k ∧ ∀ j, j < k → Nest (gs.getD j g0).ms (gs.getD i g0).ms) ⟨rfl, rfl, rfl, rfl, rfl, rfl, rfl, rfl, rfl, rfl, fun j hj => by omega⟩ ?_
    rintro k t loc h3 hk ⟨rfl, l2, l3, l8, t46, t47, t48, t60, t61, t62, hallN⟩
    simp only [t61, t62, go_sem, reduceIte, Nat.reduceEqDiff, Nat.reduceAdd, Nat.reduceMul, Nat.reduceLT, Nat.reduceLeDiff, reduceCtorEq, ne_eq, Int.reduceEq, Int.reduceLT, Int.reduceLE, Int.reduceNeg, Int.reduceToNat]
    refine w_open (by simp only [go_sem, reduceIte, Nat.reduceEqDiff, Nat.reduceAdd, Nat.reduceMul, Nat.reduceLT, Nat.reduceLeDiff, reduceCtorEq, ne_eq, Int.reduceEq, Int.reduceLT, Int.reduceLE, Int.reduceNeg, Int.reduceToNat]; rfl) ?_ ?_ <;> intro hc
    · have hk1 : k < i := by omega
      have hw2 : IntKind.i64.wrap ((k : Int) + 1) = ((k + 1 : Nat) : Int) := w64 (by omega) (by omega)
      obtain ⟨z, f1, f2, f3, f4, f5, f6⟩ := s2.el (i := k) (by omega)
      have hgk : (gs.take i).getD k g0 = gs.getD k g0 := by simp [hk1]
      rw [hgk] at f3 f6
      have hmk := hml _ (getD_mem (d := g0) (show k < gs.length by omega))
      have w1 := k_impl_within (X := X) e6 f6 (by unfold lim; omega) (by unfold lim; omega)
      have w2 := k_impl_within (X := X) f6 e6 (by unfold lim; omega) (by unfold lim; omega)
      by_cases c1 : AllIn (gs.getD i g0).ms (gs.getD k g0).ms
      · simp only [l2, l3, l8, t46, t47, t48, t60, t61, t62, f1, f3, f6.cells, w1, w2, c1, hw2, go_sem, reduceIte, Nat.reduceEqDiff, Nat.reduceAdd, Nat.reduceMul, Nat.reduceLT, Nat.reduceLeDiff, reduceCtorEq, ne_eq, Int.reduceEq, Int.reduceLT, Int.reduceLE, Int.reduceNeg, Int.reduceToNat]
        exact ⟨hk1, below_succ hallN (nest_iff.2 (.inl c1))⟩
      by_cases c2 : NoIn (gs.getD i g0).ms (gs.getD k g0).ms
      · simp only [l2, l3, l8, t46, t47, t48, t60, t61, t62, f1, f3, f6.cells, w1, w2, c1, c2, hw2, go_sem, reduceIte, Nat.reduceEqDiff, Nat.reduceAdd, Nat.reduceMul, Nat.reduceLT, Nat.reduceLeDiff, reduceCtorEq, ne_eq, Int.reduceEq, Int.reduceLT, Int.reduceLE, Int.reduceNeg, Int.reduceToNat]
        exact ⟨hk1, below_succ hallN (nest_iff.2 (.inr (.inl c2)))⟩
      by_cases c3 : AllIn (gs.getD k g0).ms (gs.getD i g0).ms
      · simp only [l2, l3, l8, t46, t47, t48, t60, t61, t62, f1, f3, f6.cells, w1, w2, c1, c2, c3, hw2, go_sem, reduceIte, Nat.reduceEqDiff, Nat.reduceAdd, Nat.reduceMul, Nat.reduceLT, Nat.reduceLeDiff, reduceCtorEq, ne_eq, Int.reduceEq, Int.reduceLT, Int.reduceLE, Int.reduceNeg, Int.reduceToNat]
        exact ⟨hk1, below_succ hallN (nest_iff.2 (.inr (.inr c3)))⟩
      · have hr : ¬ PfOk size es ys gs := fun h => by
          rcases nest_iff.1 ((h.2.2.1 i hi1).2 k hk1) with q | q | q
          · exact c1 q
          · exact c2 q
          · exact c3 q
        simp only [l2, l3, l8, t46, t47, t48, t60, t61, t62, f1, f3, f6.cells, w1, w2, c1, c2, c3, g2, hr, go_sem, reduceIte, Nat.reduceEqDiff, Nat.reduceAdd, Nat.reduceMul, Nat.reduceLT, Nat.reduceLeDiff, reduceCtorEq, ne_eq, Int.reduceEq, Int.reduceLT, Int.reduceLE, Int.reduceNeg, Int.reduceToNat]
    · have hki : k = i := by omega
      subst hki
      simp only [l2, l3, t46, t47, t48, hw, go_sem, reduceIte, Nat.reduceEqDiff, Nat.reduceAdd, Nat.reduceMul, Nat.reduceLT, Nat.reduceLeDiff, reduceCtorEq, ne_eq, Int.reduceEq, Int.reduceLT, Int.reduceLE, Int.reduceNeg, Int.reduceToNat]
      exact ⟨hi1, below_succ hallG ⟨b1, hallN⟩⟩
  have hig : i = gs.length := by omega
  subst hig
  have fit := pfFit_of (by omega) (by omega) hall hs fun i hi => (hallG i hi).1
  simp only [l2, l3, he.lnm, go_sem, reduceIte, Nat.reduceEqDiff, Nat.reduceAdd, Nat.reduceMul, Nat.reduceLT, Nat.reduceLeDiff, reduceCtorEq, ne_eq, Int.reduceEq, Int.reduceLT, Int.reduceLE, Int.reduceNeg, Int.reduceToNat]
  refine w_for es.length (fun i t loc h3 => h3 = h2 ∧ loc 3 = some [yv, gv] ∧ t 95 = ev ∧ t 96 = .int .i64 es.length ∧ t 97 = .int .i64 i ∧ ∀ j, j < i → 0 ≤ slackL ys gs (es.getD j e0)) ⟨rfl, rfl, rfl, rfl, rfl, fun j hj => by omega⟩ ?_
  rintro i t loc h3 hi ⟨rfl, l3, t95, t96, t97, hallS⟩
  simp only [t96, t97, go_sem, reduceIte, Nat.reduceEqDiff, Nat.reduceAdd, Nat.reduceMul, Nat.reduceLT, Nat.reduceLeDiff, reduceCtorEq, ne_eq, Int.reduceEq, Int.reduceLT, Int.reduceLE, Int.reduceNeg, Int.reduceToNat]
  unfold lim at hl
  refine w_open (by simp only [go_sem, reduceIte, Nat.reduceEqDiff, Nat.reduceAdd, Nat.reduceMul, Nat.reduceLT, Nat.reduceLeDiff, reduceCtorEq, ne_eq, Int.reduceEq, Int.reduceLT, Int.reduceLE, Int.reduceNeg, Int.reduceToNat]; rfl) ?_ ?_ <;> intro hc
  · have hi1 : i < es.length := by omega
    have hw : IntKind.i64.wrap ((i : Int) + 1) = ((i + 1 : Nat) : Int) := w64 (by omega) (by omega)
    have hel := edge_el he hi1
    have cs := k_impl_slackOf (X := X) hy hg fit (gok_mem g1 (getD_mem (d := e0) hi1)) g2
    unfold edgeV edgeR proofV at cs
    by_cases b1 : slackL ys gs (es.getD i e0) < 0
    · have hr : ¬ PfOk size es ys gs := fun h => by have := h.2.2.2 i hi1; omega
      simp only [l3, t95, t96, t97, hel.1, hel.2.2.1, cs, b1, g2, hr, go_sem, reduceIte, Nat.reduceEqDiff, Nat.reduceAdd, Nat.reduceMul, Nat.reduceLT, Nat.reduceLeDiff, reduceCtorEq, ne_eq, Int.reduceEq, Int.reduceLT, Int.reduceLE, Int.reduceNeg, Int.reduceToNat]
    · simp only [l3, t95, t96, t97, hel.1, hel.2.2.1, cs, b1, hw, go_sem, reduceIte, Nat.reduceEqDiff, Nat.reduceAdd, Nat.reduceMul, Nat.reduceLT, Nat.reduceLeDiff, reduceCtorEq, ne_eq, Int.reduceEq, Int.reduceLT, Int.reduceLE, Int.reduceNeg, Int.reduceToNat]
      exact ⟨hi1, below_succ hallS (by omega)⟩
  · have hr : PfOk size es ys gs := ⟨⟨g1, g2, by omega⟩, hall, hallG, fun j hj => hallS j (by omega)⟩
    simp only [g2, hr, go_sem, reduceIte, Nat.reduceEqDiff, Nat.reduceAdd, Nat.reduceMul, Nat.reduceLT, Nat.reduceLeDiff, reduceCtorEq, ne_eq, Int.reduceEq, Int.reduceLT, Int.reduceLE, Int.reduceNeg, Int.reduceToNat]
end
end Go.Proofs.Ytioogligololoaa.Ab
