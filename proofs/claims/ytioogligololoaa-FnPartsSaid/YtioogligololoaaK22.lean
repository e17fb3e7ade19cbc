/- Contracts: slack. No conditions. -/
import Derived.Test.YtioogligololoaaK21
set_option linter.unusedSimpArgs false
set_option linter.unusedVariables false
set_option linter.unnecessarySimpa false
set_option maxHeartbeats 4000000
namespace Go.Proofs.Ytioogligololoaa.Ab
open Go.RowKit
section
variable {X : CallF} {h : Heap} {v w ev yv gv : Value} {l m ys : List Int} {gs : List Gp} {es : List E} {e : E} {size z : Int}

/-- What a proof must be for its numbers to fit. -/
structure PfFit (ys : List Int) (gs : List Gp) : Prop where
  y : ∀ i, i < ys.length → 0 ≤ ys.getD i 0 ∧ ys.getD i 0 ≤ 1000000000
  yl : ys.length ≤ 9
  gl : gs.length ≤ 8
  g : ∀ i, i < gs.length → (0 ≤ (gs.getD i g0).z ∧ (gs.getD i g0).z ≤ 1000000000) ∧ (gs.getD i g0).ms.length ≤ 9

theorem k_impl_slackOf (hy : Rows h 1 yv (ints ys)) (hg : RowsG h gv gs) (fit : PfFit ys gs) (hE : EOk size e) (hsz : (ys.length : Int) = size) :
    C T X n_impl_slackOf [edgeV e, proofV yv gv] h = some (.int .i64 (slackL ys gs e), h) := by
  have hW := eok_w hE
  have hgl := fit.gl
  have hsc := k_impl_Scalar (X := X) (h := h) hW
  unfold EOk at hE
  obtain ⟨a, ha⟩ := Int.eq_ofNat_of_zero_le hE.1
  obtain ⟨b, hb⟩ := Int.eq_ofNat_of_zero_le (show 0 ≤ e.b by omega)
  have ea := int_el hy (i := a) (by omega)
  have eb := int_el hy (i := b) (by omega)
  rw [← ha] at ea
  rw [← hb] at eb
  have ya := fit.y a (by omega)
  have yb := fit.y b (by omega)
  have hw1 : IntKind.i64.wrap (ys.getD a 0 + ys.getD b 0) = ys.getD a 0 + ys.getD b 0 := w64 (by omega) (by omega)
  have hss : 0 ≤ scalar e.w1 e.w2 e.w3 ∧ scalar e.w1 e.w2 e.w3 ≤ 5000000 := by unfold scalar; unfold WOk at hW; omega
  have hw2 : IntKind.i64.wrap (2 * scalar e.w1 e.w2 e.w3) = 2 * scalar e.w1 e.w2 e.w3 := w64 (by omega) (by omega)
  have hw3 : IntKind.i64.wrap (ys.getD a 0 + ys.getD b 0 - 2 * scalar e.w1 e.w2 e.w3) = ys.getD a 0 + ys.getD b 0 - 2 * scalar e.w1 e.w2 e.w3 := w64 (by omega) (by omega)
  have htot : slackL ys gs e = ys.getD a 0 + ys.getD b 0 - 2 * scalar e.w1 e.w2 e.w3 + grAdd e.a e.b gs := by
    have h1 : e.a.toNat = a := by omega
    have h2 : e.b.toNat = b := by omega
    unfold slackL
    rw [h1, h2]
  have hbd := grAdd_bnd (a := e.a) (b := e.b) (gs := gs) fun i hi => (fit.g i hi).1
  refine C_go t_impl_slackOf rfl ?_
  unfold F_impl_slackOf
  unfold edgeV edgeR proofV at *
  simp only [ea.1, ea.2, eb.1, eb.2, hsc, hw1, hw2, hw3, hg.ln, List.prefix_refl, go_sem, reduceIte, Nat.reduceEqDiff, Nat.reduceAdd, Nat.reduceMul, Nat.reduceLT, Nat.reduceLeDiff, reduceCtorEq, ne_eq, Int.reduceEq, Int.reduceLT, Int.reduceLE, Int.reduceNeg, Int.reduceToNat]
  obtain ⟨base, hbase⟩ : ∃ base, base = ys.getD a 0 + ys.getD b 0 - 2 * scalar e.w1 e.w2 e.w3 := ⟨_, rfl⟩
  have hb0 : -10000000 ≤ base ∧ base ≤ 2000000000 := by omega
  rw [← hbase] at htot ⊢
  refine w_for gs.length (fun i t loc h' => h' = h ∧ loc 2 = some [.int .i64 e.a, .int .i64 e.b, .int .i64 e.w1, .int .i64 e.w2, .int .i64 e.w3] ∧ t 5 = .int .i64 (base + grAdd e.a e.b (gs.take i)) ∧ t 26 = gv ∧ t 27 = .int .i64 gs.length ∧ t 28 = .int .i64 i) ⟨rfl, rfl, by simp [upd, grAdd], rfl, rfl, rfl⟩ ?_
  rintro i t loc h' hi ⟨rfl, l2, t5, t26, t27, t28⟩
  simp only [t27, t28, go_sem, reduceIte, Nat.reduceEqDiff, Nat.reduceAdd, Nat.reduceMul, Nat.reduceLT, Nat.reduceLeDiff, reduceCtorEq, ne_eq, Int.reduceEq, Int.reduceLT, Int.reduceLE, Int.reduceNeg, Int.reduceToNat]
  refine w_open (by simp only [go_sem, reduceIte, Nat.reduceEqDiff, Nat.reduceAdd, Nat.reduceMul, Nat.reduceLT, Nat.reduceLeDiff, reduceCtorEq, ne_eq, Int.reduceEq, Int.reduceLT, Int.reduceLE, Int.reduceNeg, Int.reduceToNat]; rfl) ?_ ?_ <;> intro hc
  · have hi1 : i < gs.length := by omega
    have hw : IntKind.i64.wrap ((i : Int) + 1) = ((i + 1 : Nat) : Int) := w64 (by omega) (by omega)
    obtain ⟨x, e1, e2, e3, e4, e5, e6⟩ := hg.el hi1
    have hml := (fit.g i hi1)
    have c1 := k_impl_hasInt (X := X) (n := e.a) e6 (by unfold lim; omega)
    have c2 := k_impl_hasInt (X := X) (n := e.b) e6 (by unfold lim; omega)
    have hgt := grAdd_take (a := e.a) (b := e.b) hi1
    have hb1 := hbd i (by omega)
    have hb2 := hbd (i + 1) (by omega)
    have hw4 : IntKind.i64.wrap (base + grAdd e.a e.b (gs.take i) + (gs.getD i g0).z) = base + grAdd e.a e.b (gs.take i) + (gs.getD i g0).z := w64 (by omega) (by omega)
    by_cases s1 : e.a ∈ (gs.getD i g0).ms
    · by_cases s2 : e.b ∈ (gs.getD i g0).ms
      · rw [if_pos ⟨s1, s2⟩] at hgt
        simp only [l2, t5, t26, t27, t28, e1, e3, (Rows.cells e6), c1, c2, s1, s2, hw4, hw, go_sem, reduceIte, Nat.reduceEqDiff, Nat.reduceAdd, Nat.reduceMul, Nat.reduceLT, Nat.reduceLeDiff, reduceCtorEq, ne_eq, Int.reduceEq, Int.reduceLT, Int.reduceLE, Int.reduceNeg, Int.reduceToNat]
        exact ⟨hi1, by rw [hgt]; omega⟩
      · rw [if_neg (fun h => s2 h.2)] at hgt
        simp only [l2, t5, t26, t27, t28, e1, e3, (Rows.cells e6), c1, c2, s1, s2, hgt, hw, go_sem, reduceIte, Nat.reduceEqDiff, Nat.reduceAdd, Nat.reduceMul, Nat.reduceLT, Nat.reduceLeDiff, reduceCtorEq, ne_eq, Int.reduceEq, Int.reduceLT, Int.reduceLE, Int.reduceNeg, Int.reduceToNat]
        exact hi1
    · rw [if_neg (fun h => s1 h.1)] at hgt
      simp only [l2, t5, t26, t27, t28, e1, e3, (Rows.cells e6), c1, s1, hgt, hw, go_sem, reduceIte, Nat.reduceEqDiff, Nat.reduceAdd, Nat.reduceMul, Nat.reduceLT, Nat.reduceLeDiff, reduceCtorEq, ne_eq, Int.reduceEq, Int.reduceLT, Int.reduceLE, Int.reduceNeg, Int.reduceToNat]
      exact hi1
  · have hil : i = gs.length := by omega
    subst hil
    rw [List.take_length] at t5
    simp only [t5, htot, go_sem, reduceIte, Nat.reduceEqDiff, Nat.reduceAdd, Nat.reduceMul, Nat.reduceLT, Nat.reduceLeDiff, reduceCtorEq, ne_eq, Int.reduceEq, Int.reduceLT, Int.reduceLE, Int.reduceNeg, Int.reduceToNat]

theorem k_spec_l11Slack (hy : Rows h 1 yv (ints ys)) (hg : RowsG h gv gs) (fit : PfFit ys gs) (hE : EOk size e) (hsz : (ys.length : Int) = size) :
    C T X n_spec_l11Slack [proofV yv gv, edgeV e] h = some (.int .i64 (slackL ys gs e), h) := by
  have hW := eok_w hE
  have hgl := fit.gl
  have hsc := k_spec_Scalar (X := X) (h := h) hW
  unfold EOk at hE
  obtain ⟨a, ha⟩ := Int.eq_ofNat_of_zero_le hE.1
  obtain ⟨b, hb⟩ := Int.eq_ofNat_of_zero_le (show 0 ≤ e.b by omega)
  have ea := int_el hy (i := a) (by omega)
  have eb := int_el hy (i := b) (by omega)
  rw [← ha] at ea
  rw [← hb] at eb
  have ya := fit.y a (by omega)
  have yb := fit.y b (by omega)
  have hw1 : IntKind.i64.wrap (ys.getD a 0 + ys.getD b 0) = ys.getD a 0 + ys.getD b 0 := w64 (by omega) (by omega)
  have hss : 0 ≤ scalar e.w1 e.w2 e.w3 ∧ scalar e.w1 e.w2 e.w3 ≤ 5000000 := by unfold scalar; unfold WOk at hW; omega
  have hw2 : IntKind.i64.wrap (2 * scalar e.w1 e.w2 e.w3) = 2 * scalar e.w1 e.w2 e.w3 := w64 (by omega) (by omega)
  have hw3 : IntKind.i64.wrap (ys.getD a 0 + ys.getD b 0 - 2 * scalar e.w1 e.w2 e.w3) = ys.getD a 0 + ys.getD b 0 - 2 * scalar e.w1 e.w2 e.w3 := w64 (by omega) (by omega)
  have htot : slackL ys gs e = ys.getD a 0 + ys.getD b 0 - 2 * scalar e.w1 e.w2 e.w3 + grAdd e.a e.b gs := by
    have h1 : e.a.toNat = a := by omega
    have h2 : e.b.toNat = b := by omega
    unfold slackL
    rw [h1, h2]
  have hbd := grAdd_bnd (a := e.a) (b := e.b) (gs := gs) fun i hi => (fit.g i hi).1
  refine C_go t_spec_l11Slack rfl ?_
  unfold F_spec_l11Slack
  unfold edgeV edgeR proofV at *
  simp only [ea.1, ea.2, eb.1, eb.2, hsc, hw1, hw2, hw3, List.prefix_refl, go_sem, reduceIte, Nat.reduceEqDiff, Nat.reduceAdd, Nat.reduceMul, Nat.reduceLT, Nat.reduceLeDiff, reduceCtorEq, ne_eq, Int.reduceEq, Int.reduceLT, Int.reduceLE, Int.reduceNeg, Int.reduceToNat]
  obtain ⟨base, hbase⟩ : ∃ base, base = ys.getD a 0 + ys.getD b 0 - 2 * scalar e.w1 e.w2 e.w3 := ⟨_, rfl⟩
  have hb0 : -10000000 ≤ base ∧ base ≤ 2000000000 := by omega
  rw [← hbase] at htot ⊢
  refine w_for gs.length (fun i t loc h' => h' = h ∧ loc 2 = some [yv, gv] ∧ loc 3 = some [.int .i64 e.a, .int .i64 e.b, .int .i64 e.w1, .int .i64 e.w2, .int .i64 e.w3] ∧ t 5 = .int .i64 (base + grAdd e.a e.b (gs.take i)) ∧ t 6 = .int .i64 i) ⟨rfl, rfl, rfl, by simp [upd, grAdd], rfl⟩ ?_
  rintro i t loc h' hi ⟨rfl, l2, l3, t5, t6⟩
  simp only [l2, t6, hg.ln, go_sem, reduceIte, Nat.reduceEqDiff, Nat.reduceAdd, Nat.reduceMul, Nat.reduceLT, Nat.reduceLeDiff, reduceCtorEq, ne_eq, Int.reduceEq, Int.reduceLT, Int.reduceLE, Int.reduceNeg, Int.reduceToNat]
  refine w_open (by simp only [go_sem, reduceIte, Nat.reduceEqDiff, Nat.reduceAdd, Nat.reduceMul, Nat.reduceLT, Nat.reduceLeDiff, reduceCtorEq, ne_eq, Int.reduceEq, Int.reduceLT, Int.reduceLE, Int.reduceNeg, Int.reduceToNat]; rfl) ?_ ?_ <;> intro hc
  · have hi1 : i < gs.length := by omega
    have hw : IntKind.i64.wrap ((i : Int) + 1) = ((i + 1 : Nat) : Int) := w64 (by omega) (by omega)
    obtain ⟨x, e1, e2, e3, e4, e5, e6⟩ := hg.el hi1
    have hml := (fit.g i hi1)
    have c1 := k_spec_l03In (X := X) (n := e.a) e6 (by unfold lim; omega)
    have c2 := k_spec_l03In (X := X) (n := e.b) e6 (by unfold lim; omega)
    have hgt := grAdd_take (a := e.a) (b := e.b) hi1
    have hb1 := hbd i (by omega)
    have hb2 := hbd (i + 1) (by omega)
    have hw4 : IntKind.i64.wrap (base + grAdd e.a e.b (gs.take i) + (gs.getD i g0).z) = base + grAdd e.a e.b (gs.take i) + (gs.getD i g0).z := w64 (by omega) (by omega)
    by_cases s1 : e.a ∈ (gs.getD i g0).ms
    · by_cases s2 : e.b ∈ (gs.getD i g0).ms
      · rw [if_pos ⟨s1, s2⟩] at hgt
        simp only [l2, l3, t5, t6, e1, e2, e4, e5, c1, c2, s1, s2, hw4, hw, List.prefix_refl, go_sem, reduceIte, Nat.reduceEqDiff, Nat.reduceAdd, Nat.reduceMul, Nat.reduceLT, Nat.reduceLeDiff, reduceCtorEq, ne_eq, Int.reduceEq, Int.reduceLT, Int.reduceLE, Int.reduceNeg, Int.reduceToNat]
        exact ⟨hi1, by rw [hgt]; omega⟩
      · rw [if_neg (fun h => s2 h.2)] at hgt
        simp only [l2, l3, t5, t6, e1, e2, e4, e5, c1, c2, s1, s2, hgt, hw, List.prefix_refl, go_sem, reduceIte, Nat.reduceEqDiff, Nat.reduceAdd, Nat.reduceMul, Nat.reduceLT, Nat.reduceLeDiff, reduceCtorEq, ne_eq, Int.reduceEq, Int.reduceLT, Int.reduceLE, Int.reduceNeg, Int.reduceToNat]
        exact hi1
    · rw [if_neg (fun h => s1 h.1)] at hgt
      simp only [l2, l3, t5, t6, e1, e2, e4, e5, c1, s1, hgt, hw, List.prefix_refl, go_sem, reduceIte, Nat.reduceEqDiff, Nat.reduceAdd, Nat.reduceMul, Nat.reduceLT, Nat.reduceLeDiff, reduceCtorEq, ne_eq, Int.reduceEq, Int.reduceLT, Int.reduceLE, Int.reduceNeg, Int.reduceToNat]
      exact hi1
  · have hil : i = gs.length := by omega
    subst hil
    rw [List.take_length] at t5
    simp only [t5, htot, go_sem, reduceIte, Nat.reduceEqDiff, Nat.reduceAdd, Nat.reduceMul, Nat.reduceLT, Nat.reduceLeDiff, reduceCtorEq, ne_eq, Int.reduceEq, Int.reduceLT, Int.reduceLE, Int.reduceNeg, Int.reduceToNat]
end
end Go.Proofs.Ytioogligololoaa.Ab
