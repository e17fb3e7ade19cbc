/- Contracts: groups, slack, weight. No conditions. -/
import Derived.Test.YtioogligololoaaP3
import Derived.Test.YtioogligololoaaK13
set_option linter.unusedSimpArgs false
set_option linter.unusedVariables false
set_option linter.unnecessarySimpa false
set_option maxHeartbeats 4000000
namespace Go.Proofs.Ytioogligololoaa.Ab
open Go.RowKit

theorem RowsG.sub {h : Heap} {v : Value} {gs : List Gp} (o : RowsG h v gs) {i : Nat} (hi : i ≤ gs.length) : ∃ v', slLV 2 v none (some (.int .i64 (i : Int))) h = some v' ∧ RowsG h v' (gs.take i) := by
  obtain ⟨vs, h1, h2⟩ := o
  obtain ⟨v', e, r⟩ := h1.sub (i := 0) (k := i) (lo := none) (hi := some (.int .i64 (i : Int))) (Nat.zero_le _) (by simpa using hi) (by omega) rfl rfl
  have hg : ∀ k, k < i → (gs.take i).getD k g0 = gs.getD k g0 := fun k hk => by simp [hk]
  refine ⟨v', e, vs, ?_, fun k hk => ?_⟩
  · have : gRows vs (gs.take i) = ((gRows vs gs).drop 0).take (i - 0) := by
      rw [List.drop_zero, Nat.sub_zero]
      unfold gRows
      rw [← List.map_take, List.take_range, List.length_take]
      apply List.map_congr_left
      intro k hk
      have hk' : k < i := by have := List.mem_range.1 hk; omega
      unfold gRow
      rw [hg k hk']
    rw [this]; exact r
  · have hk' : k < i := by simp at hk; omega
    rw [hg k hk']
    exact h2 k (by omega)

def AllIn (l m : List Int) : Prop := ∀ x ∈ l, x ∈ m
def NoIn (l m : List Int) : Prop := ∀ x ∈ l, ¬ x ∈ m
theorem allIn_snoc {l m : List Int} {a : Int} : AllIn (l ++ [a]) m ↔ AllIn l m ∧ a ∈ m :=
  ⟨fun h => ⟨fun x hx => h x (List.mem_append_left _ hx), h _ (List.mem_append_right _ (List.mem_singleton.2 rfl))⟩, fun h x hx => (List.mem_append.1 hx).elim (h.1 x) fun hx => by rw [List.mem_singleton.1 hx]; exact h.2⟩
theorem noIn_snoc {l m : List Int} {a : Int} : NoIn (l ++ [a]) m ↔ NoIn l m ∧ ¬ a ∈ m :=
  ⟨fun h => ⟨fun x hx => h x (List.mem_append_left _ hx), h _ (List.mem_append_right _ (List.mem_singleton.2 rfl))⟩, fun h x hx => (List.mem_append.1 hx).elim (h.1 x) fun hx => by rw [List.mem_singleton.1 hx]; exact h.2⟩

def edgeV (e : E) : Value := .agg ⟨edgeR e⟩
def WOk (e : E) : Prop := (0 ≤ e.w1 ∧ e.w1 ≤ 50) ∧ (0 ≤ e.w2 ∧ e.w2 ≤ 50) ∧ (0 ≤ e.w3 ∧ e.w3 ≤ 50)
theorem eok_w {size : Int} {e : E} (h : EOk size e) : WOk e := by unfold EOk at h; unfold WOk; omega

section
variable {X : CallF} {h : Heap} {v w ev yv gv : Value} {l m ys : List Int} {gs : List Gp} {es : List E} {e : E} {size z : Int}

theorem k_impl_Scalar (hw : WOk e) : C T X n_impl_Scalar [edgeV e] h = some (.int .i64 (scalar e.w1 e.w2 e.w3), h) := by
  unfold WOk at hw
  refine C_go t_impl_Scalar rfl ?_
  unfold F_impl_Scalar edgeV edgeR scalar
  have e1 : IntKind.i64.wrap (90000 * e.w1) = 90000 * e.w1 := w64 (by omega) (by omega)
  have e2 : IntKind.i64.wrap (300 * e.w2) = 300 * e.w2 := w64 (by omega) (by omega)
  have e3 : IntKind.i64.wrap (90000 * e.w1 + 300 * e.w2) = 90000 * e.w1 + 300 * e.w2 := w64 (by omega) (by omega)
  have e4 : IntKind.i64.wrap (90000 * e.w1 + 300 * e.w2 + e.w3) = 90000 * e.w1 + 300 * e.w2 + e.w3 := w64 (by omega) (by omega)
  simp only [e1, e2, e3, e4, go_sem, reduceIte, Nat.reduceEqDiff, Nat.reduceAdd, Nat.reduceMul, Nat.reduceLT, Nat.reduceLeDiff, reduceCtorEq, ne_eq, Int.reduceEq, Int.reduceLT, Int.reduceLE, Int.reduceNeg, Int.reduceToNat]
theorem k_spec_Scalar (hw : WOk e) : C T X n_spec_Scalar [edgeV e] h = some (.int .i64 (scalar e.w1 e.w2 e.w3), h) := by
  unfold WOk at hw
  refine C_go t_spec_Scalar rfl ?_
  unfold F_spec_Scalar edgeV edgeR scalar
  have e1 : IntKind.i64.wrap (90000 * e.w1) = 90000 * e.w1 := w64 (by omega) (by omega)
  have e2 : IntKind.i64.wrap (300 * e.w2) = 300 * e.w2 := w64 (by omega) (by omega)
  have e3 : IntKind.i64.wrap (90000 * e.w1 + 300 * e.w2) = 90000 * e.w1 + 300 * e.w2 := w64 (by omega) (by omega)
  have e4 : IntKind.i64.wrap (90000 * e.w1 + 300 * e.w2 + e.w3) = 90000 * e.w1 + 300 * e.w2 + e.w3 := w64 (by omega) (by omega)
  simp only [e1, e2, e3, e4, go_sem, reduceIte, Nat.reduceEqDiff, Nat.reduceAdd, Nat.reduceMul, Nat.reduceLT, Nat.reduceLeDiff, reduceCtorEq, ne_eq, Int.reduceEq, Int.reduceLT, Int.reduceLE, Int.reduceNeg, Int.reduceToNat]

open Classical in
theorem k_impl_within (ha : Rows h 1 v (ints l)) (hb : Rows h 1 w (ints m)) (hl : l.length ≤ lim) (hm : m.length ≤ lim) : C T X n_impl_within [v, w] h = some (.tuple ⟨[.bool (decide (AllIn l m)), .bool (decide (NoIn l m))]⟩, h) := by
  unfold lim at hl
  refine C_go t_impl_within rfl ?_
  unfold F_impl_within
  simp only [ints_ln ha, go_sem, reduceIte, Nat.reduceEqDiff, Nat.reduceAdd, Nat.reduceMul, Nat.reduceLT, Nat.reduceLeDiff, reduceCtorEq, ne_eq, Int.reduceEq, Int.reduceLT, Int.reduceLE, Int.reduceNeg, Int.reduceToNat]
  refine w_for l.length (fun i t loc h' => h' = h ∧ t 1 = w ∧ t 6 = .bool (decide (AllIn (l.take i) m)) ∧ t 7 = .bool (decide (NoIn (l.take i) m)) ∧ t 11 = v ∧ t 12 = .int .i64 l.length ∧ t 13 = .int .i64 i) ⟨rfl, rfl, by have : AllIn (l.take 0) m := (fun x h => by cases h); simp only [upd, decide_eq_true this]; rfl, by have : NoIn (l.take 0) m := (fun x h => by cases h); simp only [upd, decide_eq_true this]; rfl, rfl, rfl, rfl⟩ ?_
  rintro i t loc h' hi ⟨rfl, t1, t6, t7, t11, t12, t13⟩
  simp only [t12, t13, go_sem, reduceIte, Nat.reduceEqDiff, Nat.reduceAdd, Nat.reduceMul, Nat.reduceLT, Nat.reduceLeDiff, reduceCtorEq, ne_eq, Int.reduceEq, Int.reduceLT, Int.reduceLE, Int.reduceNeg, Int.reduceToNat]
  refine w_open (by simp only [go_sem, reduceIte, Nat.reduceEqDiff, Nat.reduceAdd, Nat.reduceMul, Nat.reduceLT, Nat.reduceLeDiff, reduceCtorEq, ne_eq, Int.reduceEq, Int.reduceLT, Int.reduceLE, Int.reduceNeg, Int.reduceToNat]; rfl) ?_ ?_ <;> intro hc
  · have hi1 : i < l.length := by omega
    have hw : IntKind.i64.wrap ((i : Int) + 1) = ((i + 1 : Nat) : Int) := w64 (by omega) (by omega)
    have hel := int_el ha hi1
    have hin := k_impl_hasInt (X := X) (n := l.getD i 0) hb hm
    have htk := take_getD (d := 0) hi1
    have n1 := allIn_snoc (l := l.take i) (m := m) (a := l.getD i 0)
    have n2 := noIn_snoc (l := l.take i) (m := m) (a := l.getD i 0)
    rw [← htk] at n1 n2
    by_cases p : AllIn (l.take i) m <;> by_cases q : NoIn (l.take i) m <;> by_cases s : l.getD i 0 ∈ m
    all_goals
      simp only [p, q, s, and_true, and_false, not_true_eq_false, not_false_eq_true, iff_true, iff_false] at n1 n2
      simp only [t1, t6, t7, t11, t12, t13, hel.1, hel.2, hin, p, q, s, n1, n2, hw, go_sem, reduceIte, Nat.reduceEqDiff, Nat.reduceAdd, Nat.reduceMul, Nat.reduceLT, Nat.reduceLeDiff, reduceCtorEq, ne_eq, Int.reduceEq, Int.reduceLT, Int.reduceLE, Int.reduceNeg, Int.reduceToNat]
      exact hi1
  · have hil : i = l.length := by omega
    subst hil
    rw [List.take_length] at t6 t7
    simp only [t6, t7, go_sem, reduceIte, Nat.reduceEqDiff, Nat.reduceAdd, Nat.reduceMul, Nat.reduceLT, Nat.reduceLeDiff, reduceCtorEq, ne_eq, Int.reduceEq, Int.reduceLT, Int.reduceLE, Int.reduceNeg, Int.reduceToNat]

theorem k_spec_l11Nested (ha : Rows h 1 v (ints l)) (hb : Rows h 1 w (ints m)) (hl : l.length ≤ lim) (hm : m.length ≤ lim) : C T X n_spec_l11Nested [v, w] h = some (.bool (decide (cntIn l m = 0) || (decide (cntIn l m = l.length) || decide (cntIn l m = m.length))), h) := by
  have hl2 := hl
  have hm2 := hm
  unfold lim at hl2 hm2
  refine C_go t_spec_l11Nested rfl ?_
  unfold F_spec_l11Nested
  simp only [go_sem, reduceIte, Nat.reduceEqDiff, Nat.reduceAdd, Nat.reduceMul, Nat.reduceLT, Nat.reduceLeDiff, reduceCtorEq, ne_eq, Int.reduceEq, Int.reduceLT, Int.reduceLE, Int.reduceNeg, Int.reduceToNat]
  refine w_for l.length (fun i t loc h' => h' = h ∧ t 0 = v ∧ t 1 = w ∧ t 5 = .int .i64 (cntIn (l.take i) m : Nat) ∧ t 6 = .int .i64 i) ⟨rfl, rfl, rfl, by simp [upd, cntIn], rfl⟩ ?_
  rintro i t loc h' hi ⟨rfl, t0, t1, t5, t6⟩
  simp only [t0, t6, ints_ln ha, go_sem, reduceIte, Nat.reduceEqDiff, Nat.reduceAdd, Nat.reduceMul, Nat.reduceLT, Nat.reduceLeDiff, reduceCtorEq, ne_eq, Int.reduceEq, Int.reduceLT, Int.reduceLE, Int.reduceNeg, Int.reduceToNat]
  refine w_open (by simp only [go_sem, reduceIte, Nat.reduceEqDiff, Nat.reduceAdd, Nat.reduceMul, Nat.reduceLT, Nat.reduceLeDiff, reduceCtorEq, ne_eq, Int.reduceEq, Int.reduceLT, Int.reduceLE, Int.reduceNeg, Int.reduceToNat]; rfl) ?_ ?_ <;> intro hc
  · have hi1 : i < l.length := by omega
    have hw : IntKind.i64.wrap ((i : Int) + 1) = ((i + 1 : Nat) : Int) := w64 (by omega) (by omega)
    have hel := int_el ha hi1
    have hin := k_spec_l03In (X := X) (n := l.getD i 0) hb hm
    have hct := cntIn_take (b := m) hi1
    have hle := cntIn_le (a := l.take i) (b := m)
    have hlt : (l.take i).length ≤ l.length := by simp; omega
    have hw2 : IntKind.i64.wrap (((cntIn (l.take i) m : Nat) : Int) + 1) = ((cntIn (l.take i) m + 1 : Nat) : Int) := w64 (by omega) (by omega)
    by_cases s : l.getD i 0 ∈ m
    · rw [if_pos s] at hct
      simp only [t0, t1, t5, t6, hel.1, hel.2, hin, s, hw2, hw, hct, go_sem, reduceIte, Nat.reduceEqDiff, Nat.reduceAdd, Nat.reduceMul, Nat.reduceLT, Nat.reduceLeDiff, reduceCtorEq, ne_eq, Int.reduceEq, Int.reduceLT, Int.reduceLE, Int.reduceNeg, Int.reduceToNat]
      exact hi1
    · rw [if_neg s] at hct
      simp only [t0, t1, t5, t6, hel.1, hel.2, hin, s, hw, hct, go_sem, reduceIte, Nat.reduceEqDiff, Nat.reduceAdd, Nat.reduceMul, Nat.reduceLT, Nat.reduceLeDiff, reduceCtorEq, ne_eq, Int.reduceEq, Int.reduceLT, Int.reduceLE, Int.reduceNeg, Int.reduceToNat]
      exact hi1
  · have hil : i = l.length := by omega
    subst hil
    rw [List.take_length] at t5
    by_cases s1 : cntIn l m = 0
    · have s1' : ((cntIn l m : Nat) : Int) = 0 := by omega
      simp only [t0, t1, t5, s1', ints_ln ha, ints_ln hb, go_sem, reduceIte, Nat.reduceEqDiff, Nat.reduceAdd, Nat.reduceMul, Nat.reduceLT, Nat.reduceLeDiff, reduceCtorEq, ne_eq, Int.reduceEq, Int.reduceLT, Int.reduceLE, Int.reduceNeg, Int.reduceToNat]
      simp [s1]
    have s1' : ¬ ((cntIn l m : Nat) : Int) = 0 := by omega
    by_cases s2 : cntIn l m = l.length
    · have s2' : ((cntIn l m : Nat) : Int) = (l.length : Int) := by omega
      simp only [t0, t1, t5, s1', decide_eq_true s2', ints_ln ha, ints_ln hb, go_sem, reduceIte, Nat.reduceEqDiff, Nat.reduceAdd, Nat.reduceMul, Nat.reduceLT, Nat.reduceLeDiff, reduceCtorEq, ne_eq, Int.reduceEq, Int.reduceLT, Int.reduceLE, Int.reduceNeg, Int.reduceToNat]
      simp [s1, s2]
    have s2' : ¬ ((cntIn l m : Nat) : Int) = (l.length : Int) := by omega
    by_cases s3 : cntIn l m = m.length
    · have s3' : ((cntIn l m : Nat) : Int) = (m.length : Int) := by omega
      simp only [t0, t1, t5, s1', s2', ints_ln ha, ints_ln hb, go_sem, reduceIte, Nat.reduceEqDiff, Nat.reduceAdd, Nat.reduceMul, Nat.reduceLT, Nat.reduceLeDiff, reduceCtorEq, ne_eq, Int.reduceEq, Int.reduceLT, Int.reduceLE, Int.reduceNeg, Int.reduceToNat]
      simp [s1, s2, s3, s3']
    · have s3' : ¬ ((cntIn l m : Nat) : Int) = (m.length : Int) := by omega
      simp only [t0, t1, t5, s1', s2', s3', ints_ln ha, ints_ln hb, go_sem, reduceIte, Nat.reduceEqDiff, Nat.reduceAdd, Nat.reduceMul, Nat.reduceLT, Nat.reduceLeDiff, reduceCtorEq, ne_eq, Int.reduceEq, Int.reduceLT, Int.reduceLE, Int.reduceNeg, Int.reduceToNat]
      simp [s1, s2, s3]

end
end Go.Proofs.Ytioogligololoaa.Ab
