/- Contracts: is a graph right? No conditions. -/
import Derived.Test.YtioogligololoaaK0
import Derived.Test.YtioogligololoaaR
set_option linter.unusedSimpArgs false
set_option linter.unusedVariables false
set_option linter.unnecessarySimpa false
set_option maxHeartbeats 4000000
namespace Go.Proofs.Ytioogligololoaa.Ab
open Go.RowKit

/-- An edge is right. -/
def EOk (size : Int) (e : E) : Prop := 0 ≤ e.a ∧ e.a < e.b ∧ e.b < size ∧ 0 ≤ e.w1 ∧ e.w1 ≤ 50 ∧ 0 ≤ e.w2 ∧ e.w2 ≤ 50 ∧ 0 ≤ e.w3 ∧ e.w3 ≤ 50
/-- One edge stands ahead of another. -/
def ELt (p e : E) : Prop := p.a < e.a ∨ p.a = e.a ∧ p.b < e.b
/-- A graph is right. -/
def GOk (size : Int) (l : List E) : Prop := (0 ≤ size ∧ size ≤ 9) ∧ ∀ i, i < l.length → EOk size (l.getD i e0) ∧ (0 < i → ELt (l.getD (i - 1) e0) (l.getD i e0))

def graphV (size : Int) (ev : Value) : Value := .agg ⟨[.int .i64 size, ev]⟩

section
variable {X : CallF} {h : Heap} {size : Int} {ev : Value} {l : List E}

theorem k_spec_l08Worth {n : Int} : C T X n_spec_l08Worth [.int .i64 n] h = some (.bool (decide (0 ≤ n) && decide (n ≤ 50)), h) := by
  refine C_go t_spec_l08Worth rfl ?_
  unfold F_spec_l08Worth
  simp only [k_spec_l01In, go_sem, reduceIte, Nat.reduceEqDiff, Nat.reduceAdd, Nat.reduceMul, Nat.reduceLT, Nat.reduceLeDiff, reduceCtorEq, ne_eq, Int.reduceEq, Int.reduceLT, Int.reduceLE, Int.reduceNeg, Int.reduceToNat]

set_option maxHeartbeats 4000000 in
open Classical in
theorem k_spec_GraphOk (he : Rows h 5 ev (edges l)) (hl : l.length ≤ lim) : C T X n_spec_GraphOk [graphV size ev] h = some (.bool (decide (GOk size l)), h) := by
  unfold lim at hl
  refine C_go t_spec_GraphOk rfl ?_
  unfold F_spec_GraphOk graphV
  simp only [k_spec_l01In, go_sem, reduceIte, Nat.reduceEqDiff, Nat.reduceAdd, Nat.reduceMul, Nat.reduceLT, Nat.reduceLeDiff, reduceCtorEq, ne_eq, Int.reduceEq, Int.reduceLT, Int.reduceLE, Int.reduceNeg, Int.reduceToNat]
  refine w_any (by simp only [go_sem, reduceIte, Nat.reduceEqDiff, Nat.reduceAdd, Nat.reduceMul, Nat.reduceLT, Nat.reduceLeDiff, reduceCtorEq, ne_eq, Int.reduceEq, Int.reduceLT, Int.reduceLE, Int.reduceNeg, Int.reduceToNat]; rfl) ?_ ?_ <;> intro hc <;> simp only [go_sem, reduceIte, Nat.reduceEqDiff, Nat.reduceAdd, Nat.reduceMul, Nat.reduceLT, Nat.reduceLeDiff, reduceCtorEq, ne_eq, Int.reduceEq, Int.reduceLT, Int.reduceLE, Int.reduceNeg, Int.reduceToNat]
  · have : ¬ GOk size l := fun g => by
      have := g.1
      simp at hc
      omega
    simp only [this, go_sem, reduceIte, Nat.reduceEqDiff, Nat.reduceAdd, Nat.reduceMul, Nat.reduceLT, Nat.reduceLeDiff, reduceCtorEq, ne_eq, Int.reduceEq, Int.reduceLT, Int.reduceLE, Int.reduceNeg, Int.reduceToNat]
  have hs : 0 ≤ size ∧ size ≤ 9 := by simpa using hc
  refine w_for l.length (fun i t loc h' => h' = h ∧ loc 1 = some [.int .i64 size, ev] ∧ t 3 = .int .i64 i ∧ ∀ j, j < i → EOk size (l.getD j e0) ∧ (0 < j → ELt (l.getD (j - 1) e0) (l.getD j e0)))
    ⟨rfl, rfl, rfl, fun j hj => by omega⟩ ?_
  rintro i t loc h' hi ⟨rfl, l1, t3, hall⟩
  simp only [l1, t3, he.lnm, go_sem, reduceIte, Nat.reduceEqDiff, Nat.reduceAdd, Nat.reduceMul, Nat.reduceLT, Nat.reduceLeDiff, reduceCtorEq, ne_eq, Int.reduceEq, Int.reduceLT, Int.reduceLE, Int.reduceNeg, Int.reduceToNat]
  refine w_open (by simp only [l1, t3, go_sem, reduceIte, Nat.reduceEqDiff, Nat.reduceAdd, Nat.reduceMul, Nat.reduceLT, Nat.reduceLeDiff, reduceCtorEq, ne_eq, Int.reduceEq, Int.reduceLT, Int.reduceLE, Int.reduceNeg, Int.reduceToNat]; rfl) ?_ ?_ <;> intro hc
  · have hi1 : i < l.length := by omega
    have hneg : ¬ (EOk size (l.getD i e0) ∧ (0 < i → ELt (l.getD (i - 1) e0) (l.getD i e0))) → ¬ GOk size l := fun hn g => hn (g.2 i hi1)
    have hnext : (EOk size (l.getD i e0) ∧ (0 < i → ELt (l.getD (i - 1) e0) (l.getD i e0))) → ∀ j, j < i + 1 → EOk size (l.getD j e0) ∧ (0 < j → ELt (l.getD (j - 1) e0) (l.getD j e0)) := fun hy j hj => by
      by_cases e : j = i
      · subst e; exact hy
      · exact hall j (by omega)
    have hw : IntKind.i64.wrap ((i : Int) + 1) = ((i + 1 : Nat) : Int) := w64 (by omega) (by omega)
    by_cases hE : EOk size (l.getD i e0)
    · obtain ⟨q1, q2, q3, q4, q5, q6, q7, q8, q9⟩ := hE
      have p1 : ¬ (l.getD i e0).a < 0 := by omega
      have p2 : ¬ (l.getD i e0).b ≤ (l.getD i e0).a := by omega
      have p3 : ¬ size ≤ (l.getD i e0).b := by omega
      have hE : EOk size (l.getD i e0) := ⟨q1, q2, q3, q4, q5, q6, q7, q8, q9⟩
      rcases Nat.eq_zero_or_pos i with hz | hp
      · have hz' : ¬ (0 : Int) < i := by omega
        simp only [l1, t3, edge_el he hi1, k_spec_l01In, k_spec_l08Worth, p1, p2, p3, q4, q5, q6, q7, q8, q9, hz', hw, go_sem, reduceIte, Nat.reduceEqDiff, Nat.reduceAdd, Nat.reduceMul, Nat.reduceLT, Nat.reduceLeDiff, reduceCtorEq, ne_eq, Int.reduceEq, Int.reduceLT, Int.reduceLE, Int.reduceNeg, Int.reduceToNat]
        exact ⟨hi1, hnext ⟨hE, fun hp => by omega⟩⟩
      · have hp' : (0 : Int) < i := by omega
        have hw1 : IntKind.i64.wrap ((i : Int) - 1) = ((i - 1 : Nat) : Int) := by rw [w64 (by omega) (by omega)]; omega
        have hi2 : i - 1 < l.length := by omega
        simp only [l1, t3, edge_el he hi1, k_spec_l01In, k_spec_l08Worth, p1, p2, p3, q4, q5, q6, q7, q8, q9, hp', hw, hw1, edge_el he hi2, go_sem, reduceIte, Nat.reduceEqDiff, Nat.reduceAdd, Nat.reduceMul, Nat.reduceLT, Nat.reduceLeDiff, reduceCtorEq, ne_eq, Int.reduceEq, Int.reduceLT, Int.reduceLE, Int.reduceNeg, Int.reduceToNat]
        repeat' (first | (refine w_any (by simp only [l1, t3, hp', hw, hw1, edge_el he hi2, go_sem, reduceIte, Nat.reduceEqDiff, Nat.reduceAdd, Nat.reduceMul, Nat.reduceLT, Nat.reduceLeDiff, reduceCtorEq, ne_eq, Int.reduceEq, Int.reduceLT, Int.reduceLE, Int.reduceNeg, Int.reduceToNat]; rfl) ?_ ?_ <;> intro hc <;> (try simp only [decide_eq_true_eq, decide_eq_false_iff_not, Decidable.not_not, Bool.not_eq_true', Bool.not_eq_false'] at hc) <;> simp only [hc, l1, t3, hp', hw, hw1, edge_el he hi2, go_sem, reduceIte, Nat.reduceEqDiff, Nat.reduceAdd, Nat.reduceMul, Nat.reduceLT, Nat.reduceLeDiff, reduceCtorEq, ne_eq, Int.reduceEq, Int.reduceLT, Int.reduceLE, Int.reduceNeg, Int.reduceToNat]) | (refine so_any (by simp only [l1, t3, hp', hw, hw1, edge_el he hi2, go_sem, reduceIte, Nat.reduceEqDiff, Nat.reduceAdd, Nat.reduceMul, Nat.reduceLT, Nat.reduceLeDiff, reduceCtorEq, ne_eq, Int.reduceEq, Int.reduceLT, Int.reduceLE, Int.reduceNeg, Int.reduceToNat]; rfl) ?_ ?_ <;> intro hc <;> (try simp only [decide_eq_true_eq, decide_eq_false_iff_not, Decidable.not_not, Bool.not_eq_true', Bool.not_eq_false'] at hc) <;> simp only [hc, l1, t3, hp', hw, hw1, edge_el he hi2, go_sem, reduceIte, Nat.reduceEqDiff, Nat.reduceAdd, Nat.reduceMul, Nat.reduceLT, Nat.reduceLeDiff, reduceCtorEq, ne_eq, Int.reduceEq, Int.reduceLT, Int.reduceLE, Int.reduceNeg, Int.reduceToNat]) | (refine so_any' (by simp only [l1, t3, hp', hw, hw1, edge_el he hi2, go_sem, reduceIte, Nat.reduceEqDiff, Nat.reduceAdd, Nat.reduceMul, Nat.reduceLT, Nat.reduceLeDiff, reduceCtorEq, ne_eq, Int.reduceEq, Int.reduceLT, Int.reduceLE, Int.reduceNeg, Int.reduceToNat]; rfl) ?_ ?_ <;> intro hc <;> (try simp only [decide_eq_true_eq, decide_eq_false_iff_not, Decidable.not_not, Bool.not_eq_true', Bool.not_eq_false'] at hc) <;> simp only [hc, l1, t3, hp', hw, hw1, edge_el he hi2, go_sem, reduceIte, Nat.reduceEqDiff, Nat.reduceAdd, Nat.reduceMul, Nat.reduceLT, Nat.reduceLeDiff, reduceCtorEq, ne_eq, Int.reduceEq, Int.reduceLT, Int.reduceLE, Int.reduceNeg, Int.reduceToNat]) | (refine sf_any (by simp only [l1, t3, hp', hw, hw1, edge_el he hi2, go_sem, reduceIte, Nat.reduceEqDiff, Nat.reduceAdd, Nat.reduceMul, Nat.reduceLT, Nat.reduceLeDiff, reduceCtorEq, ne_eq, Int.reduceEq, Int.reduceLT, Int.reduceLE, Int.reduceNeg, Int.reduceToNat]; rfl) ?_ ?_ <;> intro hc <;> (try simp only [decide_eq_true_eq, decide_eq_false_iff_not, Decidable.not_not, Bool.not_eq_true', Bool.not_eq_false'] at hc) <;> simp only [hc, l1, t3, hp', hw, hw1, edge_el he hi2, go_sem, reduceIte, Nat.reduceEqDiff, Nat.reduceAdd, Nat.reduceMul, Nat.reduceLT, Nat.reduceLeDiff, reduceCtorEq, ne_eq, Int.reduceEq, Int.reduceLT, Int.reduceLE, Int.reduceNeg, Int.reduceToNat]) | (refine sf_any' (by simp only [l1, t3, hp', hw, hw1, edge_el he hi2, go_sem, reduceIte, Nat.reduceEqDiff, Nat.reduceAdd, Nat.reduceMul, Nat.reduceLT, Nat.reduceLeDiff, reduceCtorEq, ne_eq, Int.reduceEq, Int.reduceLT, Int.reduceLE, Int.reduceNeg, Int.reduceToNat]; rfl) ?_ ?_ <;> intro hc <;> (try simp only [decide_eq_true_eq, decide_eq_false_iff_not, Decidable.not_not, Bool.not_eq_true', Bool.not_eq_false'] at hc) <;> simp only [hc, l1, t3, hp', hw, hw1, edge_el he hi2, go_sem, reduceIte, Nat.reduceEqDiff, Nat.reduceAdd, Nat.reduceMul, Nat.reduceLT, Nat.reduceLeDiff, reduceCtorEq, ne_eq, Int.reduceEq, Int.reduceLT, Int.reduceLE, Int.reduceNeg, Int.reduceToNat]))
        all_goals first
          | exact (decide_eq_false (hneg (fun hx => by have := hx.2 hp; simp only [ELt] at this; omega))).symm
          | exact ⟨hi1, hnext ⟨hE, fun _ => by simp only [ELt]; omega⟩⟩
    · have hneg' := hneg (fun hx => hE hx.1)
      have hr : false = decide (GOk size l) := (decide_eq_false hneg').symm
      simp only [l1, t3, edge_el he hi1, k_spec_l01In, k_spec_l08Worth, go_sem, reduceIte, Nat.reduceEqDiff, Nat.reduceAdd, Nat.reduceMul, Nat.reduceLT, Nat.reduceLeDiff, reduceCtorEq, ne_eq, Int.reduceEq, Int.reduceLT, Int.reduceLE, Int.reduceNeg, Int.reduceToNat]
      repeat' (first | (refine w_any (by simp only [l1, t3, k_spec_l08Worth, go_sem, reduceIte, Nat.reduceEqDiff, Nat.reduceAdd, Nat.reduceMul, Nat.reduceLT, Nat.reduceLeDiff, reduceCtorEq, ne_eq, Int.reduceEq, Int.reduceLT, Int.reduceLE, Int.reduceNeg, Int.reduceToNat]; rfl) ?_ ?_ <;> intro hc <;> (try simp only [decide_eq_true_eq, decide_eq_false_iff_not, Decidable.not_not, Bool.not_eq_true', Bool.not_eq_false'] at hc) <;> simp only [hc, l1, t3, k_spec_l08Worth, go_sem, reduceIte, Nat.reduceEqDiff, Nat.reduceAdd, Nat.reduceMul, Nat.reduceLT, Nat.reduceLeDiff, reduceCtorEq, ne_eq, Int.reduceEq, Int.reduceLT, Int.reduceLE, Int.reduceNeg, Int.reduceToNat]) | (refine so_any (by simp only [l1, t3, k_spec_l08Worth, go_sem, reduceIte, Nat.reduceEqDiff, Nat.reduceAdd, Nat.reduceMul, Nat.reduceLT, Nat.reduceLeDiff, reduceCtorEq, ne_eq, Int.reduceEq, Int.reduceLT, Int.reduceLE, Int.reduceNeg, Int.reduceToNat]; rfl) ?_ ?_ <;> intro hc <;> (try simp only [decide_eq_true_eq, decide_eq_false_iff_not, Decidable.not_not, Bool.not_eq_true', Bool.not_eq_false'] at hc) <;> simp only [hc, l1, t3, k_spec_l08Worth, go_sem, reduceIte, Nat.reduceEqDiff, Nat.reduceAdd, Nat.reduceMul, Nat.reduceLT, Nat.reduceLeDiff, reduceCtorEq, ne_eq, Int.reduceEq, Int.reduceLT, Int.reduceLE, Int.reduceNeg, Int.reduceToNat]) | (refine so_any' (by simp only [l1, t3, k_spec_l08Worth, go_sem, reduceIte, Nat.reduceEqDiff, Nat.reduceAdd, Nat.reduceMul, Nat.reduceLT, Nat.reduceLeDiff, reduceCtorEq, ne_eq, Int.reduceEq, Int.reduceLT, Int.reduceLE, Int.reduceNeg, Int.reduceToNat]; rfl) ?_ ?_ <;> intro hc <;> (try simp only [decide_eq_true_eq, decide_eq_false_iff_not, Decidable.not_not, Bool.not_eq_true', Bool.not_eq_false'] at hc) <;> simp only [hc, l1, t3, k_spec_l08Worth, go_sem, reduceIte, Nat.reduceEqDiff, Nat.reduceAdd, Nat.reduceMul, Nat.reduceLT, Nat.reduceLeDiff, reduceCtorEq, ne_eq, Int.reduceEq, Int.reduceLT, Int.reduceLE, Int.reduceNeg, Int.reduceToNat]) | (refine sf_any (by simp only [l1, t3, k_spec_l08Worth, go_sem, reduceIte, Nat.reduceEqDiff, Nat.reduceAdd, Nat.reduceMul, Nat.reduceLT, Nat.reduceLeDiff, reduceCtorEq, ne_eq, Int.reduceEq, Int.reduceLT, Int.reduceLE, Int.reduceNeg, Int.reduceToNat]; rfl) ?_ ?_ <;> intro hc <;> (try simp only [decide_eq_true_eq, decide_eq_false_iff_not, Decidable.not_not, Bool.not_eq_true', Bool.not_eq_false'] at hc) <;> simp only [hc, l1, t3, k_spec_l08Worth, go_sem, reduceIte, Nat.reduceEqDiff, Nat.reduceAdd, Nat.reduceMul, Nat.reduceLT, Nat.reduceLeDiff, reduceCtorEq, ne_eq, Int.reduceEq, Int.reduceLT, Int.reduceLE, Int.reduceNeg, Int.reduceToNat]) | (refine sf_any' (by simp only [l1, t3, k_spec_l08Worth, go_sem, reduceIte, Nat.reduceEqDiff, Nat.reduceAdd, Nat.reduceMul, Nat.reduceLT, Nat.reduceLeDiff, reduceCtorEq, ne_eq, Int.reduceEq, Int.reduceLT, Int.reduceLE, Int.reduceNeg, Int.reduceToNat]; rfl) ?_ ?_ <;> intro hc <;> (try simp only [decide_eq_true_eq, decide_eq_false_iff_not, Decidable.not_not, Bool.not_eq_true', Bool.not_eq_false'] at hc) <;> simp only [hc, l1, t3, k_spec_l08Worth, go_sem, reduceIte, Nat.reduceEqDiff, Nat.reduceAdd, Nat.reduceMul, Nat.reduceLT, Nat.reduceLeDiff, reduceCtorEq, ne_eq, Int.reduceEq, Int.reduceLT, Int.reduceLE, Int.reduceNeg, Int.reduceToNat]))
      all_goals first
        | exact hr
        | exact absurd (by simp only [Bool.and_eq_true, decide_eq_true_eq] at *; simp only [EOk]; omega) hE
  · have : GOk size l := ⟨hs, fun j hj => hall j (by omega)⟩
    simp only [this, go_sem, reduceIte, Nat.reduceEqDiff, Nat.reduceAdd, Nat.reduceMul, Nat.reduceLT, Nat.reduceLeDiff, reduceCtorEq, ne_eq, Int.reduceEq, Int.reduceLT, Int.reduceLE, Int.reduceNeg, Int.reduceToNat]
end
end Go.Proofs.Ytioogligololoaa.Ab
