/- Contracts: an ask in bytes, by the program; the law. No conditions. -/
import Derived.Test.YtioogligololoaaK5
import Derived.Test.YtioogligololoaaR
set_option linter.unusedSimpArgs false
set_option linter.unusedVariables false
set_option linter.unnecessarySimpa false
set_option maxHeartbeats 4000000
namespace Go.Proofs.Ytioogligololoaa.Ab
open Go.RowKit
section
variable {X : CallF} {h : Heap} {v : Value} {l : List Int} {op a b w1 w2 w3 : Int}

theorem k_impl_told : ∃ v hh, C T X n_impl_told [askV op a b w1 w2 w3] h = some (v, hh) ∧ Acc h 1 y_int v (ints ([a, b, w1, w2, w3].take (numK op))) hh := by
  by_cases h1 : op = 1 ∨ op = 3 ∨ op = 5
  · refine ⟨.slice (some ⟨h.length, 0, none⟩) 1 1, h ++ [⟨[.int .i64 a], 1, y_int, true⟩], ?_, ?_⟩
    · refine C_go t_impl_told rfl ?_
      unfold F_impl_told askV
      simp only [go_sem, reduceIte, Nat.reduceEqDiff, Nat.reduceAdd, Nat.reduceMul, Nat.reduceLT, Nat.reduceLeDiff, reduceCtorEq, ne_eq, Int.reduceEq, Int.reduceLT, Int.reduceLE, Int.reduceNeg, Int.reduceToNat]
      repeat' (first | (refine w_any (by simp only [go_sem, reduceIte, Nat.reduceEqDiff, Nat.reduceAdd, Nat.reduceMul, Nat.reduceLT, Nat.reduceLeDiff, reduceCtorEq, ne_eq, Int.reduceEq, Int.reduceLT, Int.reduceLE, Int.reduceNeg, Int.reduceToNat]; rfl) ?_ ?_ <;> intro hc <;> (try simp only [decide_eq_true_eq, decide_eq_false_iff_not, Decidable.not_not, Bool.not_eq_true', Bool.not_eq_false'] at hc) <;> simp only [hc, go_sem, reduceIte, Nat.reduceEqDiff, Nat.reduceAdd, Nat.reduceMul, Nat.reduceLT, Nat.reduceLeDiff, reduceCtorEq, ne_eq, Int.reduceEq, Int.reduceLT, Int.reduceLE, Int.reduceNeg, Int.reduceToNat]) | (refine so_any (by simp only [go_sem, reduceIte, Nat.reduceEqDiff, Nat.reduceAdd, Nat.reduceMul, Nat.reduceLT, Nat.reduceLeDiff, reduceCtorEq, ne_eq, Int.reduceEq, Int.reduceLT, Int.reduceLE, Int.reduceNeg, Int.reduceToNat]; rfl) ?_ ?_ <;> intro hc <;> (try simp only [decide_eq_true_eq, decide_eq_false_iff_not, Decidable.not_not, Bool.not_eq_true', Bool.not_eq_false'] at hc) <;> simp only [hc, go_sem, reduceIte, Nat.reduceEqDiff, Nat.reduceAdd, Nat.reduceMul, Nat.reduceLT, Nat.reduceLeDiff, reduceCtorEq, ne_eq, Int.reduceEq, Int.reduceLT, Int.reduceLE, Int.reduceNeg, Int.reduceToNat]) | (refine so_any' (by simp only [go_sem, reduceIte, Nat.reduceEqDiff, Nat.reduceAdd, Nat.reduceMul, Nat.reduceLT, Nat.reduceLeDiff, reduceCtorEq, ne_eq, Int.reduceEq, Int.reduceLT, Int.reduceLE, Int.reduceNeg, Int.reduceToNat]; rfl) ?_ ?_ <;> intro hc <;> (try simp only [decide_eq_true_eq, decide_eq_false_iff_not, Decidable.not_not, Bool.not_eq_true', Bool.not_eq_false'] at hc) <;> simp only [hc, go_sem, reduceIte, Nat.reduceEqDiff, Nat.reduceAdd, Nat.reduceMul, Nat.reduceLT, Nat.reduceLeDiff, reduceCtorEq, ne_eq, Int.reduceEq, Int.reduceLT, Int.reduceLE, Int.reduceNeg, Int.reduceToNat]) | (refine sf_any (by simp only [go_sem, reduceIte, Nat.reduceEqDiff, Nat.reduceAdd, Nat.reduceMul, Nat.reduceLT, Nat.reduceLeDiff, reduceCtorEq, ne_eq, Int.reduceEq, Int.reduceLT, Int.reduceLE, Int.reduceNeg, Int.reduceToNat]; rfl) ?_ ?_ <;> intro hc <;> (try simp only [decide_eq_true_eq, decide_eq_false_iff_not, Decidable.not_not, Bool.not_eq_true', Bool.not_eq_false'] at hc) <;> simp only [hc, go_sem, reduceIte, Nat.reduceEqDiff, Nat.reduceAdd, Nat.reduceMul, Nat.reduceLT, Nat.reduceLeDiff, reduceCtorEq, ne_eq, Int.reduceEq, Int.reduceLT, Int.reduceLE, Int.reduceNeg, Int.reduceToNat]) | (refine sf_any' (by simp only [go_sem, reduceIte, Nat.reduceEqDiff, Nat.reduceAdd, Nat.reduceMul, Nat.reduceLT, Nat.reduceLeDiff, reduceCtorEq, ne_eq, Int.reduceEq, Int.reduceLT, Int.reduceLE, Int.reduceNeg, Int.reduceToNat]; rfl) ?_ ?_ <;> intro hc <;> (try simp only [decide_eq_true_eq, decide_eq_false_iff_not, Decidable.not_not, Bool.not_eq_true', Bool.not_eq_false'] at hc) <;> simp only [hc, go_sem, reduceIte, Nat.reduceEqDiff, Nat.reduceAdd, Nat.reduceMul, Nat.reduceLT, Nat.reduceLeDiff, reduceCtorEq, ne_eq, Int.reduceEq, Int.reduceLT, Int.reduceLE, Int.reduceNeg, Int.reduceToNat]))
      all_goals first | exact finish_deep rfl | omega
    · have e : numK op = 1 := by unfold numK; rw [if_pos h1]
      rw [e]
      exact Acc.made (rws := ints [a]) ints_row
  by_cases h2 : op = 2
  · refine ⟨.slice (some ⟨h.length, 0, none⟩) 5 5, h ++ [⟨[.int .i64 a, .int .i64 b, .int .i64 w1, .int .i64 w2, .int .i64 w3], 1, y_int, true⟩], ?_, ?_⟩
    · refine C_go t_impl_told rfl ?_
      unfold F_impl_told askV
      simp only [go_sem, reduceIte, Nat.reduceEqDiff, Nat.reduceAdd, Nat.reduceMul, Nat.reduceLT, Nat.reduceLeDiff, reduceCtorEq, ne_eq, Int.reduceEq, Int.reduceLT, Int.reduceLE, Int.reduceNeg, Int.reduceToNat]
      repeat' (first | (refine w_any (by simp only [go_sem, reduceIte, Nat.reduceEqDiff, Nat.reduceAdd, Nat.reduceMul, Nat.reduceLT, Nat.reduceLeDiff, reduceCtorEq, ne_eq, Int.reduceEq, Int.reduceLT, Int.reduceLE, Int.reduceNeg, Int.reduceToNat]; rfl) ?_ ?_ <;> intro hc <;> (try simp only [decide_eq_true_eq, decide_eq_false_iff_not, Decidable.not_not, Bool.not_eq_true', Bool.not_eq_false'] at hc) <;> simp only [hc, go_sem, reduceIte, Nat.reduceEqDiff, Nat.reduceAdd, Nat.reduceMul, Nat.reduceLT, Nat.reduceLeDiff, reduceCtorEq, ne_eq, Int.reduceEq, Int.reduceLT, Int.reduceLE, Int.reduceNeg, Int.reduceToNat]) | (refine so_any (by simp only [go_sem, reduceIte, Nat.reduceEqDiff, Nat.reduceAdd, Nat.reduceMul, Nat.reduceLT, Nat.reduceLeDiff, reduceCtorEq, ne_eq, Int.reduceEq, Int.reduceLT, Int.reduceLE, Int.reduceNeg, Int.reduceToNat]; rfl) ?_ ?_ <;> intro hc <;> (try simp only [decide_eq_true_eq, decide_eq_false_iff_not, Decidable.not_not, Bool.not_eq_true', Bool.not_eq_false'] at hc) <;> simp only [hc, go_sem, reduceIte, Nat.reduceEqDiff, Nat.reduceAdd, Nat.reduceMul, Nat.reduceLT, Nat.reduceLeDiff, reduceCtorEq, ne_eq, Int.reduceEq, Int.reduceLT, Int.reduceLE, Int.reduceNeg, Int.reduceToNat]) | (refine so_any' (by simp only [go_sem, reduceIte, Nat.reduceEqDiff, Nat.reduceAdd, Nat.reduceMul, Nat.reduceLT, Nat.reduceLeDiff, reduceCtorEq, ne_eq, Int.reduceEq, Int.reduceLT, Int.reduceLE, Int.reduceNeg, Int.reduceToNat]; rfl) ?_ ?_ <;> intro hc <;> (try simp only [decide_eq_true_eq, decide_eq_false_iff_not, Decidable.not_not, Bool.not_eq_true', Bool.not_eq_false'] at hc) <;> simp only [hc, go_sem, reduceIte, Nat.reduceEqDiff, Nat.reduceAdd, Nat.reduceMul, Nat.reduceLT, Nat.reduceLeDiff, reduceCtorEq, ne_eq, Int.reduceEq, Int.reduceLT, Int.reduceLE, Int.reduceNeg, Int.reduceToNat]) | (refine sf_any (by simp only [go_sem, reduceIte, Nat.reduceEqDiff, Nat.reduceAdd, Nat.reduceMul, Nat.reduceLT, Nat.reduceLeDiff, reduceCtorEq, ne_eq, Int.reduceEq, Int.reduceLT, Int.reduceLE, Int.reduceNeg, Int.reduceToNat]; rfl) ?_ ?_ <;> intro hc <;> (try simp only [decide_eq_true_eq, decide_eq_false_iff_not, Decidable.not_not, Bool.not_eq_true', Bool.not_eq_false'] at hc) <;> simp only [hc, go_sem, reduceIte, Nat.reduceEqDiff, Nat.reduceAdd, Nat.reduceMul, Nat.reduceLT, Nat.reduceLeDiff, reduceCtorEq, ne_eq, Int.reduceEq, Int.reduceLT, Int.reduceLE, Int.reduceNeg, Int.reduceToNat]) | (refine sf_any' (by simp only [go_sem, reduceIte, Nat.reduceEqDiff, Nat.reduceAdd, Nat.reduceMul, Nat.reduceLT, Nat.reduceLeDiff, reduceCtorEq, ne_eq, Int.reduceEq, Int.reduceLT, Int.reduceLE, Int.reduceNeg, Int.reduceToNat]; rfl) ?_ ?_ <;> intro hc <;> (try simp only [decide_eq_true_eq, decide_eq_false_iff_not, Decidable.not_not, Bool.not_eq_true', Bool.not_eq_false'] at hc) <;> simp only [hc, go_sem, reduceIte, Nat.reduceEqDiff, Nat.reduceAdd, Nat.reduceMul, Nat.reduceLT, Nat.reduceLeDiff, reduceCtorEq, ne_eq, Int.reduceEq, Int.reduceLT, Int.reduceLE, Int.reduceNeg, Int.reduceToNat]))
      all_goals first | exact finish_deep rfl | omega
    · have e : numK op = 5 := by unfold numK; rw [if_neg h1, if_pos h2]
      rw [e]
      exact Acc.made (rws := ints [a, b, w1, w2, w3]) ints_row
  · refine ⟨.slice none 0 0, h, ?_, ?_⟩
    · refine C_go t_impl_told rfl ?_
      unfold F_impl_told askV
      simp only [go_sem, reduceIte, Nat.reduceEqDiff, Nat.reduceAdd, Nat.reduceMul, Nat.reduceLT, Nat.reduceLeDiff, reduceCtorEq, ne_eq, Int.reduceEq, Int.reduceLT, Int.reduceLE, Int.reduceNeg, Int.reduceToNat]
      repeat' (first | (refine w_any (by simp only [go_sem, reduceIte, Nat.reduceEqDiff, Nat.reduceAdd, Nat.reduceMul, Nat.reduceLT, Nat.reduceLeDiff, reduceCtorEq, ne_eq, Int.reduceEq, Int.reduceLT, Int.reduceLE, Int.reduceNeg, Int.reduceToNat]; rfl) ?_ ?_ <;> intro hc <;> (try simp only [decide_eq_true_eq, decide_eq_false_iff_not, Decidable.not_not, Bool.not_eq_true', Bool.not_eq_false'] at hc) <;> simp only [hc, go_sem, reduceIte, Nat.reduceEqDiff, Nat.reduceAdd, Nat.reduceMul, Nat.reduceLT, Nat.reduceLeDiff, reduceCtorEq, ne_eq, Int.reduceEq, Int.reduceLT, Int.reduceLE, Int.reduceNeg, Int.reduceToNat]) | (refine so_any (by simp only [go_sem, reduceIte, Nat.reduceEqDiff, Nat.reduceAdd, Nat.reduceMul, Nat.reduceLT, Nat.reduceLeDiff, reduceCtorEq, ne_eq, Int.reduceEq, Int.reduceLT, Int.reduceLE, Int.reduceNeg, Int.reduceToNat]; rfl) ?_ ?_ <;> intro hc <;> (try simp only [decide_eq_true_eq, decide_eq_false_iff_not, Decidable.not_not, Bool.not_eq_true', Bool.not_eq_false'] at hc) <;> simp only [hc, go_sem, reduceIte, Nat.reduceEqDiff, Nat.reduceAdd, Nat.reduceMul, Nat.reduceLT, Nat.reduceLeDiff, reduceCtorEq, ne_eq, Int.reduceEq, Int.reduceLT, Int.reduceLE, Int.reduceNeg, Int.reduceToNat]) | (refine so_any' (by simp only [go_sem, reduceIte, Nat.reduceEqDiff, Nat.reduceAdd, Nat.reduceMul, Nat.reduceLT, Nat.reduceLeDiff, reduceCtorEq, ne_eq, Int.reduceEq, Int.reduceLT, Int.reduceLE, Int.reduceNeg, Int.reduceToNat]; rfl) ?_ ?_ <;> intro hc <;> (try simp only [decide_eq_true_eq, decide_eq_false_iff_not, Decidable.not_not, Bool.not_eq_true', Bool.not_eq_false'] at hc) <;> simp only [hc, go_sem, reduceIte, Nat.reduceEqDiff, Nat.reduceAdd, Nat.reduceMul, Nat.reduceLT, Nat.reduceLeDiff, reduceCtorEq, ne_eq, Int.reduceEq, Int.reduceLT, Int.reduceLE, Int.reduceNeg, Int.reduceToNat]) | (refine sf_any (by simp only [go_sem, reduceIte, Nat.reduceEqDiff, Nat.reduceAdd, Nat.reduceMul, Nat.reduceLT, Nat.reduceLeDiff, reduceCtorEq, ne_eq, Int.reduceEq, Int.reduceLT, Int.reduceLE, Int.reduceNeg, Int.reduceToNat]; rfl) ?_ ?_ <;> intro hc <;> (try simp only [decide_eq_true_eq, decide_eq_false_iff_not, Decidable.not_not, Bool.not_eq_true', Bool.not_eq_false'] at hc) <;> simp only [hc, go_sem, reduceIte, Nat.reduceEqDiff, Nat.reduceAdd, Nat.reduceMul, Nat.reduceLT, Nat.reduceLeDiff, reduceCtorEq, ne_eq, Int.reduceEq, Int.reduceLT, Int.reduceLE, Int.reduceNeg, Int.reduceToNat]) | (refine sf_any' (by simp only [go_sem, reduceIte, Nat.reduceEqDiff, Nat.reduceAdd, Nat.reduceMul, Nat.reduceLT, Nat.reduceLeDiff, reduceCtorEq, ne_eq, Int.reduceEq, Int.reduceLT, Int.reduceLE, Int.reduceNeg, Int.reduceToNat]; rfl) ?_ ?_ <;> intro hc <;> (try simp only [decide_eq_true_eq, decide_eq_false_iff_not, Decidable.not_not, Bool.not_eq_true', Bool.not_eq_false'] at hc) <;> simp only [hc, go_sem, reduceIte, Nat.reduceEqDiff, Nat.reduceAdd, Nat.reduceMul, Nat.reduceLT, Nat.reduceLeDiff, reduceCtorEq, ne_eq, Int.reduceEq, Int.reduceLT, Int.reduceLE, Int.reduceNeg, Int.reduceToNat]))
      all_goals first | rfl | omega | (exfalso; omega)
    · have e : numK op = 0 := by unfold numK; rw [if_neg h1, if_neg h2]
      rw [e]
      exact Acc.nil

theorem numK_cases (op : Int) : numK op = 0 ∨ numK op = 1 ∨ numK op = 5 := by unfold numK; split <;> (try split) <;> simp

open Classical in
theorem k_impl_AskText : C T X n_impl_AskText [askV op a b w1 w2 w3] h = some (.tuple ⟨[.string (if AskOk op [a, b, w1, w2, w3] then askText op [a, b, w1, w2, w3] else noT), .bool (decide (AskOk op [a, b, w1, w2, w3]))]⟩, h) := by
  refine C_go t_impl_AskText rfl ?_
  unfold F_impl_AskText
  obtain ⟨v, hh, ht, hacc⟩ := k_impl_told (X := X) (h := h) (op := op) (a := a) (b := b) (w1 := w1) (w2 := w2) (w3 := w3)
  unfold askV at ht ⊢
  obtain ⟨l, hl⟩ : ∃ l, l = [a, b, w1, w2, w3] := ⟨_, rfl⟩
  have ga : l.getD 0 0 = a := by rw [hl]; rfl
  have gb : l.getD 1 0 = b := by rw [hl]; rfl
  have g1 : l.getD 2 0 = w1 := by rw [hl]; rfl
  have g2 : l.getD 3 0 = w2 := by rw [hl]; rfl
  have g3 : l.getD 4 0 = w3 := by rw [hl]; rfl
  have hlen : l.length = 5 := by rw [hl]; rfl
  rw [← hl] at hacc ⊢
  have hrow := hacc.rows
  have hln := ints_ln hrow
  have hlk : (l.take (numK op)).length = numK op := by rw [List.length_take, hlen]; rcases numK_cases op with e | e | e <;> rw [e] <;> rfl
  rw [hlk] at hln
  have hup := hacc.up
  by_cases hcc : (1 ≤ op ∧ op ≤ 6) ∧ (numK op < 5 → b = 0 ∧ w1 = 0 ∧ w2 = 0 ∧ w3 = 0) ∧ (numK op = 0 → a = 0)
  rotate_left
  · have hno : ¬ AskOk op l := fun g => hcc ⟨g.1, fun hk => by
      rcases numK_cases op with e | e | e
      · rw [← gb, ← g1, ← g2, ← g3]
        exact ⟨(g.2 1 (by omega)).2 (by omega), (g.2 2 (by omega)).2 (by omega), (g.2 3 (by omega)).2 (by omega), (g.2 4 (by omega)).2 (by omega)⟩
      · rw [← gb, ← g1, ← g2, ← g3]
        exact ⟨(g.2 1 (by omega)).2 (by omega), (g.2 2 (by omega)).2 (by omega), (g.2 3 (by omega)).2 (by omega), (g.2 4 (by omega)).2 (by omega)⟩
      · omega, fun hk => by rw [← ga]; exact (g.2 0 (by omega)).2 (by omega)⟩
    simp only [ht, hln, k_impl_in, hno, go_sem, reduceIte, Nat.reduceEqDiff, Nat.reduceAdd, Nat.reduceMul, Nat.reduceLT, Nat.reduceLeDiff, reduceCtorEq, ne_eq, Int.reduceEq, Int.reduceLT, Int.reduceLE, Int.reduceNeg, Int.reduceToNat]
    repeat' (first | (refine w_any (by simp only [ht, hln, k_impl_in, hno, go_sem, reduceIte, Nat.reduceEqDiff, Nat.reduceAdd, Nat.reduceMul, Nat.reduceLT, Nat.reduceLeDiff, reduceCtorEq, ne_eq, Int.reduceEq, Int.reduceLT, Int.reduceLE, Int.reduceNeg, Int.reduceToNat]; rfl) ?_ ?_ <;> intro hc <;> (try simp only [decide_eq_true_eq, decide_eq_false_iff_not, Decidable.not_not, Bool.not_eq_true', Bool.not_eq_false'] at hc) <;> simp only [hc, ht, hln, k_impl_in, hno, go_sem, reduceIte, Nat.reduceEqDiff, Nat.reduceAdd, Nat.reduceMul, Nat.reduceLT, Nat.reduceLeDiff, reduceCtorEq, ne_eq, Int.reduceEq, Int.reduceLT, Int.reduceLE, Int.reduceNeg, Int.reduceToNat]) | (refine so_any (by simp only [ht, hln, k_impl_in, hno, go_sem, reduceIte, Nat.reduceEqDiff, Nat.reduceAdd, Nat.reduceMul, Nat.reduceLT, Nat.reduceLeDiff, reduceCtorEq, ne_eq, Int.reduceEq, Int.reduceLT, Int.reduceLE, Int.reduceNeg, Int.reduceToNat]; rfl) ?_ ?_ <;> intro hc <;> (try simp only [decide_eq_true_eq, decide_eq_false_iff_not, Decidable.not_not, Bool.not_eq_true', Bool.not_eq_false'] at hc) <;> simp only [hc, ht, hln, k_impl_in, hno, go_sem, reduceIte, Nat.reduceEqDiff, Nat.reduceAdd, Nat.reduceMul, Nat.reduceLT, Nat.reduceLeDiff, reduceCtorEq, ne_eq, Int.reduceEq, Int.reduceLT, Int.reduceLE, Int.reduceNeg, Int.reduceToNat]) | (refine so_any' (by simp only [ht, hln, k_impl_in, hno, go_sem, reduceIte, Nat.reduceEqDiff, Nat.reduceAdd, Nat.reduceMul, Nat.reduceLT, Nat.reduceLeDiff, reduceCtorEq, ne_eq, Int.reduceEq, Int.reduceLT, Int.reduceLE, Int.reduceNeg, Int.reduceToNat]; rfl) ?_ ?_ <;> intro hc <;> (try simp only [decide_eq_true_eq, decide_eq_false_iff_not, Decidable.not_not, Bool.not_eq_true', Bool.not_eq_false'] at hc) <;> simp only [hc, ht, hln, k_impl_in, hno, go_sem, reduceIte, Nat.reduceEqDiff, Nat.reduceAdd, Nat.reduceMul, Nat.reduceLT, Nat.reduceLeDiff, reduceCtorEq, ne_eq, Int.reduceEq, Int.reduceLT, Int.reduceLE, Int.reduceNeg, Int.reduceToNat]) | (refine sf_any (by simp only [ht, hln, k_impl_in, hno, go_sem, reduceIte, Nat.reduceEqDiff, Nat.reduceAdd, Nat.reduceMul, Nat.reduceLT, Nat.reduceLeDiff, reduceCtorEq, ne_eq, Int.reduceEq, Int.reduceLT, Int.reduceLE, Int.reduceNeg, Int.reduceToNat]; rfl) ?_ ?_ <;> intro hc <;> (try simp only [decide_eq_true_eq, decide_eq_false_iff_not, Decidable.not_not, Bool.not_eq_true', Bool.not_eq_false'] at hc) <;> simp only [hc, ht, hln, k_impl_in, hno, go_sem, reduceIte, Nat.reduceEqDiff, Nat.reduceAdd, Nat.reduceMul, Nat.reduceLT, Nat.reduceLeDiff, reduceCtorEq, ne_eq, Int.reduceEq, Int.reduceLT, Int.reduceLE, Int.reduceNeg, Int.reduceToNat]) | (refine sf_any' (by simp only [ht, hln, k_impl_in, hno, go_sem, reduceIte, Nat.reduceEqDiff, Nat.reduceAdd, Nat.reduceMul, Nat.reduceLT, Nat.reduceLeDiff, reduceCtorEq, ne_eq, Int.reduceEq, Int.reduceLT, Int.reduceLE, Int.reduceNeg, Int.reduceToNat]; rfl) ?_ ?_ <;> intro hc <;> (try simp only [decide_eq_true_eq, decide_eq_false_iff_not, Decidable.not_not, Bool.not_eq_true', Bool.not_eq_false'] at hc) <;> simp only [hc, ht, hln, k_impl_in, hno, go_sem, reduceIte, Nat.reduceEqDiff, Nat.reduceAdd, Nat.reduceMul, Nat.reduceLT, Nat.reduceLeDiff, reduceCtorEq, ne_eq, Int.reduceEq, Int.reduceLT, Int.reduceLE, Int.reduceNeg, Int.reduceToNat]))
    all_goals first
      | exact finish_flat rfl hup
      | exact absurd (by simp only [Bool.and_eq_true, decide_eq_true_eq] at *; omega) hcc
  obtain ⟨hop, hz, hz0⟩ := hcc
  have hop1 : 1 ≤ op := hop.1
  have hop2 : op ≤ 6 := hop.2
  have hu8 : IntKind.u8.wrap op = op := wu8 (by omega) (by omega)
  have hst : strLV 1 (some [.int .u8 op]) = some (.string (strOfNums [op])) := rfl
  have hs : (strOfNums [op]).size + (catV noT (l.take (numK op))).size ≤ 9223372036854775807 := by
    have := catV_size (s := noT) (l := l.take (numK op))
    have : noT.size = 0 := rfl
    have : (strOfNums [op]).size = 1 := rfl
    have := numK_cases op
    omega
  -- the numbers that are told
  have hAsk : (∀ j, j < numK op → 0 ≤ l.getD j 0 ∧ l.getD j 0 ≤ 1000000000) → AskOk op l := fun hall => by
    refine ⟨hop, fun j hj => ?_⟩
    by_cases hjk : j < numK op
    · exact ⟨hall j hjk, fun hk => by omega⟩
    · have h0 : l.getD j 0 = 0 := by
        rcases numK_cases op with e | e | e
        · obtain ⟨q1, q2, q3, q4⟩ := hz (by omega)
          have q5 := hz0 e
          match j, hj with
          | 0, _ => omega
          | 1, _ => omega
          | 2, _ => omega
          | 3, _ => omega
          | 4, _ => omega
        · obtain ⟨q1, q2, q3, q4⟩ := hz (by omega)
          match j, hj with
          | 0, _ => omega
          | 1, _ => omega
          | 2, _ => omega
          | 3, _ => omega
          | 4, _ => omega
        · omega
      rw [h0]
      exact ⟨by omega, fun _ => rfl⟩
  have hNo : ∀ j, j < numK op → ¬ (0 ≤ l.getD j 0 ∧ l.getD j 0 ≤ 1000000000) → ¬ AskOk op l := fun j hj hn g => hn (g.2 j (by have := numK_cases op; omega)).1
  have hgd : ∀ j, j < numK op → (l.take (numK op)).getD j 0 = l.getD j 0 := fun j hj => by
    simp [List.getD_eq_getElem?_getD, List.getElem?_take, hj]
  have htxt : strOfNums [op] ++ catV noT (l.take (numK op)) = askText op l := catV_from
  have hln3 : ∀ n : Nat, numK op = n → lnV hh v = some (.int .i64 (n : Int)) := fun n e => by rw [hln, e]
  rcases numK_cases op with e | e | e
  · have hl3 : lnV hh v = some (.int .i64 0) := hln3 0 e
    obtain ⟨rfl, rfl, rfl, rfl⟩ := hz (by omega)
    obtain rfl := hz0 e
    simp only [ht, hl3, k_impl_in, hop1, hop2, go_sem, reduceIte, Nat.reduceEqDiff, Nat.reduceAdd, Nat.reduceMul, Nat.reduceLT, Nat.reduceLeDiff, reduceCtorEq, ne_eq, Int.reduceEq, Int.reduceLT, Int.reduceLE, Int.reduceNeg, Int.reduceToNat]
    refine w_for (numK op) (fun i t loc h' => h' = hh ∧ loc 1 = some [.int .i64 op, .int .i64 0, .int .i64 0, .int .i64 0, .int .i64 0, .int .i64 0] ∧ t 4 = v ∧ t 48 = v ∧ t 49 = .int .i64 (numK op) ∧ t 50 = .int .i64 i ∧
      ∀ j, j < i → 0 ≤ l.getD j 0 ∧ l.getD j 0 ≤ 1000000000) ⟨rfl, rfl, rfl, rfl, by simp [upd, e], rfl, fun j hj => by omega⟩ ?_
    rintro i t loc h' hi ⟨rfl, l1, t4, t48, t49, t50, hall⟩
    simp only [t49, t50, go_sem, reduceIte, Nat.reduceEqDiff, Nat.reduceAdd, Nat.reduceMul, Nat.reduceLT, Nat.reduceLeDiff, reduceCtorEq, ne_eq, Int.reduceEq, Int.reduceLT, Int.reduceLE, Int.reduceNeg, Int.reduceToNat]
    refine w_open (by simp only [t49, t50, go_sem, reduceIte, Nat.reduceEqDiff, Nat.reduceAdd, Nat.reduceMul, Nat.reduceLT, Nat.reduceLeDiff, reduceCtorEq, ne_eq, Int.reduceEq, Int.reduceLT, Int.reduceLE, Int.reduceNeg, Int.reduceToNat]; rfl) ?_ ?_ <;> intro hc
    · have hi1 : i < (l.take (numK op)).length := by omega
      have hw : IntKind.i64.wrap ((i : Int) + 1) = ((i + 1 : Nat) : Int) := w64 (by omega) (by omega)
      have hg := hgd i (by omega)
      by_cases hy : 0 ≤ l.getD i 0 ∧ l.getD i 0 ≤ 1000000000
      · have hy1 := hy.1
        have hy2 := hy.2
        simp only [l1, t4, t48, t49, t50, int_el hrow hi1, hg, k_impl_in, hy1, hy2, hw, go_sem, reduceIte, Nat.reduceEqDiff, Nat.reduceAdd, Nat.reduceMul, Nat.reduceLT, Nat.reduceLeDiff, reduceCtorEq, ne_eq, Int.reduceEq, Int.reduceLT, Int.reduceLE, Int.reduceNeg, Int.reduceToNat]
        refine ⟨by omega, fun j hj => ?_⟩
        by_cases e : j = i
        · subst e; exact hy
        · exact hall j (by omega)
      · have hy' : (decide (0 ≤ l.getD i 0) && decide (l.getD i 0 ≤ 1000000000)) = false := by simp only [Bool.and_eq_false_iff, decide_eq_false_iff_not]; omega
        have hno := hNo i (by omega) hy
        simp only [l1, t4, t48, t49, t50, int_el hrow hi1, hg, k_impl_in, hy', hno, hw, go_sem, reduceIte, Nat.reduceEqDiff, Nat.reduceAdd, Nat.reduceMul, Nat.reduceLT, Nat.reduceLeDiff, reduceCtorEq, ne_eq, Int.reduceEq, Int.reduceLT, Int.reduceLE, Int.reduceNeg, Int.reduceToNat]
        exact finish_flat rfl hup
    · have hi2 : i = numK op := by omega
      subst hi2
      have hyes := hAsk hall
      simp only [l1, t4, hu8, hst, k_impl_vars hrow (by omega), hs, hyes, htxt, List.prefix_refl, go_sem, reduceIte, Nat.reduceEqDiff, Nat.reduceAdd, Nat.reduceMul, Nat.reduceLT, Nat.reduceLeDiff, reduceCtorEq, ne_eq, Int.reduceEq, Int.reduceLT, Int.reduceLE, Int.reduceNeg, Int.reduceToNat]
      exact finish_flat rfl hup
  · have hl3 : lnV hh v = some (.int .i64 1) := hln3 1 e
    obtain ⟨rfl, rfl, rfl, rfl⟩ := hz (by omega)
    simp only [ht, hl3, k_impl_in, hop1, hop2, go_sem, reduceIte, Nat.reduceEqDiff, Nat.reduceAdd, Nat.reduceMul, Nat.reduceLT, Nat.reduceLeDiff, reduceCtorEq, ne_eq, Int.reduceEq, Int.reduceLT, Int.reduceLE, Int.reduceNeg, Int.reduceToNat]
    refine w_for (numK op) (fun i t loc h' => h' = hh ∧ loc 1 = some [.int .i64 op, .int .i64 a, .int .i64 0, .int .i64 0, .int .i64 0, .int .i64 0] ∧ t 4 = v ∧ t 48 = v ∧ t 49 = .int .i64 (numK op) ∧ t 50 = .int .i64 i ∧
      ∀ j, j < i → 0 ≤ l.getD j 0 ∧ l.getD j 0 ≤ 1000000000) ⟨rfl, rfl, rfl, rfl, by simp [upd, e], rfl, fun j hj => by omega⟩ ?_
    rintro i t loc h' hi ⟨rfl, l1, t4, t48, t49, t50, hall⟩
    simp only [t49, t50, go_sem, reduceIte, Nat.reduceEqDiff, Nat.reduceAdd, Nat.reduceMul, Nat.reduceLT, Nat.reduceLeDiff, reduceCtorEq, ne_eq, Int.reduceEq, Int.reduceLT, Int.reduceLE, Int.reduceNeg, Int.reduceToNat]
    refine w_open (by simp only [t49, t50, go_sem, reduceIte, Nat.reduceEqDiff, Nat.reduceAdd, Nat.reduceMul, Nat.reduceLT, Nat.reduceLeDiff, reduceCtorEq, ne_eq, Int.reduceEq, Int.reduceLT, Int.reduceLE, Int.reduceNeg, Int.reduceToNat]; rfl) ?_ ?_ <;> intro hc
    · have hi1 : i < (l.take (numK op)).length := by omega
      have hw : IntKind.i64.wrap ((i : Int) + 1) = ((i + 1 : Nat) : Int) := w64 (by omega) (by omega)
      have hg := hgd i (by omega)
      by_cases hy : 0 ≤ l.getD i 0 ∧ l.getD i 0 ≤ 1000000000
      · have hy1 := hy.1
        have hy2 := hy.2
        simp only [l1, t4, t48, t49, t50, int_el hrow hi1, hg, k_impl_in, hy1, hy2, hw, go_sem, reduceIte, Nat.reduceEqDiff, Nat.reduceAdd, Nat.reduceMul, Nat.reduceLT, Nat.reduceLeDiff, reduceCtorEq, ne_eq, Int.reduceEq, Int.reduceLT, Int.reduceLE, Int.reduceNeg, Int.reduceToNat]
        refine ⟨by omega, fun j hj => ?_⟩
        by_cases e : j = i
        · subst e; exact hy
        · exact hall j (by omega)
      · have hy' : (decide (0 ≤ l.getD i 0) && decide (l.getD i 0 ≤ 1000000000)) = false := by simp only [Bool.and_eq_false_iff, decide_eq_false_iff_not]; omega
        have hno := hNo i (by omega) hy
        simp only [l1, t4, t48, t49, t50, int_el hrow hi1, hg, k_impl_in, hy', hno, hw, go_sem, reduceIte, Nat.reduceEqDiff, Nat.reduceAdd, Nat.reduceMul, Nat.reduceLT, Nat.reduceLeDiff, reduceCtorEq, ne_eq, Int.reduceEq, Int.reduceLT, Int.reduceLE, Int.reduceNeg, Int.reduceToNat]
        exact finish_flat rfl hup
    · have hi2 : i = numK op := by omega
      subst hi2
      have hyes := hAsk hall
      simp only [l1, t4, hu8, hst, k_impl_vars hrow (by omega), hs, hyes, htxt, List.prefix_refl, go_sem, reduceIte, Nat.reduceEqDiff, Nat.reduceAdd, Nat.reduceMul, Nat.reduceLT, Nat.reduceLeDiff, reduceCtorEq, ne_eq, Int.reduceEq, Int.reduceLT, Int.reduceLE, Int.reduceNeg, Int.reduceToNat]
      exact finish_flat rfl hup
  · have hl3 : lnV hh v = some (.int .i64 5) := hln3 5 e
    simp only [ht, hl3, k_impl_in, hop1, hop2, go_sem, reduceIte, Nat.reduceEqDiff, Nat.reduceAdd, Nat.reduceMul, Nat.reduceLT, Nat.reduceLeDiff, reduceCtorEq, ne_eq, Int.reduceEq, Int.reduceLT, Int.reduceLE, Int.reduceNeg, Int.reduceToNat]
    refine w_for (numK op) (fun i t loc h' => h' = hh ∧ loc 1 = some [.int .i64 op, .int .i64 a, .int .i64 b, .int .i64 w1, .int .i64 w2, .int .i64 w3] ∧ t 4 = v ∧ t 48 = v ∧ t 49 = .int .i64 (numK op) ∧ t 50 = .int .i64 i ∧
      ∀ j, j < i → 0 ≤ l.getD j 0 ∧ l.getD j 0 ≤ 1000000000) ⟨rfl, rfl, rfl, rfl, by simp [upd, e], rfl, fun j hj => by omega⟩ ?_
    rintro i t loc h' hi ⟨rfl, l1, t4, t48, t49, t50, hall⟩
    simp only [t49, t50, go_sem, reduceIte, Nat.reduceEqDiff, Nat.reduceAdd, Nat.reduceMul, Nat.reduceLT, Nat.reduceLeDiff, reduceCtorEq, ne_eq, Int.reduceEq, Int.reduceLT, Int.reduceLE, Int.reduceNeg, Int.reduceToNat]
    refine w_open (by simp only [t49, t50, go_sem, reduceIte, Nat.reduceEqDiff, Nat.reduceAdd, Nat.reduceMul, Nat.reduceLT, Nat.reduceLeDiff, reduceCtorEq, ne_eq, Int.reduceEq, Int.reduceLT, Int.reduceLE, Int.reduceNeg, Int.reduceToNat]; rfl) ?_ ?_ <;> intro hc
    · have hi1 : i < (l.take (numK op)).length := by omega
      have hw : IntKind.i64.wrap ((i : Int) + 1) = ((i + 1 : Nat) : Int) := w64 (by omega) (by omega)
      have hg := hgd i (by omega)
      by_cases hy : 0 ≤ l.getD i 0 ∧ l.getD i 0 ≤ 1000000000
      · have hy1 := hy.1
        have hy2 := hy.2
        simp only [l1, t4, t48, t49, t50, int_el hrow hi1, hg, k_impl_in, hy1, hy2, hw, go_sem, reduceIte, Nat.reduceEqDiff, Nat.reduceAdd, Nat.reduceMul, Nat.reduceLT, Nat.reduceLeDiff, reduceCtorEq, ne_eq, Int.reduceEq, Int.reduceLT, Int.reduceLE, Int.reduceNeg, Int.reduceToNat]
        refine ⟨by omega, fun j hj => ?_⟩
        by_cases e : j = i
        · subst e; exact hy
        · exact hall j (by omega)
      · have hy' : (decide (0 ≤ l.getD i 0) && decide (l.getD i 0 ≤ 1000000000)) = false := by simp only [Bool.and_eq_false_iff, decide_eq_false_iff_not]; omega
        have hno := hNo i (by omega) hy
        simp only [l1, t4, t48, t49, t50, int_el hrow hi1, hg, k_impl_in, hy', hno, hw, go_sem, reduceIte, Nat.reduceEqDiff, Nat.reduceAdd, Nat.reduceMul, Nat.reduceLT, Nat.reduceLeDiff, reduceCtorEq, ne_eq, Int.reduceEq, Int.reduceLT, Int.reduceLE, Int.reduceNeg, Int.reduceToNat]
        exact finish_flat rfl hup
    · have hi2 : i = numK op := by omega
      subst hi2
      have hyes := hAsk hall
      simp only [l1, t4, hu8, hst, k_impl_vars hrow (by omega), hs, hyes, htxt, List.prefix_refl, go_sem, reduceIte, Nat.reduceEqDiff, Nat.reduceAdd, Nat.reduceMul, Nat.reduceLT, Nat.reduceLeDiff, reduceCtorEq, ne_eq, Int.reduceEq, Int.reduceLT, Int.reduceLE, Int.reduceNeg, Int.reduceToNat]
      exact finish_flat rfl hup
end
end Go.Proofs.Ytioogligololoaa.Ab
