/- Contracts: is a graph right (by the program); lists with one more. No conditions. -/
import Derived.Test.YtioogligololoaaK10
set_option linter.unusedSimpArgs false
set_option linter.unusedVariables false
set_option linter.unnecessarySimpa false
set_option maxHeartbeats 4000000
namespace Go.Proofs.Ytioogligololoaa.Ab
open Go.RowKit

section
variable {X : CallF} {h : Heap} {a v : Value} {l : List Int} {es : List E} {n x y size : Int}

open Classical in
theorem k_impl_GraphOk (he : Rows h 5 v (edges es)) (hl : es.length ≤ lim) : C T X n_impl_GraphOk [graphV size v] h = some (.bool (decide (GOk size es)), h) := by
  unfold lim at hl
  refine C_go t_impl_GraphOk rfl ?_
  unfold F_impl_GraphOk graphV
  simp only [k_impl_in, go_sem, reduceIte, Nat.reduceEqDiff, Nat.reduceAdd, Nat.reduceMul, Nat.reduceLT, Nat.reduceLeDiff, reduceCtorEq, ne_eq, Int.reduceEq, Int.reduceLT, Int.reduceLE, Int.reduceNeg, Int.reduceToNat]
  refine w_any (by simp only [go_sem, reduceIte, Nat.reduceEqDiff, Nat.reduceAdd, Nat.reduceMul, Nat.reduceLT, Nat.reduceLeDiff, reduceCtorEq, ne_eq, Int.reduceEq, Int.reduceLT, Int.reduceLE, Int.reduceNeg, Int.reduceToNat]; rfl) ?_ ?_ <;> intro hc
  · have : ¬ GOk size es := fun g => by
      have := g.1
      simp at hc
      omega
    simp only [this, go_sem, reduceIte, Nat.reduceEqDiff, Nat.reduceAdd, Nat.reduceMul, Nat.reduceLT, Nat.reduceLeDiff, reduceCtorEq, ne_eq, Int.reduceEq, Int.reduceLT, Int.reduceLE, Int.reduceNeg, Int.reduceToNat]
  have hs : 0 ≤ size ∧ size ≤ 9 := by simpa using hc
  simp only [he.lnm, go_sem, reduceIte, Nat.reduceEqDiff, Nat.reduceAdd, Nat.reduceMul, Nat.reduceLT, Nat.reduceLeDiff, reduceCtorEq, ne_eq, Int.reduceEq, Int.reduceLT, Int.reduceLE, Int.reduceNeg, Int.reduceToNat]
  refine w_for es.length (fun i t loc h' => h' = h ∧ loc 1 = some [.int .i64 size, v] ∧ t 11 = v ∧ t 12 = .int .i64 es.length ∧ t 13 = .int .i64 i ∧ ∀ j, j < i → EOk size (es.getD j e0) ∧ (0 < j → ELt (es.getD (j - 1) e0) (es.getD j e0)))
    ⟨rfl, rfl, rfl, rfl, rfl, fun j hj => by omega⟩ ?_
  rintro i t loc h' hi ⟨rfl, l1, t11, t12, t13, hall⟩
  simp only [t12, t13, go_sem, reduceIte, Nat.reduceEqDiff, Nat.reduceAdd, Nat.reduceMul, Nat.reduceLT, Nat.reduceLeDiff, reduceCtorEq, ne_eq, Int.reduceEq, Int.reduceLT, Int.reduceLE, Int.reduceNeg, Int.reduceToNat]
  refine w_open (by simp only [go_sem, reduceIte, Nat.reduceEqDiff, Nat.reduceAdd, Nat.reduceMul, Nat.reduceLT, Nat.reduceLeDiff, reduceCtorEq, ne_eq, Int.reduceEq, Int.reduceLT, Int.reduceLE, Int.reduceNeg, Int.reduceToNat]; rfl) ?_ ?_ <;> intro hc
  · have hi1 : i < es.length := by omega
    have hel := edge_el he hi1
    have hneg : ¬ (EOk size (es.getD i e0) ∧ (0 < i → ELt (es.getD (i - 1) e0) (es.getD i e0))) → ¬ GOk size es := fun hn g => hn (g.2 i hi1)
    have hnext : (EOk size (es.getD i e0) ∧ (0 < i → ELt (es.getD (i - 1) e0) (es.getD i e0))) → ∀ j, j < i + 1 → EOk size (es.getD j e0) ∧ (0 < j → ELt (es.getD (j - 1) e0) (es.getD j e0)) := fun hy => below_succ hall hy
    have hw : IntKind.i64.wrap ((i : Int) + 1) = ((i + 1 : Nat) : Int) := w64 (by omega) (by omega)
    have hws : IntKind.i64.wrap (size - 1) = size - 1 := w64 (by omega) (by omega)
    by_cases hE : EOk size (es.getD i e0)
    · obtain ⟨q1, q2, q3, q4, q5, q6, q7, q8, q9⟩ := id hE
      have p1 : (es.getD i e0).a ≤ size - 1 := by omega
      have p2 : 0 ≤ (es.getD i e0).b := by omega
      have p3 : (es.getD i e0).b ≤ size - 1 := by omega
      have p4 : ¬ (es.getD i e0).b ≤ (es.getD i e0).a := by omega
      rcases Nat.eq_zero_or_pos i with hz | hp
      · have hz' : ¬ (0 : Int) < i := by omega
        simp only [l1, t11, t12, t13, hel.1, hel.2.2.1, k_impl_in, hws, p1, p2, p3, p4, q1, q4, q5, q6, q7, q8, q9, hz', hw, go_sem, reduceIte, Nat.reduceEqDiff, Nat.reduceAdd, Nat.reduceMul, Nat.reduceLT, Nat.reduceLeDiff, reduceCtorEq, ne_eq, Int.reduceEq, Int.reduceLT, Int.reduceLE, Int.reduceNeg, Int.reduceToNat]
        exact ⟨hi1, hnext ⟨hE, fun hp => by omega⟩⟩
      · have hp' : (0 : Int) < i := by omega
        have hw1 : IntKind.i64.wrap ((i : Int) - 1) = ((i - 1 : Nat) : Int) := by rw [w64 (by omega) (by omega)]; omega
        have hi2 : i - 1 < es.length := by omega
        have hel2 := edge_el he hi2
        by_cases hlt : ELt (es.getD (i - 1) e0) (es.getD i e0)
        · by_cases f1 : (es.getD (i - 1) e0).a = (es.getD i e0).a
          · have f2 : ¬ (es.getD i e0).a < (es.getD (i - 1) e0).a := by omega
            have f3 : ¬ (es.getD i e0).b ≤ (es.getD (i - 1) e0).b := by unfold ELt at hlt; omega
            rw [f1] at f2
            simp only [l1, t11, t12, t13, hel.1, hel.2.2.1, k_impl_in, hws, p1, p2, p3, p4, q1, q4, q5, q6, q7, q8, q9, hp', hw, hw1, hel2, f1, f2, f3, go_sem, reduceIte, Nat.reduceEqDiff, Nat.reduceAdd, Nat.reduceMul, Nat.reduceLT, Nat.reduceLeDiff, reduceCtorEq, ne_eq, Int.reduceEq, Int.reduceLT, Int.reduceLE, Int.reduceNeg, Int.reduceToNat]
            exact ⟨hi1, hnext ⟨hE, fun _ => hlt⟩⟩
          · have f2 : ¬ (es.getD i e0).a < (es.getD (i - 1) e0).a := by unfold ELt at hlt; omega
            simp only [l1, t11, t12, t13, hel.1, hel.2.2.1, k_impl_in, hws, p1, p2, p3, p4, q1, q4, q5, q6, q7, q8, q9, hp', hw, hw1, hel2, f1, f2, go_sem, reduceIte, Nat.reduceEqDiff, Nat.reduceAdd, Nat.reduceMul, Nat.reduceLT, Nat.reduceLeDiff, reduceCtorEq, ne_eq, Int.reduceEq, Int.reduceLT, Int.reduceLE, Int.reduceNeg, Int.reduceToNat]
            exact ⟨hi1, hnext ⟨hE, fun _ => hlt⟩⟩
        · have hr : ¬ GOk size es := hneg fun hx => hlt (hx.2 hp)
          by_cases f1 : (es.getD i e0).a < (es.getD (i - 1) e0).a
          · simp only [l1, t11, t12, t13, hel.1, hel.2.2.1, k_impl_in, hws, p1, p2, p3, p4, q1, q4, q5, q6, q7, q8, q9, hp', hw1, hel2, f1, hr, go_sem, reduceIte, Nat.reduceEqDiff, Nat.reduceAdd, Nat.reduceMul, Nat.reduceLT, Nat.reduceLeDiff, reduceCtorEq, ne_eq, Int.reduceEq, Int.reduceLT, Int.reduceLE, Int.reduceNeg, Int.reduceToNat]
          · have f2 : (es.getD (i - 1) e0).a = (es.getD i e0).a := by unfold ELt at hlt; omega
            have f3 : (es.getD i e0).b ≤ (es.getD (i - 1) e0).b := by unfold ELt at hlt; omega
            rw [f2] at f1
            simp only [l1, t11, t12, t13, hel.1, hel.2.2.1, k_impl_in, hws, p1, p2, p3, p4, q1, q4, q5, q6, q7, q8, q9, hp', hw1, hel2, f1, f2, f3, hr, go_sem, reduceIte, Nat.reduceEqDiff, Nat.reduceAdd, Nat.reduceMul, Nat.reduceLT, Nat.reduceLeDiff, reduceCtorEq, ne_eq, Int.reduceEq, Int.reduceLT, Int.reduceLE, Int.reduceNeg, Int.reduceToNat]
    · have hr : ¬ GOk size es := hneg (fun hx => hE hx.1)
      simp only [l1, t11, t12, t13, hel.1, hel.2.2.1, k_impl_in, hws, go_sem, reduceIte, Nat.reduceEqDiff, Nat.reduceAdd, Nat.reduceMul, Nat.reduceLT, Nat.reduceLeDiff, reduceCtorEq, ne_eq, Int.reduceEq, Int.reduceLT, Int.reduceLE, Int.reduceNeg, Int.reduceToNat]
      repeat' (first | (refine w_any (by simp only [l1, k_impl_in, hws, go_sem, reduceIte, Nat.reduceEqDiff, Nat.reduceAdd, Nat.reduceMul, Nat.reduceLT, Nat.reduceLeDiff, reduceCtorEq, ne_eq, Int.reduceEq, Int.reduceLT, Int.reduceLE, Int.reduceNeg, Int.reduceToNat]; rfl) ?_ ?_ <;> intro hc <;> (try simp only [decide_eq_true_eq, decide_eq_false_iff_not, Decidable.not_not, Bool.not_eq_true', Bool.not_eq_false'] at hc) <;> simp only [hc, l1, k_impl_in, hws, go_sem, reduceIte, Nat.reduceEqDiff, Nat.reduceAdd, Nat.reduceMul, Nat.reduceLT, Nat.reduceLeDiff, reduceCtorEq, ne_eq, Int.reduceEq, Int.reduceLT, Int.reduceLE, Int.reduceNeg, Int.reduceToNat]) | (refine so_any (by simp only [l1, k_impl_in, hws, go_sem, reduceIte, Nat.reduceEqDiff, Nat.reduceAdd, Nat.reduceMul, Nat.reduceLT, Nat.reduceLeDiff, reduceCtorEq, ne_eq, Int.reduceEq, Int.reduceLT, Int.reduceLE, Int.reduceNeg, Int.reduceToNat]; rfl) ?_ ?_ <;> intro hc <;> (try simp only [decide_eq_true_eq, decide_eq_false_iff_not, Decidable.not_not, Bool.not_eq_true', Bool.not_eq_false'] at hc) <;> simp only [hc, l1, k_impl_in, hws, go_sem, reduceIte, Nat.reduceEqDiff, Nat.reduceAdd, Nat.reduceMul, Nat.reduceLT, Nat.reduceLeDiff, reduceCtorEq, ne_eq, Int.reduceEq, Int.reduceLT, Int.reduceLE, Int.reduceNeg, Int.reduceToNat]) | (refine so_any' (by simp only [l1, k_impl_in, hws, go_sem, reduceIte, Nat.reduceEqDiff, Nat.reduceAdd, Nat.reduceMul, Nat.reduceLT, Nat.reduceLeDiff, reduceCtorEq, ne_eq, Int.reduceEq, Int.reduceLT, Int.reduceLE, Int.reduceNeg, Int.reduceToNat]; rfl) ?_ ?_ <;> intro hc <;> (try simp only [decide_eq_true_eq, decide_eq_false_iff_not, Decidable.not_not, Bool.not_eq_true', Bool.not_eq_false'] at hc) <;> simp only [hc, l1, k_impl_in, hws, go_sem, reduceIte, Nat.reduceEqDiff, Nat.reduceAdd, Nat.reduceMul, Nat.reduceLT, Nat.reduceLeDiff, reduceCtorEq, ne_eq, Int.reduceEq, Int.reduceLT, Int.reduceLE, Int.reduceNeg, Int.reduceToNat]) | (refine sf_any (by simp only [l1, k_impl_in, hws, go_sem, reduceIte, Nat.reduceEqDiff, Nat.reduceAdd, Nat.reduceMul, Nat.reduceLT, Nat.reduceLeDiff, reduceCtorEq, ne_eq, Int.reduceEq, Int.reduceLT, Int.reduceLE, Int.reduceNeg, Int.reduceToNat]; rfl) ?_ ?_ <;> intro hc <;> (try simp only [decide_eq_true_eq, decide_eq_false_iff_not, Decidable.not_not, Bool.not_eq_true', Bool.not_eq_false'] at hc) <;> simp only [hc, l1, k_impl_in, hws, go_sem, reduceIte, Nat.reduceEqDiff, Nat.reduceAdd, Nat.reduceMul, Nat.reduceLT, Nat.reduceLeDiff, reduceCtorEq, ne_eq, Int.reduceEq, Int.reduceLT, Int.reduceLE, Int.reduceNeg, Int.reduceToNat]) | (refine sf_any' (by simp only [l1, k_impl_in, hws, go_sem, reduceIte, Nat.reduceEqDiff, Nat.reduceAdd, Nat.reduceMul, Nat.reduceLT, Nat.reduceLeDiff, reduceCtorEq, ne_eq, Int.reduceEq, Int.reduceLT, Int.reduceLE, Int.reduceNeg, Int.reduceToNat]; rfl) ?_ ?_ <;> intro hc <;> (try simp only [decide_eq_true_eq, decide_eq_false_iff_not, Decidable.not_not, Bool.not_eq_true', Bool.not_eq_false'] at hc) <;> simp only [hc, l1, k_impl_in, hws, go_sem, reduceIte, Nat.reduceEqDiff, Nat.reduceAdd, Nat.reduceMul, Nat.reduceLT, Nat.reduceLeDiff, reduceCtorEq, ne_eq, Int.reduceEq, Int.reduceLT, Int.reduceLE, Int.reduceNeg, Int.reduceToNat]))
      all_goals first
        | exact (decide_eq_false hr).symm
        | exact absurd (by simp only [Bool.and_eq_true, decide_eq_true_eq] at *; simp only [EOk]; omega) hE
  · have : GOk size es := ⟨hs, fun j hj => hall j (by omega)⟩
    simp only [this, go_sem, reduceIte, Nat.reduceEqDiff, Nat.reduceAdd, Nat.reduceMul, Nat.reduceLT, Nat.reduceLeDiff, reduceCtorEq, ne_eq, Int.reduceEq, Int.reduceLT, Int.reduceLE, Int.reduceNeg, Int.reduceToNat]

theorem k_impl_copyInts (ha : Rows h 1 a (ints l)) (hl : l.length ≤ lim) : ∃ v hh, C T X n_impl_copyInts [a] h = some (v, hh) ∧ h <+: hh ∧ Own hh h.length hh.length 1 y_int v (ints l) := by
  refine C_ex t_impl_copyInts rfl ?_
  unfold F_impl_copyInts
  obtain ⟨v', h', e, hg, hb, o⟩ := (Own.nil : Own h h.length h.length 1 y_int (.slice none 0 0) []).app (Nat.le_refl _) ha (by simpa [ints_len] using hl)
  simp only [e, go_sem, reduceIte, Nat.reduceEqDiff, Nat.reduceAdd, Nat.reduceMul, Nat.reduceLT, Nat.reduceLeDiff, reduceCtorEq, ne_eq, Int.reduceEq, Int.reduceLT, Int.reduceLE, Int.reduceNeg, Int.reduceToNat]
  have hp : h <+: h' := pre_push (List.prefix_refl _) (Nat.le_refl _) hg hb
  rw [List.nil_append, Nat.max_eq_right hg] at o
  exact ⟨o.live, o.fin hp⟩

theorem ints_take {k : Nat} : (ints l).take k = ints (l.take k) := by simp [ints, List.map_take]
theorem ints_drop {k : Nat} : (ints l).drop k = ints (l.drop k) := by simp [ints, List.map_drop]
theorem ints_app {m : List Int} : ints l ++ ints m = ints (l ++ m) := by simp [ints]
end
end Go.Proofs.Ytioogligololoaa.Ab
