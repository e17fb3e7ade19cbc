/- Contracts: an ask is drawn. No conditions. -/
import Derived.Test.YtioogligololoaaK36
set_option linter.unusedSimpArgs false
set_option linter.unusedVariables false
set_option linter.unnecessarySimpa false
set_option maxHeartbeats 4000000
namespace Go.Proofs.Ytioogligololoaa.Ab
open Go.RowKit
section
variable {X : CallF} {B h : Heap} {b : Nat} {cv : Value} {l : List Int}

/-- What stands behind the draws of an ask so far. -/
def AskJ (B : Heap) (b : Nat) (cv : Value) (l : List Int) (h : Heap) (t : Nat → Value) (loc : Nat → Option (List Value)) (h' : Heap) : Prop :=
  t 0 = pk b 0 ∧ loc 4 = some [.int .i64 0, .int .i64 0, .int .i64 0, .int .i64 0, .int .i64 0, .int .i64 0] ∧ (∃ x : Aq, loc 5 = some (aqR x)) ∧ Dr B b cv l h' ∧ Fr' b h h'
def AskJ' (B : Heap) (b : Nat) (cv : Value) (l : List Int) (h : Heap) (t : Nat → Value) (loc : Nat → Option (List Value)) (h' : Heap) : Prop :=
  loc 4 = some [.int .i64 0, .int .i64 0, .int .i64 0, .int .i64 0, .int .i64 0, .int .i64 0] ∧ (∃ x : Aq, loc 5 = some (aqR x)) ∧ Dr B b cv l h' ∧ Fr' b h h'
theorem aq_ex {a b c d e f : Int} : ∃ x : Aq, [Value.int .i64 a, .int .i64 b, .int .i64 c, .int .i64 d, .int .i64 e, .int .i64 f] = aqR x := ⟨⟨a, b, c, d, e, f⟩, rfl⟩

theorem k_l13Ask {mv : Value} {ml : List Pr} (d : Dr B b cv l h) {lo hi : Nat} {ty : TypeId} (om : Own h lo hi 2 ty mv (prsL ml)) (hlo : b < lo) (hhi : hi ≤ h.length) (hl : ml.length ≤ 1048576) (hk : ∀ p ∈ ml, 0 < p.k.size ∧ p.k.size ≤ lim) : ∃ (x : Aq) (hh : Heap), C T X n_spec_l13Ask [pk b 0, mv] h = some (.agg ⟨aqR x⟩, hh) ∧ Dr B b cv l hh ∧ Fr' b h hh := by
  suffices hx : ∃ w hh, C T X n_spec_l13Ask [pk b 0, mv] h = some (w, hh) ∧ (∃ x : Aq, w = .agg ⟨aqR x⟩) ∧ Dr B b cv l hh ∧ Fr' b h hh by
    obtain ⟨w, hh, c, ⟨x, rfl⟩, r⟩ := hx
    exact ⟨x, hh, c, r⟩
  refine C_ex t_spec_l13Ask rfl ?_
  unfold F_spec_l13Ask
  obtain ⟨op, h1, c1, d1, f1, _⟩ := pick_lit (X := X) d [1, 1, 2, 2, 2, 2, 2, 3, 4, 5, 6] (by simp) (by unfold lim; simp)
  simp only [List.map_cons, List.map_nil, List.length_cons, List.length_nil, Nat.zero_add, Nat.reduceAdd] at c1
  obtain ⟨v, h2, c2, p2, L, hL, o⟩ := k_l13Ids (X := X) (w := ⟨⟨[97]⟩⟩) (om.fr f1 hlo hhi).rows hl hk
  have d2 := d1.up p2
  have f2 : Fr' b h h2 := f1.trans (Fr'.pre p2)
  have hb1 := d1.lt
  have hlen1 : L.length ≤ 1048576 := by omega
  simp only [zeros, fillAt, c1, c2, go_sem, reduceIte, Nat.reduceEqDiff, Nat.reduceAdd, Nat.reduceMul, Nat.reduceLT, Nat.reduceLeDiff, reduceCtorEq, ne_eq, Int.reduceEq, Int.reduceLT, Int.reduceLE, Int.reduceNeg, Int.reduceToNat]
  refine w_join (AskJ B b cv l h) ?_ ?_
  · unfold AskJ
    by_cases q1 : op = 1
    · obtain ⟨x, h3, c3, d3, s3, _⟩ := k_l01Below (X := X) d2 12
      simp only [q1, c3, go_sem, reduceIte, Nat.reduceEqDiff, Nat.reduceAdd, Nat.reduceMul, Nat.reduceLT, Nat.reduceLeDiff, reduceCtorEq, ne_eq, Int.reduceEq, Int.reduceLT, Int.reduceLE, Int.reduceNeg, Int.reduceToNat]
      exact ⟨aq_ex, d3, f2.trans (Fr'.same s3)⟩
    by_cases q2 : op = 2
    · -- two of the list
      have tail : ∀ (h3 : Heap) (a c : Int), Dr B b cv l h3 → Fr' b h h3 → True := fun _ _ _ _ _ => trivial
      by_cases q3 : (L.length : Int) > 1
      · obtain ⟨x, h3, c3, d3, s3, x0, x1, _⟩ := k_l01Below (X := X) d2 (L.length : Int)
        obtain ⟨i, rfl⟩ := Int.eq_ofNat_of_zero_le x0
        have hi : i < L.length := by have := x1 (by omega); omega
        have o3 := o.same s3 (.inr (by omega))
        have el := int_el o3.rows hi
        have hw1 : IntKind.i64.wrap ((i : Int) + 1) = ((i + 1 : Nat) : Int) := w64 (by omega) (by omega)
        have hw2 : IntKind.i64.wrap ((L.length : Int) - 1) = (L.length : Int) - 1 := w64 (by omega) (by omega)
        obtain ⟨y, h4, c4, d4, s4, y0, y1, _⟩ := k_l01Below (X := X) d3 ((L.length : Int) - 1)
        obtain ⟨j, rfl⟩ := Int.eq_ofNat_of_zero_le y0
        have hj : j < L.length := by have := y1 (by omega); omega
        have hw3 : IntKind.i64.wrap (((i + 1 : Nat) : Int) + (j : Int)) = ((i + 1 + j : Nat) : Int) := by rw [w64 (by omega) (by omega)]; omega
        have o4 := o3.same s4 (.inr (by omega))
        have hk : (i + 1 + j) % L.length < L.length := Nat.mod_lt _ (by omega)
        have el4 := int_el o4.rows hk
        have hmod : ((i + 1 + j : Nat) : Int).tmod (L.length : Int) = (((i + 1 + j) % L.length : Nat) : Int) := tmodN _ _
        have hne : (L.length : Int) ≠ 0 := by omega
        obtain ⟨m, h5, c5, d5, f5, _⟩ := pick_lit (X := X) d4 [3, 51] (by simp) (by unfold lim; simp)
        simp only [List.map_cons, List.map_nil, List.length_cons, List.length_nil, Nat.zero_add, Nat.reduceAdd] at c5
        obtain ⟨w1, h6, c6, d6, s6, _⟩ := k_l01Below (X := X) d5 m
        obtain ⟨w2, h7, c7, d7, s7, _⟩ := k_l01Below (X := X) d6 m
        obtain ⟨w3, h8, c8, d8, s8, _⟩ := k_l01Below (X := X) d7 m
        simp only [q2, q3, ints_ln o.rows, c3, ints_ln o3.rows, ints_ln o4.rows, el.1, el.2, hw1, hw2, c4, hw3, hne, hmod, el4.1, el4.2, zeros, fillAt, c5, c6, c7, c8, go_sem, reduceIte, Nat.reduceEqDiff, Nat.reduceAdd, Nat.reduceMul, Nat.reduceLT, Nat.reduceLeDiff, reduceCtorEq, ne_eq, Int.reduceEq, Int.reduceLT, Int.reduceLE, Int.reduceNeg, Int.reduceToNat]
        exact ⟨aq_ex, d8, (((((f2.trans (Fr'.same s3)).trans (Fr'.same s4)).trans f5).trans (Fr'.same s6)).trans (Fr'.same s7)).trans (Fr'.same s8)⟩
      · obtain ⟨m, h5, c5, d5, f5, _⟩ := pick_lit (X := X) d2 [3, 51] (by simp) (by unfold lim; simp)
        simp only [List.map_cons, List.map_nil, List.length_cons, List.length_nil, Nat.zero_add, Nat.reduceAdd] at c5
        obtain ⟨w1, h6, c6, d6, s6, _⟩ := k_l01Below (X := X) d5 m
        obtain ⟨w2, h7, c7, d7, s7, _⟩ := k_l01Below (X := X) d6 m
        obtain ⟨w3, h8, c8, d8, s8, _⟩ := k_l01Below (X := X) d7 m
        simp only [q2, q3, ints_ln o.rows, zeros, fillAt, c5, c6, c7, c8, go_sem, reduceIte, Nat.reduceEqDiff, Nat.reduceAdd, Nat.reduceMul, Nat.reduceLT, Nat.reduceLeDiff, reduceCtorEq, ne_eq, Int.reduceEq, Int.reduceLT, Int.reduceLE, Int.reduceNeg, Int.reduceToNat]
        exact ⟨aq_ex, d8, (((f2.trans f5).trans (Fr'.same s6)).trans (Fr'.same s7)).trans (Fr'.same s8)⟩
    by_cases q3 : op = 3
    · by_cases q4 : (L.length : Int) > 0
      · obtain ⟨x, h3, c3, d3, s3, x0, x1, _⟩ := k_l01Below (X := X) d2 (L.length : Int)
        obtain ⟨i, rfl⟩ := Int.eq_ofNat_of_zero_le x0
        have hi : i < L.length := by have := x1 (by omega); omega
        have o3 := o.same s3 (.inr (by omega))
        have el := int_el o3.rows hi
        simp only [q3, q4, ints_ln o.rows, c3, el.1, el.2, go_sem, reduceIte, Nat.reduceEqDiff, Nat.reduceAdd, Nat.reduceMul, Nat.reduceLT, Nat.reduceLeDiff, reduceCtorEq, ne_eq, Int.reduceEq, Int.reduceLT, Int.reduceLE, Int.reduceNeg, Int.reduceToNat]
        exact ⟨aq_ex, d3, f2.trans (Fr'.same s3)⟩
      · simp only [q3, q4, ints_ln o.rows, go_sem, reduceIte, Nat.reduceEqDiff, Nat.reduceAdd, Nat.reduceMul, Nat.reduceLT, Nat.reduceLeDiff, reduceCtorEq, ne_eq, Int.reduceEq, Int.reduceLT, Int.reduceLE, Int.reduceNeg, Int.reduceToNat]
        exact ⟨aq_ex, d2, f2⟩
    by_cases q5 : op = 5
    · obtain ⟨x, h3, c3, d3, s3, _⟩ := k_l01Below (X := X) d2 3
      simp only [q5, c3, go_sem, reduceIte, Nat.reduceEqDiff, Nat.reduceAdd, Nat.reduceMul, Nat.reduceLT, Nat.reduceLeDiff, reduceCtorEq, ne_eq, Int.reduceEq, Int.reduceLT, Int.reduceLE, Int.reduceNeg, Int.reduceToNat]
      exact ⟨aq_ex, d3, f2.trans (Fr'.same s3)⟩
    · simp only [q1, q2, q3, q5, go_sem, reduceIte, Nat.reduceEqDiff, Nat.reduceAdd, Nat.reduceMul, Nat.reduceLT, Nat.reduceLeDiff, reduceCtorEq, ne_eq, Int.reduceEq, Int.reduceLT, Int.reduceLE, Int.reduceNeg, Int.reduceToNat]
      exact ⟨aq_ex, d2, f2⟩
  rintro t loc h3 ⟨t0, l4, ⟨x, l5⟩, d3, f3⟩
  obtain ⟨y, h4, c4, d4, s4, _⟩ := k_l01Below (X := X) d3 30
  have f4 := f3.trans (Fr'.same s4)
  unfold aqR at l5
  simp only [t0, l4, l5, c4, go_sem, reduceIte, Nat.reduceEqDiff, Nat.reduceAdd, Nat.reduceMul, Nat.reduceLT, Nat.reduceLeDiff, reduceCtorEq, ne_eq, Int.reduceEq, Int.reduceLT, Int.reduceLE, Int.reduceNeg, Int.reduceToNat]
  refine w_join (AskJ' B b cv l h) ?_ ?_
  · unfold AskJ'
    by_cases q0 : y = 0
    · obtain ⟨m, h5, c5, d5, f5, _⟩ := pick_lit (X := X) d4 [-1, 11, 12, 3] (by simp) (by unfold lim; simp)
      simp only [List.map_cons, List.map_nil, List.length_cons, List.length_nil, Nat.zero_add, Nat.reduceAdd] at c5
      simp only [q0, t0, zeros, fillAt, c5, go_sem, reduceIte, Nat.reduceEqDiff, Nat.reduceAdd, Nat.reduceMul, Nat.reduceLT, Nat.reduceLeDiff, reduceCtorEq, ne_eq, Int.reduceEq, Int.reduceLT, Int.reduceLE, Int.reduceNeg, Int.reduceToNat]
      exact ⟨aq_ex, d5, f4.trans f5⟩
    by_cases q1 : y = 1
    · obtain ⟨m, h5, c5, d5, f5, _⟩ := pick_lit (X := X) d4 [-1, 50, 51] (by simp) (by unfold lim; simp)
      simp only [List.map_cons, List.map_nil, List.length_cons, List.length_nil, Nat.zero_add, Nat.reduceAdd] at c5
      simp only [q1, t0, zeros, fillAt, c5, go_sem, reduceIte, Nat.reduceEqDiff, Nat.reduceAdd, Nat.reduceMul, Nat.reduceLT, Nat.reduceLeDiff, reduceCtorEq, ne_eq, Int.reduceEq, Int.reduceLT, Int.reduceLE, Int.reduceNeg, Int.reduceToNat]
      exact ⟨aq_ex, d5, f4.trans f5⟩
    by_cases q2 : y = 2
    · simp only [q2, t0, go_sem, reduceIte, Nat.reduceEqDiff, Nat.reduceAdd, Nat.reduceMul, Nat.reduceLT, Nat.reduceLeDiff, reduceCtorEq, ne_eq, Int.reduceEq, Int.reduceLT, Int.reduceLE, Int.reduceNeg, Int.reduceToNat]
      exact ⟨aq_ex, d4, f4⟩
    by_cases q3 : y = 3
    · obtain ⟨m, h5, c5, d5, f5, _⟩ := pick_lit (X := X) d4 [0, 7] (by simp) (by unfold lim; simp)
      simp only [List.map_cons, List.map_nil, List.length_cons, List.length_nil, Nat.zero_add, Nat.reduceAdd] at c5
      simp only [q3, t0, zeros, fillAt, c5, go_sem, reduceIte, Nat.reduceEqDiff, Nat.reduceAdd, Nat.reduceMul, Nat.reduceLT, Nat.reduceLeDiff, reduceCtorEq, ne_eq, Int.reduceEq, Int.reduceLT, Int.reduceLE, Int.reduceNeg, Int.reduceToNat]
      exact ⟨aq_ex, d5, f4.trans f5⟩
    · simp only [q0, q1, q2, q3, t0, go_sem, reduceIte, Nat.reduceEqDiff, Nat.reduceAdd, Nat.reduceMul, Nat.reduceLT, Nat.reduceLeDiff, reduceCtorEq, ne_eq, Int.reduceEq, Int.reduceLT, Int.reduceLE, Int.reduceNeg, Int.reduceToNat]
      exact ⟨aq_ex, d4, f4⟩
  rintro t loc h5 ⟨l4, ⟨x, l5⟩, d5, f5⟩
  have hx := l5
  unfold aqR at hx
  simp only [l4, hx, go_sem, reduceIte, Nat.reduceEqDiff, Nat.reduceAdd, Nat.reduceMul, Nat.reduceLT, Nat.reduceLeDiff, reduceCtorEq, ne_eq, Int.reduceEq, Int.reduceLT, Int.reduceLE, Int.reduceNeg, Int.reduceToNat]
  refine ⟨?_, fin_fr d d5 f5⟩
  rw [finish_fst]
  exact ⟨x, rfl⟩
end
end Go.Proofs.Ytioogligololoaa.Ab
