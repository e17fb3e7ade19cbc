/- Contracts: lists of numbers, edges. No conditions. -/
import Derived.Test.YtioogligololoaaK3
import Derived.Test.YtioogligololoaaP0
set_option linter.unusedSimpArgs false
set_option linter.unusedVariables false
set_option linter.unnecessarySimpa false
set_option maxHeartbeats 4000000
namespace Go.Proofs.Ytioogligololoaa.Ab
open Go.RowKit

/-- An edge between two vertices. -/
abbrev Join (a b : Int) (e : E) : Prop := (e.a = a ∧ e.b = b) ∨ (e.a = b ∧ e.b = a)
/-- The place of an edge between two vertices, or -1. -/
def edgeIx (l : List E) (a b : Int) : Int := firstIx (Join a b) l

section
variable {X : CallF} {h : Heap} {a v : Value} {l : List Int} {es : List E} {n x y size : Int}

theorem k_impl_hasInt (ha : Rows h 1 a (ints l)) (hl : l.length ≤ lim) : C T X n_impl_hasInt [a, .int .i64 n] h = some (.bool (decide (n ∈ l)), h) := by
  unfold lim at hl
  refine C_go t_impl_hasInt rfl ?_
  unfold F_impl_hasInt
  simp only [ints_ln ha, go_sem, reduceIte, Nat.reduceEqDiff, Nat.reduceAdd, Nat.reduceMul, Nat.reduceLT, Nat.reduceLeDiff, reduceCtorEq, ne_eq, Int.reduceEq, Int.reduceLT, Int.reduceLE, Int.reduceNeg, Int.reduceToNat]
  refine w_for l.length (fun i t loc h' => h' = h ∧ t 1 = .int .i64 n ∧ t 7 = a ∧ t 8 = .int .i64 l.length ∧ t 9 = .int .i64 i ∧ ∀ j, j < i → ¬ l.getD j 0 = n) ⟨rfl, rfl, rfl, rfl, rfl, fun j hj => by omega⟩ ?_
  rintro i t loc h' hi ⟨rfl, t1, t7, t8, t9, hall⟩
  simp only [t8, t9, go_sem, reduceIte, Nat.reduceEqDiff, Nat.reduceAdd, Nat.reduceMul, Nat.reduceLT, Nat.reduceLeDiff, reduceCtorEq, ne_eq, Int.reduceEq, Int.reduceLT, Int.reduceLE, Int.reduceNeg, Int.reduceToNat]
  refine w_open (by simp only [go_sem, reduceIte, Nat.reduceEqDiff, Nat.reduceAdd, Nat.reduceMul, Nat.reduceLT, Nat.reduceLeDiff, reduceCtorEq, ne_eq, Int.reduceEq, Int.reduceLT, Int.reduceLE, Int.reduceNeg, Int.reduceToNat]; rfl) ?_ ?_ <;> intro hc
  · have hi1 : i < l.length := by omega
    have hw : IntKind.i64.wrap ((i : Int) + 1) = ((i + 1 : Nat) : Int) := w64 (by omega) (by omega)
    have hel := int_el ha hi1
    by_cases e : l.getD i 0 = n
    · have hm : n ∈ l := e ▸ getD_mem hi1
      simp only [t1, t7, t8, t9, hel.1, hel.2, e, hm, go_sem, reduceIte, Nat.reduceEqDiff, Nat.reduceAdd, Nat.reduceMul, Nat.reduceLT, Nat.reduceLeDiff, reduceCtorEq, ne_eq, Int.reduceEq, Int.reduceLT, Int.reduceLE, Int.reduceNeg, Int.reduceToNat]
    · simp only [t1, t7, t8, t9, hel.1, hel.2, e, hw, go_sem, reduceIte, Nat.reduceEqDiff, Nat.reduceAdd, Nat.reduceMul, Nat.reduceLT, Nat.reduceLeDiff, reduceCtorEq, ne_eq, Int.reduceEq, Int.reduceLT, Int.reduceLE, Int.reduceNeg, Int.reduceToNat]
      exact ⟨hi1, below_succ hall e⟩
  · have hm : ¬ n ∈ l := not_mem_getD (d := 0) fun j hj => hall j (by omega)
    simp only [hm, go_sem, reduceIte, Nat.reduceEqDiff, Nat.reduceAdd, Nat.reduceMul, Nat.reduceLT, Nat.reduceLeDiff, reduceCtorEq, ne_eq, Int.reduceEq, Int.reduceLT, Int.reduceLE, Int.reduceNeg, Int.reduceToNat]

theorem k_spec_l03In (ha : Rows h 1 a (ints l)) (hl : l.length ≤ lim) : C T X n_spec_l03In [a, .int .i64 n] h = some (.bool (decide (n ∈ l)), h) := by
  unfold lim at hl
  refine C_go t_spec_l03In rfl ?_
  unfold F_spec_l03In
  simp only [go_sem, reduceIte, Nat.reduceEqDiff, Nat.reduceAdd, Nat.reduceMul, Nat.reduceLT, Nat.reduceLeDiff, reduceCtorEq, ne_eq, Int.reduceEq, Int.reduceLT, Int.reduceLE, Int.reduceNeg, Int.reduceToNat]
  refine w_for l.length (fun i t loc h' => h' = h ∧ t 0 = a ∧ t 1 = .int .i64 n ∧ t 5 = .int .i64 i ∧ ∀ j, j < i → ¬ l.getD j 0 = n) ⟨rfl, rfl, rfl, rfl, fun j hj => by omega⟩ ?_
  rintro i t loc h' hi ⟨rfl, t0, t1, t5, hall⟩
  simp only [t0, t5, ints_ln ha, go_sem, reduceIte, Nat.reduceEqDiff, Nat.reduceAdd, Nat.reduceMul, Nat.reduceLT, Nat.reduceLeDiff, reduceCtorEq, ne_eq, Int.reduceEq, Int.reduceLT, Int.reduceLE, Int.reduceNeg, Int.reduceToNat]
  refine w_open (by simp only [go_sem, reduceIte, Nat.reduceEqDiff, Nat.reduceAdd, Nat.reduceMul, Nat.reduceLT, Nat.reduceLeDiff, reduceCtorEq, ne_eq, Int.reduceEq, Int.reduceLT, Int.reduceLE, Int.reduceNeg, Int.reduceToNat]; rfl) ?_ ?_ <;> intro hc
  · have hi1 : i < l.length := by omega
    have hw : IntKind.i64.wrap ((i : Int) + 1) = ((i + 1 : Nat) : Int) := w64 (by omega) (by omega)
    have hel := int_el ha hi1
    by_cases e : l.getD i 0 = n
    · have hm : n ∈ l := e ▸ getD_mem hi1
      simp only [t0, t1, t5, hel.1, hel.2, e, hm, go_sem, reduceIte, Nat.reduceEqDiff, Nat.reduceAdd, Nat.reduceMul, Nat.reduceLT, Nat.reduceLeDiff, reduceCtorEq, ne_eq, Int.reduceEq, Int.reduceLT, Int.reduceLE, Int.reduceNeg, Int.reduceToNat]
    · simp only [t0, t1, t5, hel.1, hel.2, e, hw, go_sem, reduceIte, Nat.reduceEqDiff, Nat.reduceAdd, Nat.reduceMul, Nat.reduceLT, Nat.reduceLeDiff, reduceCtorEq, ne_eq, Int.reduceEq, Int.reduceLT, Int.reduceLE, Int.reduceNeg, Int.reduceToNat]
      exact ⟨hi1, below_succ hall e⟩
  · have hm : ¬ n ∈ l := not_mem_getD (d := 0) fun j hj => hall j (by omega)
    simp only [hm, go_sem, reduceIte, Nat.reduceEqDiff, Nat.reduceAdd, Nat.reduceMul, Nat.reduceLT, Nat.reduceLeDiff, reduceCtorEq, ne_eq, Int.reduceEq, Int.reduceLT, Int.reduceLE, Int.reduceNeg, Int.reduceToNat]

theorem k_impl_edgeAt (he : Rows h 5 v (edges es)) (hl : es.length ≤ lim) : C T X n_impl_edgeAt [graphV size v, .int .i64 x, .int .i64 y] h = some (.int .i64 (edgeIx es x y), h) := by
  unfold lim at hl
  refine C_go t_impl_edgeAt rfl ?_
  unfold F_impl_edgeAt graphV edgeIx
  simp only [he.lnm, go_sem, reduceIte, Nat.reduceEqDiff, Nat.reduceAdd, Nat.reduceMul, Nat.reduceLT, Nat.reduceLeDiff, reduceCtorEq, ne_eq, Int.reduceEq, Int.reduceLT, Int.reduceLE, Int.reduceNeg, Int.reduceToNat]
  refine w_for es.length (fun i t loc h' => h' = h ∧ t 1 = .int .i64 x ∧ t 2 = .int .i64 y ∧ t 10 = v ∧ t 11 = .int .i64 es.length ∧ t 12 = .int .i64 i ∧ ∀ j, j < i → ¬ Join x y (es.getD j e0)) ⟨rfl, rfl, rfl, rfl, rfl, rfl, fun j hj => by omega⟩ ?_
  rintro i t loc h' hi ⟨rfl, t1, t2, t10, t11, t12, hall⟩
  simp only [t11, t12, go_sem, reduceIte, Nat.reduceEqDiff, Nat.reduceAdd, Nat.reduceMul, Nat.reduceLT, Nat.reduceLeDiff, reduceCtorEq, ne_eq, Int.reduceEq, Int.reduceLT, Int.reduceLE, Int.reduceNeg, Int.reduceToNat]
  refine w_open (by simp only [go_sem, reduceIte, Nat.reduceEqDiff, Nat.reduceAdd, Nat.reduceMul, Nat.reduceLT, Nat.reduceLeDiff, reduceCtorEq, ne_eq, Int.reduceEq, Int.reduceLT, Int.reduceLE, Int.reduceNeg, Int.reduceToNat]; rfl) ?_ ?_ <;> intro hc
  · have hi1 : i < es.length := by omega
    have hw : IntKind.i64.wrap ((i : Int) + 1) = ((i + 1 : Nat) : Int) := w64 (by omega) (by omega)
    have hel := edge_el he hi1
    by_cases e1 : (es.getD i e0).a = x ∧ (es.getD i e0).b = y
    · have hm := firstIx_at hi1 (.inl e1 : Join x y (es.getD i e0)) hall
      simp only [t1, t2, t10, t11, t12, hel.1, hel.2.2.1, e1.1, e1.2, hm, go_sem, reduceIte, Nat.reduceEqDiff, Nat.reduceAdd, Nat.reduceMul, Nat.reduceLT, Nat.reduceLeDiff, reduceCtorEq, ne_eq, Int.reduceEq, Int.reduceLT, Int.reduceLE, Int.reduceNeg, Int.reduceToNat]
    by_cases e2 : (es.getD i e0).a = y ∧ (es.getD i e0).b = x
    · have hm := firstIx_at hi1 (.inr e2 : Join x y (es.getD i e0)) hall
      by_cases hxy : y = x
      · subst hxy; exact absurd e2 e1
      simp only [t1, t2, t10, t11, t12, hel.1, hel.2.2.1, e2.1, e2.2, hxy, hm, go_sem, reduceIte, Nat.reduceEqDiff, Nat.reduceAdd, Nat.reduceMul, Nat.reduceLT, Nat.reduceLeDiff, reduceCtorEq, ne_eq, Int.reduceEq, Int.reduceLT, Int.reduceLE, Int.reduceNeg, Int.reduceToNat]
    have hn : ¬ Join x y (es.getD i e0) := fun hj => hj.elim e1 e2
    by_cases f1 : (es.getD i e0).a = x
    · have f2 : ¬ (es.getD i e0).b = y := fun h => e1 ⟨f1, h⟩
      by_cases f3 : x = y
      · subst f3
        simp only [t1, t2, t10, t11, t12, hel.1, hel.2.2.1, f1, f2, hw, go_sem, reduceIte, Nat.reduceEqDiff, Nat.reduceAdd, Nat.reduceMul, Nat.reduceLT, Nat.reduceLeDiff, reduceCtorEq, ne_eq, Int.reduceEq, Int.reduceLT, Int.reduceLE, Int.reduceNeg, Int.reduceToNat]
        exact ⟨hi1, below_succ hall hn⟩
      · simp only [t1, t2, t10, t11, t12, hel.1, hel.2.2.1, f1, f2, f3, hw, go_sem, reduceIte, Nat.reduceEqDiff, Nat.reduceAdd, Nat.reduceMul, Nat.reduceLT, Nat.reduceLeDiff, reduceCtorEq, ne_eq, Int.reduceEq, Int.reduceLT, Int.reduceLE, Int.reduceNeg, Int.reduceToNat]
        exact ⟨hi1, below_succ hall hn⟩
    · by_cases f3 : (es.getD i e0).a = y
      · have f4 : ¬ (es.getD i e0).b = x := fun h => e2 ⟨f3, h⟩
        rw [f3] at f1
        simp only [t1, t2, t10, t11, t12, hel.1, hel.2.2.1, f1, f3, f4, hw, go_sem, reduceIte, Nat.reduceEqDiff, Nat.reduceAdd, Nat.reduceMul, Nat.reduceLT, Nat.reduceLeDiff, reduceCtorEq, ne_eq, Int.reduceEq, Int.reduceLT, Int.reduceLE, Int.reduceNeg, Int.reduceToNat]
        exact ⟨hi1, below_succ hall hn⟩
      · simp only [t1, t2, t10, t11, t12, hel.1, hel.2.2.1, f1, f3, hw, go_sem, reduceIte, Nat.reduceEqDiff, Nat.reduceAdd, Nat.reduceMul, Nat.reduceLT, Nat.reduceLeDiff, reduceCtorEq, ne_eq, Int.reduceEq, Int.reduceLT, Int.reduceLE, Int.reduceNeg, Int.reduceToNat]
        exact ⟨hi1, below_succ hall hn⟩
  · have hm : firstIx (Join x y) es = -1 := firstIx_none (d := e0) fun j hj => hall j (by omega)
    simp only [hm, go_sem, reduceIte, Nat.reduceEqDiff, Nat.reduceAdd, Nat.reduceMul, Nat.reduceLT, Nat.reduceLeDiff, reduceCtorEq, ne_eq, Int.reduceEq, Int.reduceLT, Int.reduceLE, Int.reduceNeg, Int.reduceToNat]

theorem k_spec_l08At (he : Rows h 5 v (edges es)) (hl : es.length ≤ lim) : C T X n_spec_l08At [graphV size v, .int .i64 x, .int .i64 y] h = some (.int .i64 (edgeIx es x y), h) := by
  unfold lim at hl
  refine C_go t_spec_l08At rfl ?_
  unfold F_spec_l08At graphV edgeIx
  simp only [go_sem, reduceIte, Nat.reduceEqDiff, Nat.reduceAdd, Nat.reduceMul, Nat.reduceLT, Nat.reduceLeDiff, reduceCtorEq, ne_eq, Int.reduceEq, Int.reduceLT, Int.reduceLE, Int.reduceNeg, Int.reduceToNat]
  refine w_for es.length (fun i t loc h' => h' = h ∧ loc 3 = some [.int .i64 size, v] ∧ t 1 = .int .i64 x ∧ t 2 = .int .i64 y ∧ t 7 = .int .i64 i ∧ ∀ j, j < i → ¬ Join x y (es.getD j e0)) ⟨rfl, rfl, rfl, rfl, rfl, fun j hj => by omega⟩ ?_
  rintro i t loc h' hi ⟨rfl, l3, t1, t2, t7, hall⟩
  simp only [l3, t7, he.lnm, go_sem, reduceIte, Nat.reduceEqDiff, Nat.reduceAdd, Nat.reduceMul, Nat.reduceLT, Nat.reduceLeDiff, reduceCtorEq, ne_eq, Int.reduceEq, Int.reduceLT, Int.reduceLE, Int.reduceNeg, Int.reduceToNat]
  refine w_open (by simp only [go_sem, reduceIte, Nat.reduceEqDiff, Nat.reduceAdd, Nat.reduceMul, Nat.reduceLT, Nat.reduceLeDiff, reduceCtorEq, ne_eq, Int.reduceEq, Int.reduceLT, Int.reduceLE, Int.reduceNeg, Int.reduceToNat]; rfl) ?_ ?_ <;> intro hc
  · have hi1 : i < es.length := by omega
    have hw : IntKind.i64.wrap ((i : Int) + 1) = ((i + 1 : Nat) : Int) := w64 (by omega) (by omega)
    have hel := edge_el he hi1
    by_cases e1 : (es.getD i e0).a = x ∧ (es.getD i e0).b = y
    · have hm := firstIx_at hi1 (.inl e1 : Join x y (es.getD i e0)) hall
      simp only [l3, t1, t2, t7, hel, e1.1, e1.2, hm, go_sem, reduceIte, Nat.reduceEqDiff, Nat.reduceAdd, Nat.reduceMul, Nat.reduceLT, Nat.reduceLeDiff, reduceCtorEq, ne_eq, Int.reduceEq, Int.reduceLT, Int.reduceLE, Int.reduceNeg, Int.reduceToNat]
    by_cases e2 : (es.getD i e0).a = y ∧ (es.getD i e0).b = x
    · have hm := firstIx_at hi1 (.inr e2 : Join x y (es.getD i e0)) hall
      by_cases hxy : y = x
      · subst hxy; exact absurd e2 e1
      simp only [l3, t1, t2, t7, hel, e2.1, e2.2, hxy, hm, go_sem, reduceIte, Nat.reduceEqDiff, Nat.reduceAdd, Nat.reduceMul, Nat.reduceLT, Nat.reduceLeDiff, reduceCtorEq, ne_eq, Int.reduceEq, Int.reduceLT, Int.reduceLE, Int.reduceNeg, Int.reduceToNat]
    have hn : ¬ Join x y (es.getD i e0) := fun hj => hj.elim e1 e2
    by_cases f1 : (es.getD i e0).a = x
    · have f2 : ¬ (es.getD i e0).b = y := fun h => e1 ⟨f1, h⟩
      by_cases f3 : x = y
      · subst f3
        simp only [l3, t1, t2, t7, hel, f1, f2, hw, go_sem, reduceIte, Nat.reduceEqDiff, Nat.reduceAdd, Nat.reduceMul, Nat.reduceLT, Nat.reduceLeDiff, reduceCtorEq, ne_eq, Int.reduceEq, Int.reduceLT, Int.reduceLE, Int.reduceNeg, Int.reduceToNat]
        exact ⟨hi1, below_succ hall hn⟩
      · simp only [l3, t1, t2, t7, hel, f1, f2, f3, hw, go_sem, reduceIte, Nat.reduceEqDiff, Nat.reduceAdd, Nat.reduceMul, Nat.reduceLT, Nat.reduceLeDiff, reduceCtorEq, ne_eq, Int.reduceEq, Int.reduceLT, Int.reduceLE, Int.reduceNeg, Int.reduceToNat]
        exact ⟨hi1, below_succ hall hn⟩
    · by_cases f3 : (es.getD i e0).a = y
      · have f4 : ¬ (es.getD i e0).b = x := fun h => e2 ⟨f3, h⟩
        rw [f3] at f1
        simp only [l3, t1, t2, t7, hel, f1, f3, f4, hw, go_sem, reduceIte, Nat.reduceEqDiff, Nat.reduceAdd, Nat.reduceMul, Nat.reduceLT, Nat.reduceLeDiff, reduceCtorEq, ne_eq, Int.reduceEq, Int.reduceLT, Int.reduceLE, Int.reduceNeg, Int.reduceToNat]
        exact ⟨hi1, below_succ hall hn⟩
      · simp only [l3, t1, t2, t7, hel, f1, f3, hw, go_sem, reduceIte, Nat.reduceEqDiff, Nat.reduceAdd, Nat.reduceMul, Nat.reduceLT, Nat.reduceLeDiff, reduceCtorEq, ne_eq, Int.reduceEq, Int.reduceLT, Int.reduceLE, Int.reduceNeg, Int.reduceToNat]
        exact ⟨hi1, below_succ hall hn⟩
  · have hm : firstIx (Join x y) es = -1 := firstIx_none (d := e0) fun j hj => hall j (by omega)
    simp only [hm, go_sem, reduceIte, Nat.reduceEqDiff, Nat.reduceAdd, Nat.reduceMul, Nat.reduceLT, Nat.reduceLeDiff, reduceCtorEq, ne_eq, Int.reduceEq, Int.reduceLT, Int.reduceLE, Int.reduceNeg, Int.reduceToNat]
end
end Go.Proofs.Ytioogligololoaa.Ab
