/- Contracts of the laws' helpers for graphs. No conditions. -/
import Derived.Test.YtioogligololoaaH0
import Derived.Test.YtioogligololoaaK3
set_option linter.unusedSimpArgs false
set_option linter.unusedVariables false
set_option linter.unnecessarySimpa false
set_option maxHeartbeats 4000000
namespace Go.Proofs.Ytioogligololoaa.Ab
open Go.RowKit
section
variable {X : CallF} {h : Heap} {v w : Value} {es : List E} {size : Int} {n : Int}

theorem k_szGraph (he : Rows h 5 v (edges es)) (hl : es.length ≤ maxLen) (h0 : 0 ≤ n) (h1 : n ≤ 1048576) : C T X n_laws_szGraph [graphV size v, .int .i64 n] h = some (.int .i64 (szL es.length n), h) := by
  refine C_go t_laws_szGraph rfl ?_
  unfold F_laws_szGraph graphV
  simp only [k_szEdgeS he hl h0 h1, go_sem, reduceIte, Nat.reduceEqDiff, Nat.reduceAdd, Nat.reduceMul, Nat.reduceLT, Nat.reduceLeDiff, reduceCtorEq, ne_eq, Int.reduceEq, Int.reduceLT, Int.reduceLE, Int.reduceNeg, Int.reduceToNat]
  refine w_open (by simp only [go_sem, reduceIte, Nat.reduceEqDiff, Nat.reduceAdd, Nat.reduceMul, Nat.reduceLT, Nat.reduceLeDiff, reduceCtorEq, ne_eq, Int.reduceEq, Int.reduceLT, Int.reduceLE, Int.reduceNeg, Int.reduceToNat]; rfl) ?_ ?_ <;> intro hc
  · have : szL es.length n = -1 := by unfold szL at hc ⊢; split <;> omega
    simp only [this, go_sem, reduceIte, Nat.reduceEqDiff, Nat.reduceAdd, Nat.reduceMul, Nat.reduceLT, Nat.reduceLeDiff, reduceCtorEq, ne_eq, Int.reduceEq, Int.reduceLT, Int.reduceLE, Int.reduceNeg, Int.reduceToNat]
  · simp only [go_sem, reduceIte, Nat.reduceEqDiff, Nat.reduceAdd, Nat.reduceMul, Nat.reduceLT, Nat.reduceLeDiff, reduceCtorEq, ne_eq, Int.reduceEq, Int.reduceLT, Int.reduceLE, Int.reduceNeg, Int.reduceToNat]

theorem k_toGraph (he : Rows h 5 v (edges es)) (hl : es.length ≤ lim) : C T X n_laws_toGraph [graphV size v] h = some (graphV size (.slice (some ⟨h.length, 0, none⟩) es.length es.length), h ++ [⟨(edges es).flatten, 5, y_Edge, true⟩]) := by
  refine C_go t_laws_toGraph rfl ?_
  unfold F_laws_toGraph graphV
  simp only [k_toEdgeS he hl, go_sem, reduceIte, Nat.reduceEqDiff, Nat.reduceAdd, Nat.reduceMul, Nat.reduceLT, Nat.reduceLeDiff, reduceCtorEq, ne_eq, Int.reduceEq, Int.reduceLT, Int.reduceLE, Int.reduceNeg, Int.reduceToNat]
  exact finish_deep rfl

theorem k_eqGraph (he : Rows h 5 v (edges es)) (hf : Rows h 5 w (edges es)) (hl : es.length ≤ lim) : C T X n_laws_eqGraph [graphV size v, graphV size w] h = some (.bool true, h) := by
  refine C_go t_laws_eqGraph rfl ?_
  unfold F_laws_eqGraph graphV
  simp only [k_eqEdgeS he hf hl, go_sem, reduceIte, Nat.reduceEqDiff, Nat.reduceAdd, Nat.reduceMul, Nat.reduceLT, Nat.reduceLeDiff, reduceCtorEq, ne_eq, Int.reduceEq, Int.reduceLT, Int.reduceLE, Int.reduceNeg, Int.reduceToNat]

theorem k_markGraph {lo hi : Nat} (o : Own h lo hi 5 y_Edge v (edges es)) (hl : es.length ≤ lim) {k : Nat} (hk : k ≤ 2305843009213693952) : ∃ h', C T X n_laws_markGraph [graphV size v, .int .i64 (k : Int)] h = some (.int .i64 ((k + es.length * 5 : Nat) : Int), h') ∧ Same lo hi h h' := by
  obtain ⟨h', e, s, o'⟩ := k_markEdgeS (X := X) o (by simpa using hl) hk
  rw [List.length_map] at e
  refine C_exH t_laws_markGraph rfl ?_
  unfold F_laws_markGraph graphV
  simp only [e, finish_room s.len, go_sem, reduceIte, Nat.reduceEqDiff, Nat.reduceAdd, Nat.reduceMul, Nat.reduceLT, Nat.reduceLeDiff, reduceCtorEq, ne_eq, Int.reduceEq, Int.reduceLT, Int.reduceLE, Int.reduceNeg, Int.reduceToNat]
  exact s

end
end Go.Proofs.Ytioogligololoaa.Ab
