/- The law FnExactMostCouples, of arguments as they are shown. No conditions. -/
import Derived.Test.YtioogligololoaaK31
import Derived.Test.YtioogligololoaaH5
import Derived.Test.YtioogligololoaaOp3
set_option linter.unusedSimpArgs false
set_option linter.unusedVariables false
set_option linter.unnecessarySimpa false
set_option maxHeartbeats 4000000
namespace Go.Proofs.Ytioogligololoaa.Ab
open Go.RowKit
section
variable {X : CallF} {h : Heap} {ev0 : Value} {es0 : List E} {size0 : Int}

open Classical in
theorem l_MostCouples (he0 : Rows h 5 ev0 (edges es0)) (hm0 : es0.length ≤ maxLen) (hs0 : I64 size0) : C T X n_laws_FnExactMostCouples [graphV size0 ev0] h = some (.bool true, h) := by
  refine C_go t_laws_FnExactMostCouples rfl ?_
  unfold F_laws_FnExactMostCouples
  obtain ⟨n0, zc0, zb0, zd0⟩ := z_szGraph (X := X) (size := size0) he0 hm0 (n := 1048576) (by omega) (by omega)
  by_cases hn0 : n0 < 0
  · unfold graphV at *
    simp only [zc0, hn0, go_sem, reduceIte, Nat.reduceEqDiff, Nat.reduceAdd, Nat.reduceMul, Nat.reduceLT, Nat.reduceLeDiff, reduceCtorEq, ne_eq, Int.reduceEq, Int.reduceLT, Int.reduceLE, Int.reduceNeg, Int.reduceToNat]
  have bl0 : es0.length ≤ 1048576 := zd0 (by omega)
  have q0 : h <+: h := List.prefix_refl h
  obtain ⟨v1, h1, c1, p1, o1⟩ := x_toGraph (X := X) (size := size0) (he0.up q0) (by unfold lim; omega)
  have q1 := q0.trans p1
  have l1 := pre_len p1
  have c2 := k_spec_MostCouples (X := X) (size := size0) o1.rows (by unfold lim; omega)
  obtain ⟨v3, h3, c3, p3, o3⟩ := x_toGraph (X := X) (size := size0) (he0.up q1) (by unfold lim; omega)
  have q3 := q1.trans p3
  have l3 := pre_len p3
  have c4 := k_impl_MostCouples (X := X) (size := size0) o3.rows (by unfold lim; omega)
  obtain ⟨v5, h5, c5, p5, o5⟩ := x_toGraph (X := X) (size := size0) (he0.up q3) (by unfold lim; omega)
  have o3_5 := o3.up p5
  have q5 := q3.trans p5
  have l5 := pre_len p5
  have c6 := k_eqGraph (X := X) (size := size0) o3_5.rows o5.rows (by unfold lim; omega)
  unfold graphV at *
  simp only [zc0, hn0, c1, c2, c3, c4, c5, c6, List.prefix_refl, BEq.rfl, p1, p3, p5, go_sem, reduceIte, Nat.reduceEqDiff, Nat.reduceAdd, Nat.reduceMul, Nat.reduceLT, Nat.reduceLeDiff, reduceCtorEq, ne_eq, Int.reduceEq, Int.reduceLT, Int.reduceLE, Int.reduceNeg, Int.reduceToNat]
  try exact finish_flat rfl q5
end

def ps_FnExactMostCouples : List (Bool × List CK) := [(true, [.int .i64, .sl [.int .i64, .int .i64, .int .i64, .int .i64, .int .i64]])]
theorem law_FnExactMostCouples (h : Heap) (avs : List Value) (ha : All2 (ArgOk h) ps_FnExactMostCouples avs) : C T noX n_laws_FnExactMostCouples avs h = some (.bool true, h) := by
  obtain ⟨v0, r, rfl, k0, ha⟩ := ha.cons_inv
  obtain rfl := ha.nil_inv
  obtain ⟨size0, ev0, es0, rfl, hs0, he0, hm0⟩ := k0.graph
  exact l_MostCouples he0 hm0 hs0
end Go.Proofs.Ytioogligololoaa.Ab
