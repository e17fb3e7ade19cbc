/- The law FnExactBound, of arguments as they are shown. No conditions. -/
import Derived.Test.YtlndlccbecnjoaaK24
import Derived.Test.YtlndlccbecnjoaaH6
import Derived.Test.YtlndlccbecnjoaaH5
import Derived.Test.YtlndlccbecnjoaaOp3
import Derived.Test.YtlndlccbecnjoaaOp4
set_option linter.unusedSimpArgs false
set_option linter.unusedVariables false
set_option linter.unnecessarySimpa false
set_option maxHeartbeats 4000000
namespace Go.Proofs.Ytlndlccbecnjoaa.Ab
open Go.RowKit
section
variable {X : CallF} {h : Heap} {ev0 : Value} {es0 : List E} {size0 : Int} {yv1 gv1 : Value} {ys1 : List Int} {gs1 : List Gp}

open Classical in
theorem l_Bound (he0 : Rows h 5 ev0 (edges es0)) (hm0 : es0.length ≤ maxLen) (hs0 : I64 size0) (hy1 : Rows h 1 yv1 (ints ys1)) (hg1 : RowsG h gv1 gs1) (hp1 : PfMax ys1 gs1) : C T X n_laws_FnExactBound [graphV size0 ev0, proofV yv1 gv1] h = some (.bool true, h) := by
  refine C_go t_laws_FnExactBound rfl ?_
  unfold F_laws_FnExactBound
  obtain ⟨n0, zc0, zb0, zd0⟩ := z_szGraph (X := X) (size := size0) he0 hm0 (n := 1048576) (by omega) (by omega)
  by_cases hn0 : n0 < 0
  · unfold graphV proofV at *
    simp only [zc0, hn0, go_sem, reduceIte, Nat.reduceEqDiff, Nat.reduceAdd, Nat.reduceMul, Nat.reduceLT, Nat.reduceLeDiff, reduceCtorEq, ne_eq, Int.reduceEq, Int.reduceLT, Int.reduceLE, Int.reduceNeg, Int.reduceToNat]
  have bl0 : es0.length ≤ 1048576 := zd0 (by omega)
  obtain ⟨n1, zc1, zb1, zd1⟩ := z_szProof (X := X) hy1 hg1 hp1 (n := n0) (by omega) (by omega)
  by_cases hn1 : n1 < 0
  · unfold graphV proofV at *
    simp only [zc0, hn0, zc1, hn1, go_sem, reduceIte, Nat.reduceEqDiff, Nat.reduceAdd, Nat.reduceMul, Nat.reduceLT, Nat.reduceLeDiff, reduceCtorEq, ne_eq, Int.reduceEq, Int.reduceLT, Int.reduceLE, Int.reduceNeg, Int.reduceToNat]
  have bp1 : PfBnd ys1 gs1 := zd1 (by omega)
  have q0 : h <+: h := List.prefix_refl h
  obtain ⟨v1, h1, c1, p1, o1⟩ := x_toGraph (X := X) (size := size0) (he0.up q0) (by unfold lim; omega)
  have q1 := q0.trans p1
  have l1 := pre_len p1
  obtain ⟨v2, w2, h2, c2, p2, o2, o2b⟩ := x_toProof (X := X) (hy1.up q1) (hg1.up q1) bp1
  have o1_2 := o1.up p2
  have q2 := q1.trans p2
  have l2 := pre_len p2
  have c3 := k_spec_Bound (X := X) (size := size0) o1_2.rows o2.rows o2b.rows (by unfold lim; omega) bp1
  obtain ⟨v4, h4, c4, p4, o4⟩ := x_toGraph (X := X) (size := size0) (he0.up q2) (by unfold lim; omega)
  have q4 := q2.trans p4
  have l4 := pre_len p4
  obtain ⟨v5, w5, h5, c5, p5, o5, o5b⟩ := x_toProof (X := X) (hy1.up q4) (hg1.up q4) bp1
  have o4_5 := o4.up p5
  have q5 := q4.trans p5
  have l5 := pre_len p5
  have c6 := k_impl_Bound (X := X) (size := size0) o4_5.rows o5.rows o5b.rows (by unfold lim; omega) bp1
  obtain ⟨v7, h7, c7, p7, o7⟩ := x_toGraph (X := X) (size := size0) (he0.up q5) (by unfold lim; omega)
  have o4_7 := o4_5.up p7
  have o5_7 := o5.up p7
  have o5b_7 := o5b.up p7
  have q7 := q5.trans p7
  have l7 := pre_len p7
  have c8 := k_eqGraph (X := X) (size := size0) o4_7.rows o7.rows (by unfold lim; omega)
  obtain ⟨v9, w9, h9, c9, p9, o9, o9b⟩ := x_toProof (X := X) (hy1.up q7) (hg1.up q7) bp1
  have o4_9 := o4_7.up p9
  have o5_9 := o5_7.up p9
  have o5b_9 := o5b_7.up p9
  have q9 := q7.trans p9
  have l9 := pre_len p9
  have c10 := k_eqProof (X := X) o5_9.rows o9.rows o5b_9.rows o9b.rows bp1
  unfold graphV proofV at *
  simp only [zc0, hn0, zc1, hn1, c1, c2, c3, c4, c5, c6, c7, c8, c9, c10, List.prefix_refl, BEq.rfl, p1, p2, p4, p5, p7, p9, go_sem, reduceIte, Nat.reduceEqDiff, Nat.reduceAdd, Nat.reduceMul, Nat.reduceLT, Nat.reduceLeDiff, reduceCtorEq, ne_eq, Int.reduceEq, Int.reduceLT, Int.reduceLE, Int.reduceNeg, Int.reduceToNat]
  try exact finish_flat rfl q9
end

def ps_FnExactBound : List (Bool × List CK) := [(true, [.int .i64, .sl [.int .i64, .int .i64, .int .i64, .int .i64, .int .i64]]), (true, [.sl [.int .i64], .sl [.sl [.int .i64], .int .i64]])]
theorem law_FnExactBound (h : Heap) (avs : List Value) (ha : All2 (ArgOk h) ps_FnExactBound avs) : C T noX n_laws_FnExactBound avs h = some (.bool true, h) := by
  obtain ⟨v0, r, rfl, k0, ha⟩ := ha.cons_inv
  obtain ⟨v1, r, rfl, k1, ha⟩ := ha.cons_inv
  obtain rfl := ha.nil_inv
  obtain ⟨size0, ev0, es0, rfl, hs0, he0, hm0⟩ := k0.graph
  obtain ⟨yv1, gv1, ys1, gs1, rfl, hy1, hg1, hp1⟩ := k1.proof
  exact l_Bound he0 hm0 hs0 hy1 hg1 hp1
end Go.Proofs.Ytlndlccbecnjoaa.Ab
