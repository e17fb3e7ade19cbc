/- The law FnExactCertifies, of arguments as they are shown. No conditions. -/
import Derived.Test.YtlndlccbecnjoaaK25
import Derived.Test.YtlndlccbecnjoaaH6
import Derived.Test.YtlndlccbecnjoaaH5
import Derived.Test.YtlndlccbecnjoaaOp3
import Derived.Test.YtlndlccbecnjoaaOp4
set_option linter.unusedSimpArgs false
set_option linter.unusedVariables false
set_option linter.unnecessarySimpa false
set_option maxHeartbeats 4000000
namespace Go.Proofs.Ytlndlccbecnjoaa.Ab
open Go.RowKit
section
variable {X : CallF} {h : Heap} {ev0 : Value} {es0 : List E} {size0 : Int} {cv1 : Value} {cl1 : List Cp} {yv2 gv2 : Value} {ys2 : List Int} {gs2 : List Gp}

open Classical in
theorem l_Certifies (he0 : Rows h 5 ev0 (edges es0)) (hm0 : es0.length ≤ maxLen) (hs0 : I64 size0) (hc1 : Rows h 2 cv1 (cps cl1)) (hd1 : cl1.length ≤ maxLen) (hy2 : Rows h 1 yv2 (ints ys2)) (hg2 : RowsG h gv2 gs2) (hp2 : PfMax ys2 gs2) : C T X n_laws_FnExactCertifies [graphV size0 ev0, cv1, proofV yv2 gv2] h = some (.bool true, h) := by
  refine C_go t_laws_FnExactCertifies rfl ?_
  unfold F_laws_FnExactCertifies
  obtain ⟨n0, zc0, zb0, zd0⟩ := z_szGraph (X := X) (size := size0) he0 hm0 (n := 1048576) (by omega) (by omega)
  by_cases hn0 : n0 < 0
  · unfold graphV proofV at *
    simp only [zc0, hn0, go_sem, reduceIte, Nat.reduceEqDiff, Nat.reduceAdd, Nat.reduceMul, Nat.reduceLT, Nat.reduceLeDiff, reduceCtorEq, ne_eq, Int.reduceEq, Int.reduceLT, Int.reduceLE, Int.reduceNeg, Int.reduceToNat]
  have bl0 : es0.length ≤ 1048576 := zd0 (by omega)
  obtain ⟨n1, zc1, zb1, zd1⟩ := z_szCoupleS (X := X) hc1 hd1 (n := n0) (by omega) (by omega)
  by_cases hn1 : n1 < 0
  · unfold graphV proofV at *
    simp only [zc0, hn0, zc1, hn1, go_sem, reduceIte, Nat.reduceEqDiff, Nat.reduceAdd, Nat.reduceMul, Nat.reduceLT, Nat.reduceLeDiff, reduceCtorEq, ne_eq, Int.reduceEq, Int.reduceLT, Int.reduceLE, Int.reduceNeg, Int.reduceToNat]
  have bc1 : cl1.length ≤ 1048576 := zd1 (by omega)
  obtain ⟨n2, zc2, zb2, zd2⟩ := z_szProof (X := X) hy2 hg2 hp2 (n := n1) (by omega) (by omega)
  by_cases hn2 : n2 < 0
  · unfold graphV proofV at *
    simp only [zc0, hn0, zc1, hn1, zc2, hn2, go_sem, reduceIte, Nat.reduceEqDiff, Nat.reduceAdd, Nat.reduceMul, Nat.reduceLT, Nat.reduceLeDiff, reduceCtorEq, ne_eq, Int.reduceEq, Int.reduceLT, Int.reduceLE, Int.reduceNeg, Int.reduceToNat]
  have bp2 : PfBnd ys2 gs2 := zd2 (by omega)
  have q0 : h <+: h := List.prefix_refl h
  obtain ⟨v1, h1, c1, p1, o1⟩ := x_toGraph (X := X) (size := size0) (he0.up q0) (by unfold lim; omega)
  have q1 := q0.trans p1
  have l1 := pre_len p1
  obtain ⟨v2, h2, c2, p2, o2⟩ := x_toCoupleS (X := X) (hc1.up q1) (by unfold lim; omega)
  have o1_2 := o1.up p2
  have q2 := q1.trans p2
  have l2 := pre_len p2
  obtain ⟨v3, w3, h3, c3, p3, o3, o3b⟩ := x_toProof (X := X) (hy2.up q2) (hg2.up q2) bp2
  have o1_3 := o1_2.up p3
  have o2_3 := o2.up p3
  have q3 := q2.trans p3
  have l3 := pre_len p3
  have c4 := k_spec_Certifies (X := X) (size := size0) o1_3.rows o2_3.rows o3.rows o3b.rows (by unfold lim; omega) (by omega) bp2
  obtain ⟨v5, h5, c5, p5, o5⟩ := x_toGraph (X := X) (size := size0) (he0.up q3) (by unfold lim; omega)
  have q5 := q3.trans p5
  have l5 := pre_len p5
  obtain ⟨v6, h6, c6, p6, o6⟩ := x_toCoupleS (X := X) (hc1.up q5) (by unfold lim; omega)
  have o5_6 := o5.up p6
  have q6 := q5.trans p6
  have l6 := pre_len p6
  obtain ⟨v7, w7, h7, c7, p7, o7, o7b⟩ := x_toProof (X := X) (hy2.up q6) (hg2.up q6) bp2
  have o5_7 := o5_6.up p7
  have o6_7 := o6.up p7
  have q7 := q6.trans p7
  have l7 := pre_len p7
  have c8 := k_impl_Certifies (X := X) (size := size0) o5_7.rows o6_7.rows o7.rows o7b.rows (by unfold lim; omega) (by omega) bp2
  obtain ⟨v9, h9, c9, p9, o9⟩ := x_toGraph (X := X) (size := size0) (he0.up q7) (by unfold lim; omega)
  have o5_9 := o5_7.up p9
  have o6_9 := o6_7.up p9
  have o7_9 := o7.up p9
  have o7b_9 := o7b.up p9
  have q9 := q7.trans p9
  have l9 := pre_len p9
  have c10 := k_eqGraph (X := X) (size := size0) o5_9.rows o9.rows (by unfold lim; omega)
  obtain ⟨v11, h11, c11, p11, o11⟩ := x_toCoupleS (X := X) (hc1.up q9) (by unfold lim; omega)
  have o5_11 := o5_9.up p11
  have o6_11 := o6_9.up p11
  have o7_11 := o7_9.up p11
  have o7b_11 := o7b_9.up p11
  have q11 := q9.trans p11
  have l11 := pre_len p11
  have c12 := k_eqCoupleS (X := X) o6_11.rows o11.rows (by unfold lim; omega)
  obtain ⟨v13, w13, h13, c13, p13, o13, o13b⟩ := x_toProof (X := X) (hy2.up q11) (hg2.up q11) bp2
  have o5_13 := o5_11.up p13
  have o6_13 := o6_11.up p13
  have o7_13 := o7_11.up p13
  have o7b_13 := o7b_11.up p13
  have q13 := q11.trans p13
  have l13 := pre_len p13
  have c14 := k_eqProof (X := X) o7_13.rows o13.rows o7b_13.rows o13b.rows bp2
  unfold graphV proofV at *
  simp only [zc0, hn0, zc1, hn1, zc2, hn2, c1, c2, c3, c4, c5, c6, c7, c8, c9, c10, c11, c12, c13, c14, List.prefix_refl, BEq.rfl, p1, p2, p3, p5, p6, p7, p9, p11, p13, go_sem, reduceIte, Nat.reduceEqDiff, Nat.reduceAdd, Nat.reduceMul, Nat.reduceLT, Nat.reduceLeDiff, reduceCtorEq, ne_eq, Int.reduceEq, Int.reduceLT, Int.reduceLE, Int.reduceNeg, Int.reduceToNat]
  try exact finish_flat rfl q13
end

def ps_FnExactCertifies : List (Bool × List CK) := [(true, [.int .i64, .sl [.int .i64, .int .i64, .int .i64, .int .i64, .int .i64]]), (false, [.sl [.int .i64, .int .i64]]), (true, [.sl [.int .i64], .sl [.sl [.int .i64], .int .i64]])]
theorem law_FnExactCertifies (h : Heap) (avs : List Value) (ha : All2 (ArgOk h) ps_FnExactCertifies avs) : C T noX n_laws_FnExactCertifies avs h = some (.bool true, h) := by
  obtain ⟨v0, r, rfl, k0, ha⟩ := ha.cons_inv
  obtain ⟨v1, r, rfl, k1, ha⟩ := ha.cons_inv
  obtain ⟨v2, r, rfl, k2, ha⟩ := ha.cons_inv
  obtain rfl := ha.nil_inv
  obtain ⟨size0, ev0, es0, rfl, hs0, he0, hm0⟩ := k0.graph
  obtain ⟨cl1, hc1, hd1, _⟩ := k1.cell.couples_inv
  obtain ⟨yv2, gv2, ys2, gs2, rfl, hy2, hg2, hp2⟩ := k2.proof
  exact l_Certifies he0 hm0 hs0 hc1 hd1 hy2 hg2 hp2
end Go.Proofs.Ytlndlccbecnjoaa.Ab
