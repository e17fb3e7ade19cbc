/- The law FnExactSwapped, of arguments as they are shown. No conditions. -/
import Derived.Test.YtlndlccbecnjoaaK20
import Derived.Test.YtlndlccbecnjoaaH2
import Derived.Test.YtlndlccbecnjoaaH5
import Derived.Test.YtlndlccbecnjoaaOp3
set_option linter.unusedSimpArgs false
set_option linter.unusedVariables false
set_option linter.unnecessarySimpa false
set_option maxHeartbeats 4000000
namespace Go.Proofs.Ytlndlccbecnjoaa.Ab
open Go.RowKit
section
variable {X : CallF} {h : Heap} {ev0 : Value} {es0 : List E} {size0 : Int} {cv1 : Value} {cl1 : List Cp} {cv2 : Value} {cl2 : List Cp}

open Classical in
theorem l_Swapped (he0 : Rows h 5 ev0 (edges es0)) (hm0 : es0.length ≤ maxLen) (hs0 : I64 size0) (hc1 : Rows h 2 cv1 (cps cl1)) (hd1 : cl1.length ≤ maxLen) (hc2 : Rows h 2 cv2 (cps cl2)) (hd2 : cl2.length ≤ maxLen) : C T X n_laws_FnExactSwapped [graphV size0 ev0, cv1, cv2] h = some (.bool true, h) := by
  refine C_go t_laws_FnExactSwapped rfl ?_
  unfold F_laws_FnExactSwapped
  obtain ⟨n0, zc0, zb0, zd0⟩ := z_szGraph (X := X) (size := size0) he0 hm0 (n := 1048576) (by omega) (by omega)
  by_cases hn0 : n0 < 0
  · unfold graphV at *
    simp only [zc0, hn0, go_sem, reduceIte, Nat.reduceEqDiff, Nat.reduceAdd, Nat.reduceMul, Nat.reduceLT, Nat.reduceLeDiff, reduceCtorEq, ne_eq, Int.reduceEq, Int.reduceLT, Int.reduceLE, Int.reduceNeg, Int.reduceToNat]
  have bl0 : es0.length ≤ 1048576 := zd0 (by omega)
  obtain ⟨n1, zc1, zb1, zd1⟩ := z_szCoupleS (X := X) hc1 hd1 (n := n0) (by omega) (by omega)
  by_cases hn1 : n1 < 0
  · unfold graphV at *
    simp only [zc0, hn0, zc1, hn1, go_sem, reduceIte, Nat.reduceEqDiff, Nat.reduceAdd, Nat.reduceMul, Nat.reduceLT, Nat.reduceLeDiff, reduceCtorEq, ne_eq, Int.reduceEq, Int.reduceLT, Int.reduceLE, Int.reduceNeg, Int.reduceToNat]
  have bc1 : cl1.length ≤ 1048576 := zd1 (by omega)
  obtain ⟨n2, zc2, zb2, zd2⟩ := z_szCoupleS (X := X) hc2 hd2 (n := n1) (by omega) (by omega)
  by_cases hn2 : n2 < 0
  · unfold graphV at *
    simp only [zc0, hn0, zc1, hn1, zc2, hn2, go_sem, reduceIte, Nat.reduceEqDiff, Nat.reduceAdd, Nat.reduceMul, Nat.reduceLT, Nat.reduceLeDiff, reduceCtorEq, ne_eq, Int.reduceEq, Int.reduceLT, Int.reduceLE, Int.reduceNeg, Int.reduceToNat]
  have bc2 : cl2.length ≤ 1048576 := zd2 (by omega)
  have q0 : h <+: h := List.prefix_refl h
  obtain ⟨v1, h1, c1, p1, o1⟩ := x_toGraph (X := X) (size := size0) (he0.up q0) (by unfold lim; omega)
  have q1 := q0.trans p1
  have l1 := pre_len p1
  obtain ⟨v2, h2, c2, p2, o2⟩ := x_toCoupleS (X := X) (hc1.up q1) (by unfold lim; omega)
  have o1_2 := o1.up p2
  have q2 := q1.trans p2
  have l2 := pre_len p2
  obtain ⟨v3, h3, c3, p3, o3⟩ := x_toCoupleS (X := X) (hc2.up q2) (by unfold lim; omega)
  have o1_3 := o1_2.up p3
  have o2_3 := o2.up p3
  have q3 := q2.trans p3
  have l3 := pre_len p3
  obtain ⟨v4, h4, c4, p4, o4⟩ := k_spec_Swapped (X := X) (size := size0) o1_3.rows o2_3.rows o3.rows (by unfold lim; omega) (by omega) (by omega)
  have o1_4 := o1_3.up p4
  have o2_4 := o2_3.up p4
  have o3_4 := o3.up p4
  have q4 := q3.trans p4
  have l4 := pre_len p4
  obtain ⟨v5, h5, c5, p5, o5⟩ := x_toGraph (X := X) (size := size0) (he0.up q4) (by unfold lim; omega)
  have o4_5 := o4.up p5
  have q5 := q4.trans p5
  have l5 := pre_len p5
  obtain ⟨v6, h6, c6, p6, o6⟩ := x_toCoupleS (X := X) (hc1.up q5) (by unfold lim; omega)
  have o4_6 := o4_5.up p6
  have o5_6 := o5.up p6
  have q6 := q5.trans p6
  have l6 := pre_len p6
  obtain ⟨v7, h7, c7, p7, o7⟩ := x_toCoupleS (X := X) (hc2.up q6) (by unfold lim; omega)
  have o4_7 := o4_6.up p7
  have o5_7 := o5_6.up p7
  have o6_7 := o6.up p7
  have q7 := q6.trans p7
  have l7 := pre_len p7
  obtain ⟨v8, h8, c8, p8, o8⟩ := k_impl_Swapped (X := X) (size := size0) o5_7.rows o6_7.rows o7.rows (by unfold lim; omega) (by omega) (by omega)
  have o4_8 := o4_7.up p8
  have o5_8 := o5_7.up p8
  have o6_8 := o6_7.up p8
  have o7_8 := o7.up p8
  have q8 := q7.trans p8
  have l8 := pre_len p8
  have c9 := k_laws_eqIntSS (X := X) o8.rows o4_8.rows (swapL_bnd).1 (swapL_bnd).2.1
  obtain ⟨v10, h10, c10, p10, o10⟩ := x_toGraph (X := X) (size := size0) (he0.up q8) (by unfold lim; omega)
  have o4_10 := o4_8.up p10
  have o5_10 := o5_8.up p10
  have o6_10 := o6_8.up p10
  have o7_10 := o7_8.up p10
  have o8_10 := o8.up p10
  have q10 := q8.trans p10
  have l10 := pre_len p10
  have c11 := k_eqGraph (X := X) (size := size0) o5_10.rows o10.rows (by unfold lim; omega)
  obtain ⟨v12, h12, c12, p12, o12⟩ := x_toCoupleS (X := X) (hc1.up q10) (by unfold lim; omega)
  have o4_12 := o4_10.up p12
  have o5_12 := o5_10.up p12
  have o6_12 := o6_10.up p12
  have o7_12 := o7_10.up p12
  have o8_12 := o8_10.up p12
  have q12 := q10.trans p12
  have l12 := pre_len p12
  have c13 := k_eqCoupleS (X := X) o6_12.rows o12.rows (by unfold lim; omega)
  obtain ⟨v14, h14, c14, p14, o14⟩ := x_toCoupleS (X := X) (hc2.up q12) (by unfold lim; omega)
  have o4_14 := o4_12.up p14
  have o5_14 := o5_12.up p14
  have o6_14 := o6_12.up p14
  have o7_14 := o7_12.up p14
  have o8_14 := o8_12.up p14
  have q14 := q12.trans p14
  have l14 := pre_len p14
  have c15 := k_eqCoupleS (X := X) o7_14.rows o14.rows (by unfold lim; omega)
  obtain ⟨h16, c16, s16⟩ := k_markGraph (X := X) (size := size0) o5_14 (by unfold lim; omega) (k := 1) (by omega)
  have l16 := s16.len
  have o4_16 := o4_14.same s16 (by omega)
  have o6_16 := o6_14.same s16 (by omega)
  have o7_16 := o7_14.same s16 (by omega)
  have o8_16 := o8_14.same s16 (by omega)
  have q16 := s16.pre q14 (by omega)
  obtain ⟨h17, c17, s17⟩ := m_markCoupleS (X := X) o6_16 (by unfold lim; omega) (k := (1 + es0.length * 5)) (by omega)
  have l17 := s17.len
  have o4_17 := o4_16.same s17 (by omega)
  have o7_17 := o7_16.same s17 (by omega)
  have o8_17 := o8_16.same s17 (by omega)
  have q17 := s17.pre q16 (by omega)
  obtain ⟨h18, c18, s18⟩ := m_markCoupleS (X := X) o7_17 (by unfold lim; omega) (k := ((1 + es0.length * 5) + cl1.length * 2)) (by omega)
  have l18 := s18.len
  have o4_18 := o4_17.same s18 (by omega)
  have o8_18 := o8_17.same s18 (by omega)
  have q18 := s18.pre q17 (by omega)
  have km : ¬ ((((((1 + es0.length * 5) + cl1.length * 2) + cl2.length * 2) : Nat) : Int) < 0) := by omega
  have c19 := k_laws_eqIntSS (X := X) o8_18.rows o4_18.rows (swapL_bnd).1 (swapL_bnd).2.1
  obtain ⟨h20, c20, s20, g20⟩ := k_laws_markIntSS (X := X) o8_18 (swapL_bnd).2.2.1 (swapL_bnd).2.1 (k := 1) (by omega) (swapL_bnd).2.2.2
  have l20 := s20.len
  have o4_20 := o4_18.same s20 (by omega)
  have q20 := s20.pre q18 (by omega)
  have c21 := k_laws_heldIntSS (X := X) g20.rows (swapL_bnd).2.2.1 (swapL_bnd).2.1 (by omega) (swapL_bnd).2.2.2
  have kh : ¬ (((1 + totLL ((swapL es0 cl1 cl2 size0)) : Nat) : Int) < 0) := by omega
  obtain ⟨v22, h22, c22, p22, o22⟩ := x_toGraph (X := X) (size := size0) (he0.up q20) (by unfold lim; omega)
  have o4_22 := o4_20.up p22
  have g20_22 := g20.up p22
  have q22 := q20.trans p22
  have l22 := pre_len p22
  obtain ⟨v23, h23, c23, p23, o23⟩ := x_toCoupleS (X := X) (hc1.up q22) (by unfold lim; omega)
  have o4_23 := o4_22.up p23
  have g20_23 := g20_22.up p23
  have o22_23 := o22.up p23
  have q23 := q22.trans p23
  have l23 := pre_len p23
  obtain ⟨v24, h24, c24, p24, o24⟩ := x_toCoupleS (X := X) (hc2.up q23) (by unfold lim; omega)
  have o4_24 := o4_23.up p24
  have g20_24 := g20_23.up p24
  have o22_24 := o22_23.up p24
  have o23_24 := o23.up p24
  have q24 := q23.trans p24
  have l24 := pre_len p24
  obtain ⟨v25, h25, c25, p25, o25⟩ := k_impl_Swapped (X := X) (size := size0) o22_24.rows o23_24.rows o24.rows (by unfold lim; omega) (by omega) (by omega)
  have o4_25 := o4_24.up p25
  have g20_25 := g20_24.up p25
  have o22_25 := o22_24.up p25
  have o23_25 := o23_24.up p25
  have o24_25 := o24.up p25
  have q25 := q24.trans p25
  have l25 := pre_len p25
  have c26 := k_laws_eqIntSS (X := X) o25.rows o4_25.rows (swapL_bnd).1 (swapL_bnd).2.1
  have c27 := k_laws_heldIntSS (X := X) g20_25.rows (swapL_bnd).2.2.1 (swapL_bnd).2.1 (by omega) (swapL_bnd).2.2.2
  have one : ((1 : Nat) : Int) = 1 := rfl
  rw [one] at c16 c20 c21 c27
  unfold graphV at *
  simp only [zc0, hn0, zc1, hn1, zc2, hn2, c1, c2, c3, c4, c5, c6, c7, c8, c9, c10, c11, c12, c13, c14, c15, c16, c17, c18, km, c19, c20, c21, kh, c22, c23, c24, c25, c26, c27, List.prefix_refl, BEq.rfl, p1, p2, p3, p4, p5, p6, p7, p8, p10, p12, p14, p22, p23, p24, p25, go_sem, reduceIte, Nat.reduceEqDiff, Nat.reduceAdd, Nat.reduceMul, Nat.reduceLT, Nat.reduceLeDiff, reduceCtorEq, ne_eq, Int.reduceEq, Int.reduceLT, Int.reduceLE, Int.reduceNeg, Int.reduceToNat]
  try exact finish_flat rfl q25
end

def ps_FnExactSwapped : List (Bool × List CK) := [(true, [.int .i64, .sl [.int .i64, .int .i64, .int .i64, .int .i64, .int .i64]]), (false, [.sl [.int .i64, .int .i64]]), (false, [.sl [.int .i64, .int .i64]])]
theorem law_FnExactSwapped (h : Heap) (avs : List Value) (ha : All2 (ArgOk h) ps_FnExactSwapped avs) : C T noX n_laws_FnExactSwapped avs h = some (.bool true, h) := by
  obtain ⟨v0, r, rfl, k0, ha⟩ := ha.cons_inv
  obtain ⟨v1, r, rfl, k1, ha⟩ := ha.cons_inv
  obtain ⟨v2, r, rfl, k2, ha⟩ := ha.cons_inv
  obtain rfl := ha.nil_inv
  obtain ⟨size0, ev0, es0, rfl, hs0, he0, hm0⟩ := k0.graph
  obtain ⟨cl1, hc1, hd1, _⟩ := k1.cell.couples_inv
  obtain ⟨cl2, hc2, hd2, _⟩ := k2.cell.couples_inv
  exact l_Swapped he0 hm0 hs0 hc1 hd1 hc2 hd2
end Go.Proofs.Ytlndlccbecnjoaa.Ab
