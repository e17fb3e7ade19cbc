/- The law FnExactLonely, of arguments as they are shown. No conditions. -/
import Derived.Test.YtlndlccbecnjoaaK17
import Derived.Test.YtlndlccbecnjoaaH5
import Derived.Test.YtlndlccbecnjoaaOp3
set_option linter.unusedSimpArgs false
set_option linter.unusedVariables false
set_option linter.unnecessarySimpa false
set_option maxHeartbeats 4000000
namespace Go.Proofs.Ytlndlccbecnjoaa.Ab
open Go.RowKit
section
variable {X : CallF} {h : Heap} {ev0 : Value} {es0 : List E} {size0 : Int} {cv1 : Value} {cl1 : List Cp}

open Classical in
theorem l_Lonely (he0 : Rows h 5 ev0 (edges es0)) (hm0 : es0.length ≤ maxLen) (hs0 : I64 size0) (hc1 : Rows h 2 cv1 (cps cl1)) (hd1 : cl1.length ≤ maxLen) : C T X n_laws_FnExactLonely [graphV size0 ev0, cv1] h = some (.bool true, h) := by
  refine C_go t_laws_FnExactLonely rfl ?_
  unfold F_laws_FnExactLonely
  obtain ⟨n0, zc0, zb0, zd0⟩ := z_szGraph (X := X) (size := size0) he0 hm0 (n := 1048576) (by omega) (by omega)
  by_cases hn0 : n0 < 0
  · unfold graphV at *
    simp only [zc0, hn0, go_sem, reduceIte, Nat.reduceEqDiff, Nat.reduceAdd, Nat.reduceMul, Nat.reduceLT, Nat.reduceLeDiff, reduceCtorEq, ne_eq, Int.reduceEq, Int.reduceLT, Int.reduceLE, Int.reduceNeg, Int.reduceToNat]
  have bl0 : es0.length ≤ 1048576 := zd0 (by omega)
  obtain ⟨n1, zc1, zb1, zd1⟩ := z_szCoupleS (X := X) hc1 hd1 (n := n0) (by omega) (by omega)
  by_cases hn1 : n1 < 0
  · unfold graphV at *
    simp only [zc0, hn0, zc1, hn1, go_sem, reduceIte, Nat.reduceEqDiff, Nat.reduceAdd, Nat.reduceMul, Nat.reduceLT, Nat.reduceLeDiff, reduceCtorEq, ne_eq, Int.reduceEq, Int.reduceLT, Int.reduceLE, Int.reduceNeg, Int.reduceToNat]
  have bc1 : cl1.length ≤ 1048576 := zd1 (by omega)
  have q0 : h <+: h := List.prefix_refl h
  obtain ⟨v1, h1, c1, p1, o1⟩ := x_toGraph (X := X) (size := size0) (he0.up q0) (by unfold lim; omega)
  have q1 := q0.trans p1
  have l1 := pre_len p1
  obtain ⟨v2, h2, c2, p2, o2⟩ := x_toCoupleS (X := X) (hc1.up q1) (by unfold lim; omega)
  have o1_2 := o1.up p2
  have q2 := q1.trans p2
  have l2 := pre_len p2
  obtain ⟨v3, h3, c3, p3, o3⟩ := k_spec_Lonely (X := X) (size := size0) o1_2.rows o2.rows (by unfold lim; omega) (by omega) hs0
  have o1_3 := o1_2.up p3
  have o2_3 := o2.up p3
  have q3 := q2.trans p3
  have l3 := pre_len p3
  obtain ⟨v4, h4, c4, p4, o4⟩ := x_toGraph (X := X) (size := size0) (he0.up q3) (by unfold lim; omega)
  have o3_4 := o3.up p4
  have q4 := q3.trans p4
  have l4 := pre_len p4
  obtain ⟨v5, h5, c5, p5, o5⟩ := x_toCoupleS (X := X) (hc1.up q4) (by unfold lim; omega)
  have o3_5 := o3_4.up p5
  have o4_5 := o4.up p5
  have q5 := q4.trans p5
  have l5 := pre_len p5
  obtain ⟨v6, h6, c6, p6, o6⟩ := k_impl_Lonely (X := X) (size := size0) o4_5.rows o5.rows (by unfold lim; omega) (by omega)
  have o3_6 := o3_5.up p6
  have o4_6 := o4_5.up p6
  have o5_6 := o5.up p6
  have q6 := q5.trans p6
  have l6 := pre_len p6
  have c7 := k_eqIntS (X := X) o6.rows o3_6.rows (Nat.le_trans lonelyL_len (by unfold lim; omega))
  obtain ⟨v8, h8, c8, p8, o8⟩ := x_toGraph (X := X) (size := size0) (he0.up q6) (by unfold lim; omega)
  have o3_8 := o3_6.up p8
  have o4_8 := o4_6.up p8
  have o5_8 := o5_6.up p8
  have o6_8 := o6.up p8
  have q8 := q6.trans p8
  have l8 := pre_len p8
  have c9 := k_eqGraph (X := X) (size := size0) o4_8.rows o8.rows (by unfold lim; omega)
  obtain ⟨v10, h10, c10, p10, o10⟩ := x_toCoupleS (X := X) (hc1.up q8) (by unfold lim; omega)
  have o3_10 := o3_8.up p10
  have o4_10 := o4_8.up p10
  have o5_10 := o5_8.up p10
  have o6_10 := o6_8.up p10
  have q10 := q8.trans p10
  have l10 := pre_len p10
  have c11 := k_eqCoupleS (X := X) o5_10.rows o10.rows (by unfold lim; omega)
  obtain ⟨h12, c12, s12⟩ := k_markGraph (X := X) (size := size0) o4_10 (by unfold lim; omega) (k := 1) (by omega)
  have l12 := s12.len
  have o3_12 := o3_10.same s12 (by omega)
  have o5_12 := o5_10.same s12 (by omega)
  have o6_12 := o6_10.same s12 (by omega)
  have q12 := s12.pre q10 (by omega)
  obtain ⟨h13, c13, s13⟩ := m_markCoupleS (X := X) o5_12 (by unfold lim; omega) (k := (1 + es0.length * 5)) (by omega)
  have l13 := s13.len
  have o3_13 := o3_12.same s13 (by omega)
  have o6_13 := o6_12.same s13 (by omega)
  have q13 := s13.pre q12 (by omega)
  have km : ¬ (((((1 + es0.length * 5) + cl1.length * 2) : Nat) : Int) < 0) := by omega
  have c14 := k_eqIntS (X := X) o6_13.rows o3_13.rows (Nat.le_trans lonelyL_len (by unfold lim; omega))
  obtain ⟨h15, c15, s15, g15⟩ := k_markIntS (X := X) o6_13 (by rw [ints_len]; exact (Nat.le_trans lonelyL_len (by unfold lim; omega))) (k := 1) (by omega)
  rw [ints_len] at c15 g15
  have l15 := s15.len
  have o3_15 := o3_13.same s15 (by omega)
  have q15 := s15.pre q13 (by omega)
  have c16 := k_heldIntS (X := X) (n := (lonelyL size0 es0 cl1).length) g15.rows (Nat.le_trans lonelyL_len (by unfold lim; omega)) (by omega)
  have kh : ¬ (((1 + (lonelyL size0 es0 cl1).length * 1 : Nat) : Int) < 0) := by omega
  obtain ⟨v17, h17, c17, p17, o17⟩ := x_toGraph (X := X) (size := size0) (he0.up q15) (by unfold lim; omega)
  have o3_17 := o3_15.up p17
  have g15_17 := g15.up p17
  have q17 := q15.trans p17
  have l17 := pre_len p17
  obtain ⟨v18, h18, c18, p18, o18⟩ := x_toCoupleS (X := X) (hc1.up q17) (by unfold lim; omega)
  have o3_18 := o3_17.up p18
  have g15_18 := g15_17.up p18
  have o17_18 := o17.up p18
  have q18 := q17.trans p18
  have l18 := pre_len p18
  obtain ⟨v19, h19, c19, p19, o19⟩ := k_impl_Lonely (X := X) (size := size0) o17_18.rows o18.rows (by unfold lim; omega) (by omega)
  have o3_19 := o3_18.up p19
  have g15_19 := g15_18.up p19
  have o17_19 := o17_18.up p19
  have o18_19 := o18.up p19
  have q19 := q18.trans p19
  have l19 := pre_len p19
  have c20 := k_eqIntS (X := X) o19.rows o3_19.rows (Nat.le_trans lonelyL_len (by unfold lim; omega))
  have c21 := k_heldIntS (X := X) (n := (lonelyL size0 es0 cl1).length) g15_19.rows (Nat.le_trans lonelyL_len (by unfold lim; omega)) (by omega)
  have one : ((1 : Nat) : Int) = 1 := rfl
  rw [one] at c12 c15 c16 c21
  unfold graphV at *
  simp only [zc0, hn0, zc1, hn1, c1, c2, c3, c4, c5, c6, c7, c8, c9, c10, c11, c12, c13, km, c14, c15, c16, kh, c17, c18, c19, c20, c21, List.prefix_refl, BEq.rfl, p1, p2, p3, p4, p5, p6, p8, p10, p17, p18, p19, go_sem, reduceIte, Nat.reduceEqDiff, Nat.reduceAdd, Nat.reduceMul, Nat.reduceLT, Nat.reduceLeDiff, reduceCtorEq, ne_eq, Int.reduceEq, Int.reduceLT, Int.reduceLE, Int.reduceNeg, Int.reduceToNat]
  try exact finish_flat rfl q19
end

def ps_FnExactLonely : List (Bool × List CK) := [(true, [.int .i64, .sl [.int .i64, .int .i64, .int .i64, .int .i64, .int .i64]]), (false, [.sl [.int .i64, .int .i64]])]
theorem law_FnExactLonely (h : Heap) (avs : List Value) (ha : All2 (ArgOk h) ps_FnExactLonely avs) : C T noX n_laws_FnExactLonely avs h = some (.bool true, h) := by
  obtain ⟨v0, r, rfl, k0, ha⟩ := ha.cons_inv
  obtain ⟨v1, r, rfl, k1, ha⟩ := ha.cons_inv
  obtain rfl := ha.nil_inv
  obtain ⟨size0, ev0, es0, rfl, hs0, he0, hm0⟩ := k0.graph
  obtain ⟨cl1, hc1, hd1, _⟩ := k1.cell.couples_inv
  exact l_Lonely he0 hm0 hs0 hc1 hd1
end Go.Proofs.Ytlndlccbecnjoaa.Ab
