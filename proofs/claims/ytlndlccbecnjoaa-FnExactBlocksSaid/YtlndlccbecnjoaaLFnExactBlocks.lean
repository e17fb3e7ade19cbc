/- The law FnExactBlocks, of arguments as they are shown. No conditions. -/
import Derived.Test.YtlndlccbecnjoaaK19
import Derived.Test.YtlndlccbecnjoaaH5
import Derived.Test.YtlndlccbecnjoaaOp3
set_option linter.unusedSimpArgs false
set_option linter.unusedVariables false
set_option linter.unnecessarySimpa false
set_option maxHeartbeats 4000000
namespace Go.Proofs.Ytlndlccbecnjoaa.Ab
open Go.RowKit
section
variable {X : CallF} {h : Heap} {ev0 : Value} {es0 : List E} {size0 : Int}

open Classical in
theorem l_Blocks (he0 : Rows h 5 ev0 (edges es0)) (hm0 : es0.length ≤ maxLen) (hs0 : I64 size0) : C T X n_laws_FnExactBlocks [graphV size0 ev0] h = some (.bool true, h) := by
  refine C_go t_laws_FnExactBlocks rfl ?_
  unfold F_laws_FnExactBlocks
  obtain ⟨n0, zc0, zb0, zd0⟩ := z_szGraph (X := X) (size := size0) he0 hm0 (n := 1048576) (by omega) (by omega)
  by_cases hn0 : n0 < 0
  · unfold graphV at *
    simp only [zc0, hn0, go_sem, reduceIte, Nat.reduceEqDiff, Nat.reduceAdd, Nat.reduceMul, Nat.reduceLT, Nat.reduceLeDiff, reduceCtorEq, ne_eq, Int.reduceEq, Int.reduceLT, Int.reduceLE, Int.reduceNeg, Int.reduceToNat]
  have bl0 : es0.length ≤ 1048576 := zd0 (by omega)
  have q0 : h <+: h := List.prefix_refl h
  obtain ⟨v1, h1, c1, p1, o1⟩ := x_toGraph (X := X) (size := size0) (he0.up q0) (by unfold lim; omega)
  have q1 := q0.trans p1
  have l1 := pre_len p1
  obtain ⟨v2, h2, c2, p2, o2⟩ := k_spec_Blocks (X := X) (size := size0) o1.rows (by unfold lim; omega)
  have o1_2 := o1.up p2
  have q2 := q1.trans p2
  have l2 := pre_len p2
  obtain ⟨v3, h3, c3, p3, o3⟩ := x_toGraph (X := X) (size := size0) (he0.up q2) (by unfold lim; omega)
  have o2_3 := o2.up p3
  have q3 := q2.trans p3
  have l3 := pre_len p3
  obtain ⟨v4, h4, c4, p4, o4⟩ := k_impl_Blocks (X := X) (size := size0) o3.rows (by unfold lim; omega)
  have o2_4 := o2_3.up p4
  have o3_4 := o3.up p4
  have q4 := q3.trans p4
  have l4 := pre_len p4
  have c5 := k_eqIntS (X := X) o4.rows o2_4.rows (Nat.le_trans blocksL_len (by unfold lim; omega))
  obtain ⟨v6, h6, c6, p6, o6⟩ := x_toGraph (X := X) (size := size0) (he0.up q4) (by unfold lim; omega)
  have o2_6 := o2_4.up p6
  have o3_6 := o3_4.up p6
  have o4_6 := o4.up p6
  have q6 := q4.trans p6
  have l6 := pre_len p6
  have c7 := k_eqGraph (X := X) (size := size0) o3_6.rows o6.rows (by unfold lim; omega)
  obtain ⟨h8, c8, s8⟩ := k_markGraph (X := X) (size := size0) o3_6 (by unfold lim; omega) (k := 1) (by omega)
  have l8 := s8.len
  have o2_8 := o2_6.same s8 (by omega)
  have o4_8 := o4_6.same s8 (by omega)
  have q8 := s8.pre q6 (by omega)
  have km : ¬ ((((1 + es0.length * 5) : Nat) : Int) < 0) := by omega
  have c9 := k_eqIntS (X := X) o4_8.rows o2_8.rows (Nat.le_trans blocksL_len (by unfold lim; omega))
  obtain ⟨h10, c10, s10, g10⟩ := k_markIntS (X := X) o4_8 (by rw [ints_len]; exact (Nat.le_trans blocksL_len (by unfold lim; omega))) (k := 1) (by omega)
  rw [ints_len] at c10 g10
  have l10 := s10.len
  have o2_10 := o2_8.same s10 (by omega)
  have q10 := s10.pre q8 (by omega)
  have c11 := k_heldIntS (X := X) (n := (blocksL es0 size0).length) g10.rows (Nat.le_trans blocksL_len (by unfold lim; omega)) (by omega)
  have kh : ¬ (((1 + (blocksL es0 size0).length * 1 : Nat) : Int) < 0) := by omega
  obtain ⟨v12, h12, c12, p12, o12⟩ := x_toGraph (X := X) (size := size0) (he0.up q10) (by unfold lim; omega)
  have o2_12 := o2_10.up p12
  have g10_12 := g10.up p12
  have q12 := q10.trans p12
  have l12 := pre_len p12
  obtain ⟨v13, h13, c13, p13, o13⟩ := k_impl_Blocks (X := X) (size := size0) o12.rows (by unfold lim; omega)
  have o2_13 := o2_12.up p13
  have g10_13 := g10_12.up p13
  have o12_13 := o12.up p13
  have q13 := q12.trans p13
  have l13 := pre_len p13
  have c14 := k_eqIntS (X := X) o13.rows o2_13.rows (Nat.le_trans blocksL_len (by unfold lim; omega))
  have c15 := k_heldIntS (X := X) (n := (blocksL es0 size0).length) g10_13.rows (Nat.le_trans blocksL_len (by unfold lim; omega)) (by omega)
  have one : ((1 : Nat) : Int) = 1 := rfl
  rw [one] at c8 c10 c11 c15
  unfold graphV at *
  simp only [zc0, hn0, c1, c2, c3, c4, c5, c6, c7, c8, km, c9, c10, c11, kh, c12, c13, c14, c15, List.prefix_refl, BEq.rfl, p1, p2, p3, p4, p6, p12, p13, go_sem, reduceIte, Nat.reduceEqDiff, Nat.reduceAdd, Nat.reduceMul, Nat.reduceLT, Nat.reduceLeDiff, reduceCtorEq, ne_eq, Int.reduceEq, Int.reduceLT, Int.reduceLE, Int.reduceNeg, Int.reduceToNat]
  try exact finish_flat rfl q13
end

def ps_FnExactBlocks : List (Bool × List CK) := [(true, [.int .i64, .sl [.int .i64, .int .i64, .int .i64, .int .i64, .int .i64]])]
theorem law_FnExactBlocks (h : Heap) (avs : List Value) (ha : All2 (ArgOk h) ps_FnExactBlocks avs) : C T noX n_laws_FnExactBlocks avs h = some (.bool true, h) := by
  obtain ⟨v0, r, rfl, k0, ha⟩ := ha.cons_inv
  obtain rfl := ha.nil_inv
  obtain ⟨size0, ev0, es0, rfl, hs0, he0, hm0⟩ := k0.graph
  exact l_Blocks he0 hm0 hs0
end Go.Proofs.Ytlndlccbecnjoaa.Ab
