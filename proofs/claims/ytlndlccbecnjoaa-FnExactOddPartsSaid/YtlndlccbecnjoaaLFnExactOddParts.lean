/- The law FnExactOddParts, of arguments as they are shown. No conditions. -/
import Derived.Test.YtlndlccbecnjoaaK16
import Derived.Test.YtlndlccbecnjoaaH5
import Derived.Test.YtlndlccbecnjoaaOp3
set_option linter.unusedSimpArgs false
set_option linter.unusedVariables false
set_option linter.unnecessarySimpa false
set_option maxHeartbeats 4000000
namespace Go.Proofs.Ytlndlccbecnjoaa.Ab
open Go.RowKit
section
variable {X : CallF} {h : Heap} {ev0 : Value} {es0 : List E} {size0 : Int} {iv1 : Value} {il1 : List Int}

open Classical in
theorem l_OddParts (he0 : Rows h 5 ev0 (edges es0)) (hm0 : es0.length ≤ maxLen) (hs0 : I64 size0) (hi1 : Rows h 1 iv1 (ints il1)) (hj1 : il1.length ≤ maxLen) : C T X n_laws_FnExactOddParts [graphV size0 ev0, iv1] h = some (.bool true, h) := by
  refine C_go t_laws_FnExactOddParts rfl ?_
  unfold F_laws_FnExactOddParts
  by_cases lc1 : (1048576 : Int) < il1.length
  · unfold graphV at *
    simp only [ints_ln hi1, lc1, go_sem, reduceIte, Nat.reduceEqDiff, Nat.reduceAdd, Nat.reduceMul, Nat.reduceLT, Nat.reduceLeDiff, reduceCtorEq, ne_eq, Int.reduceEq, Int.reduceLT, Int.reduceLE, Int.reduceNeg, Int.reduceToNat]
  have bi1 : il1.length ≤ 1048576 := by omega
  obtain ⟨n0, zc0, zb0, zd0⟩ := z_szGraph (X := X) (size := size0) he0 hm0 (n := 1048576) (by omega) (by omega)
  by_cases hn0 : n0 < 0
  · unfold graphV at *
    simp only [ints_ln hi1, lc1, zc0, hn0, go_sem, reduceIte, Nat.reduceEqDiff, Nat.reduceAdd, Nat.reduceMul, Nat.reduceLT, Nat.reduceLeDiff, reduceCtorEq, ne_eq, Int.reduceEq, Int.reduceLT, Int.reduceLE, Int.reduceNeg, Int.reduceToNat]
  have bl0 : es0.length ≤ 1048576 := zd0 (by omega)
  have q0 : h <+: h := List.prefix_refl h
  obtain ⟨v1, h1, c1, p1, o1⟩ := x_toGraph (X := X) (size := size0) (he0.up q0) (by unfold lim; omega)
  have q1 := q0.trans p1
  have l1 := pre_len p1
  obtain ⟨v2, h2, c2, p2, o2⟩ := x_toIntS (X := X) (hi1.up q1) (by unfold lim; omega)
  have o1_2 := o1.up p2
  have q2 := q1.trans p2
  have l2 := pre_len p2
  have c3 := k_spec_OddParts (X := X) (size := size0) o1_2.rows o2.rows (by unfold lim; omega) (by unfold lim; omega)
  obtain ⟨v4, h4, c4, p4, o4⟩ := x_toGraph (X := X) (size := size0) (he0.up q2) (by unfold lim; omega)
  have q4 := q2.trans p4
  have l4 := pre_len p4
  obtain ⟨v5, h5, c5, p5, o5⟩ := x_toIntS (X := X) (hi1.up q4) (by unfold lim; omega)
  have o4_5 := o4.up p5
  have q5 := q4.trans p5
  have l5 := pre_len p5
  have c6 := k_impl_OddParts (X := X) (size := size0) o4_5.rows o5.rows (by unfold lim; omega) (by unfold lim; omega)
  obtain ⟨v7, h7, c7, p7, o7⟩ := x_toGraph (X := X) (size := size0) (he0.up q5) (by unfold lim; omega)
  have o4_7 := o4_5.up p7
  have o5_7 := o5.up p7
  have q7 := q5.trans p7
  have l7 := pre_len p7
  have c8 := k_eqGraph (X := X) (size := size0) o4_7.rows o7.rows (by unfold lim; omega)
  obtain ⟨v9, h9, c9, p9, o9⟩ := x_toIntS (X := X) (hi1.up q7) (by unfold lim; omega)
  have o4_9 := o4_7.up p9
  have o5_9 := o5_7.up p9
  have q9 := q7.trans p9
  have l9 := pre_len p9
  have c10 := k_eqIntS (X := X) o5_9.rows o9.rows (by unfold lim; omega)
  unfold graphV at *
  simp only [ints_ln hi1, lc1, zc0, hn0, c1, c2, c3, c4, c5, c6, c7, c8, c9, c10, List.prefix_refl, BEq.rfl, p1, p2, p4, p5, p7, p9, go_sem, reduceIte, Nat.reduceEqDiff, Nat.reduceAdd, Nat.reduceMul, Nat.reduceLT, Nat.reduceLeDiff, reduceCtorEq, ne_eq, Int.reduceEq, Int.reduceLT, Int.reduceLE, Int.reduceNeg, Int.reduceToNat]
  try exact finish_flat rfl q9
end

def ps_FnExactOddParts : List (Bool × List CK) := [(true, [.int .i64, .sl [.int .i64, .int .i64, .int .i64, .int .i64, .int .i64]]), (false, [.sl [.int .i64]])]
theorem law_FnExactOddParts (h : Heap) (avs : List Value) (ha : All2 (ArgOk h) ps_FnExactOddParts avs) : C T noX n_laws_FnExactOddParts avs h = some (.bool true, h) := by
  obtain ⟨v0, r, rfl, k0, ha⟩ := ha.cons_inv
  obtain ⟨v1, r, rfl, k1, ha⟩ := ha.cons_inv
  obtain rfl := ha.nil_inv
  obtain ⟨size0, ev0, es0, rfl, hs0, he0, hm0⟩ := k0.graph
  obtain ⟨il1, hi1, hj1, _⟩ := k1.cell.ints_inv
  exact l_OddParts he0 hm0 hs0 hi1 hj1
end Go.Proofs.Ytlndlccbecnjoaa.Ab
