/- Contracts: a number in bytes. No conditions. -/
import Derived.Test.YtioogligololoaaK0
import Derived.Test.YtioogligololoaaR8
set_option linter.unusedSimpArgs false
set_option linter.unusedVariables false
set_option linter.unnecessarySimpa false
set_option maxHeartbeats 4000000
namespace Go.Proofs.Ytioogligololoaa.Ab
open Go.RowKit

theorem varL_len (n : Nat) (h : n ≤ 1000000000) : (varL n).length ≤ 5 := by
  have key : ∀ k n, n < 128 ^ k → 0 < k → (varL n).length ≤ k := by
    intro k
    induction k with
    | zero => intro n _ h; omega
    | succ k ih =>
      intro n hn _
      unfold varL
      split
      · have : n / 128 < 128 ^ k := by rw [Nat.pow_succ] at hn; exact Nat.div_lt_of_lt_mul (by omega)
        have hk : 0 < k := by
          cases k with
          | zero => simp at hn; omega
          | succ k => omega
        have := ih _ this hk
        simp; omega
      · simp
  exact key 5 n (by omega) (by omega)

section
variable {X : CallF} {h : Heap}

theorem k_spec_l01Var {n : Nat} (hn : n ≤ 1000000000) : C T X n_spec_l01Var [.int .i64 n] h = some (.string (varT n), h) := by
  refine C_go t_spec_l01Var rfl ?_
  unfold F_spec_l01Var
  simp only [go_sem, reduceIte, Nat.reduceEqDiff, Nat.reduceAdd, Nat.reduceMul, Nat.reduceLT, Nat.reduceLeDiff, reduceCtorEq, ne_eq, Int.reduceEq, Int.reduceLT, Int.reduceLE, Int.reduceNeg, Int.reduceToNat]
  refine w_meas n (fun m t loc h' => ∃ pre v, t 0 = .int .i64 (m : Nat) ∧ t 3 = v ∧ Acc h 1 y_byte v (bys pre) h' ∧ pre.length + (varL m).length ≤ 5 ∧ m ≤ n ∧ pre ++ varL m = varL n) ⟨[], _, rfl, rfl, Acc.new, by have := varL_len n hn; simpa using this, Nat.le_refl _, rfl⟩ ?_
  rintro m t loc h' ⟨pre, v, t0, t3, hacc, hlen, hm, hpre⟩
  simp only [t0, t3, go_sem, reduceIte, Nat.reduceEqDiff, Nat.reduceAdd, Nat.reduceMul, Nat.reduceLT, Nat.reduceLeDiff, reduceCtorEq, ne_eq, Int.reduceEq, Int.reduceLT, Int.reduceLE, Int.reduceNeg, Int.reduceToNat]
  refine w_open (by simp only [t0, t3, go_sem, reduceIte, Nat.reduceEqDiff, Nat.reduceAdd, Nat.reduceMul, Nat.reduceLT, Nat.reduceLeDiff, reduceCtorEq, ne_eq, Int.reduceEq, Int.reduceLT, Int.reduceLE, Int.reduceNeg, Int.reduceToNat]; rfl) ?_ ?_ <;> intro hc
  · have hb : IntKind.u8.wrap (IntKind.i64.wrap (((m % 128 : Nat) : Int) + 128)) = ((m % 128 + 128 : Nat) : Int) := by rw [w64 (by omega) (by omega), wu8 (by omega) (by omega)]; omega
    have hd : IntKind.i64.wrap ((m / 128 : Nat) : Int) = ((m / 128 : Nat) : Int) := w64 (by omega) (by omega)
    have hv : varL m = ((m % 128 + 128 : Nat) : Int) :: varL (m / 128) := by rw [varL]; rw [if_pos (by omega)]
    rw [hv] at hlen hpre
    obtain ⟨v', hh', ha, hacc'⟩ := hacc.push1 [.int .u8 ((m % 128 + 128 : Nat) : Int)] rfl (by rw [bys_len]; unfold lim; simp at hlen; omega)
    simp only [t0, t3, tmod128, tdiv128, hb, hd, ha, go_sem, reduceIte, Nat.reduceEqDiff, Nat.reduceAdd, Nat.reduceMul, Nat.reduceLT, Nat.reduceLeDiff, reduceCtorEq, ne_eq, Int.reduceEq, Int.reduceLT, Int.reduceLE, Int.reduceNeg, Int.reduceToNat]
    refine ⟨m / 128, by omega, pre ++ [((m % 128 + 128 : Nat) : Int)], v', rfl, rfl, by simpa [bys] using hacc', by simp at hlen ⊢; omega, by omega, by simpa using hpre⟩
  · have hb : IntKind.u8.wrap (m : Int) = m := wu8 (by omega) (by omega)
    have hv : varL m = [(m : Int)] := by rw [varL]; rw [if_neg (by omega)]
    rw [hv] at hlen hpre
    obtain ⟨v', hh', ha, hacc'⟩ := hacc.push1 [.int .u8 (m : Int)] rfl (by rw [bys_len]; unfold lim; simp at hlen; omega)
    have hstr : strV hh' v' = some (.string (varT n)) := by
      have : Acc h 1 y_byte v' (bys (varL n)) hh' := by rw [← hpre]; simpa [bys] using hacc'
      exact this.rows.str
    simp only [t0, t3, hb, ha, hstr, go_sem, reduceIte, Nat.reduceEqDiff, Nat.reduceAdd, Nat.reduceMul, Nat.reduceLT, Nat.reduceLeDiff, reduceCtorEq, ne_eq, Int.reduceEq, Int.reduceLT, Int.reduceLE, Int.reduceNeg, Int.reduceToNat]
    exact finish_flat rfl hacc'.up

theorem k_impl_VarText {n : Int} : C T X n_impl_VarText [.int .i64 n] h = some (if 0 ≤ n ∧ n ≤ 1000000000 then .tuple ⟨[.string (varT n.toNat), .bool true]⟩ else .tuple ⟨[.string ⟨⟨[]⟩⟩, .bool false]⟩, h) := by
  refine C_go t_impl_VarText rfl ?_
  unfold F_impl_VarText
  simp only [k_impl_in, go_sem, reduceIte, Nat.reduceEqDiff, Nat.reduceAdd, Nat.reduceMul, Nat.reduceLT, Nat.reduceLeDiff, reduceCtorEq, ne_eq, Int.reduceEq, Int.reduceLT, Int.reduceLE, Int.reduceNeg, Int.reduceToNat]
  by_cases hc : 0 ≤ n ∧ n ≤ 1000000000
  rotate_left
  · have hc' : (decide (0 ≤ n) && decide (n ≤ 1000000000)) = false := by simp; omega
    simp only [hc, hc', go_sem, reduceIte, Nat.reduceEqDiff, Nat.reduceAdd, Nat.reduceMul, Nat.reduceLT, Nat.reduceLeDiff, reduceCtorEq, ne_eq, Int.reduceEq, Int.reduceLT, Int.reduceLE, Int.reduceNeg, Int.reduceToNat]
  have hc' : (decide (0 ≤ n) && decide (n ≤ 1000000000)) = true := by simp; omega
  simp only [hc, hc', go_sem, reduceIte, Nat.reduceEqDiff, Nat.reduceAdd, Nat.reduceMul, Nat.reduceLT, Nat.reduceLeDiff, reduceCtorEq, ne_eq, Int.reduceEq, Int.reduceLT, Int.reduceLE, Int.reduceNeg, Int.reduceToNat]
  obtain ⟨k, rfl⟩ := Int.eq_ofNat_of_zero_le hc.1
  have hn : k ≤ 1000000000 := by omega
  refine w_meas k (fun m t loc h' => ∃ pre v, t 0 = .int .i64 (m : Nat) ∧ t 4 = v ∧ Acc h 1 y_byte v (bys pre) h' ∧ pre.length + (varL m).length ≤ 5 ∧ m ≤ k ∧ pre ++ varL m = varL k) ⟨[], _, rfl, rfl, Acc.nil, by have := varL_len k hn; simpa using this, Nat.le_refl _, rfl⟩ ?_
  rintro m t loc h' ⟨pre, v, t0, t3, hacc, hlen, hm, hpre⟩
  simp only [t0, t3, go_sem, reduceIte, Nat.reduceEqDiff, Nat.reduceAdd, Nat.reduceMul, Nat.reduceLT, Nat.reduceLeDiff, reduceCtorEq, ne_eq, Int.reduceEq, Int.reduceLT, Int.reduceLE, Int.reduceNeg, Int.reduceToNat]
  refine w_open (by simp only [t0, t3, go_sem, reduceIte, Nat.reduceEqDiff, Nat.reduceAdd, Nat.reduceMul, Nat.reduceLT, Nat.reduceLeDiff, reduceCtorEq, ne_eq, Int.reduceEq, Int.reduceLT, Int.reduceLE, Int.reduceNeg, Int.reduceToNat]; rfl) ?_ ?_ <;> intro hc
  · have hb : IntKind.u8.wrap (IntKind.i64.wrap (((m % 128 : Nat) : Int) + 128)) = ((m % 128 + 128 : Nat) : Int) := by rw [w64 (by omega) (by omega), wu8 (by omega) (by omega)]; omega
    have hd : IntKind.i64.wrap ((m / 128 : Nat) : Int) = ((m / 128 : Nat) : Int) := w64 (by omega) (by omega)
    have hv : varL m = ((m % 128 + 128 : Nat) : Int) :: varL (m / 128) := by rw [varL]; rw [if_pos (by omega)]
    rw [hv] at hlen hpre
    obtain ⟨v', hh', ha, hacc'⟩ := hacc.push1 [.int .u8 ((m % 128 + 128 : Nat) : Int)] rfl (by rw [bys_len]; unfold lim; simp at hlen; omega)
    simp only [t0, t3, tmod128, tdiv128, hb, hd, ha, go_sem, reduceIte, Nat.reduceEqDiff, Nat.reduceAdd, Nat.reduceMul, Nat.reduceLT, Nat.reduceLeDiff, reduceCtorEq, ne_eq, Int.reduceEq, Int.reduceLT, Int.reduceLE, Int.reduceNeg, Int.reduceToNat]
    refine ⟨m / 128, by omega, pre ++ [((m % 128 + 128 : Nat) : Int)], v', rfl, rfl, by simpa [bys] using hacc', by simp at hlen ⊢; omega, by omega, by simpa using hpre⟩
  · have hb : IntKind.u8.wrap (m : Int) = m := wu8 (by omega) (by omega)
    have hv : varL m = [(m : Int)] := by rw [varL]; rw [if_neg (by omega)]
    rw [hv] at hlen hpre
    obtain ⟨v', hh', ha, hacc'⟩ := hacc.push1 [.int .u8 (m : Int)] rfl (by rw [bys_len]; unfold lim; simp at hlen; omega)
    have hstr : strV hh' v' = some (.string (varT k)) := by
      have : Acc h 1 y_byte v' (bys (varL k)) hh' := by rw [← hpre]; simpa [bys] using hacc'
      exact this.rows.str
    simp only [t0, t3, hb, ha, hstr, go_sem, reduceIte, Nat.reduceEqDiff, Nat.reduceAdd, Nat.reduceMul, Nat.reduceLT, Nat.reduceLeDiff, reduceCtorEq, ne_eq, Int.reduceEq, Int.reduceLT, Int.reduceLE, Int.reduceNeg, Int.reduceToNat]
    exact finish_flat rfl hacc'.up
end
end Go.Proofs.Ytioogligololoaa.Ab
