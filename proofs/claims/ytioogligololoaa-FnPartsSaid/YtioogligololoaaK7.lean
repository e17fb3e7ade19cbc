/- Contracts: a number is read. No conditions. -/
import Derived.Test.YtioogligololoaaK4
set_option linter.unusedSimpArgs false
set_option linter.unusedVariables false
set_option linter.unnecessarySimpa false
set_option maxHeartbeats 4000000
namespace Go.Proofs.Ytioogligololoaa.Ab
open Go.RowKit
def rvT : Option (Nat × Nat) → Value
  | some p => .tuple ⟨[.int .i64 p.1, .int .i64 p.2, .bool true]⟩
  | none => .tuple ⟨[.int .i64 0, .int .i64 0, .bool false]⟩
def rvAt (s : ByteArray) (a : Int) : Option (Nat × Nat) := if 0 ≤ a ∧ a ≤ s.size then rdVar s a.toNat else none
theorem rvAt_bnd {s : ByteArray} {a : Int} {m k : Nat} (h : rvAt s a = some (m, k)) : m ≤ 1000000000 ∧ a < k ∧ k ≤ s.size := by
  unfold rvAt rdVar at h
  split at h
  · have := rvGo_bnd h; omega
  · cases h
theorem rvGo_yes {s : ByteArray} {a f i n u : Nat} (h1 : i < s.size) (h2 : byt s i < 128) (h3 : ¬ ((byt s i = 0 ∧ a < i) ∨ 1000000000 < n + byt s i % 128 * u)) : rvGo s a (f + 1) i n u = some (n + byt s i % 128 * u, i + 1) := by
  unfold rvGo; rw [if_pos h1, if_pos h2, if_neg h3]
theorem rvGo_bad {s : ByteArray} {a f i n u : Nat} (h1 : i < s.size) (h2 : byt s i < 128) (h3 : (byt s i = 0 ∧ a < i) ∨ 1000000000 < n + byt s i % 128 * u) : rvGo s a (f + 1) i n u = none := by
  unfold rvGo; rw [if_pos h1, if_pos h2, if_pos h3]
theorem rvGo_more {s : ByteArray} {a f i n u : Nat} (h1 : i < s.size) (h2 : ¬ byt s i < 128) : rvGo s a (f + 1) i n u = rvGo s a f (i + 1) (n + byt s i % 128 * u) (u * 128) := by
  rw [rvGo, if_pos h1, if_neg h2]
theorem rvGo_out {s : ByteArray} {a f i n u : Nat} (h1 : ¬ i < s.size) : rvGo s a f i n u = none := by
  cases f with
  | zero => rfl
  | succ f => unfold rvGo; rw [if_neg h1]
section
variable {X : CallF} {h : Heap} {s : ByteArray} {a : Int}

/-- The numbers fit. -/
theorem rv_fit {n u b j : Nat} (hu : u = 128 ^ j) (hj : j < 5) (hn : n < u) (hb : b < 256) : u ≤ 268435456 ∧ b % 128 * u ≤ 127 * u ∧ n + b % 128 * u < u * 128 ∧ u * 128 = 128 ^ (j + 1) := by
  have h1 : u ≤ 128 ^ 4 := by rw [hu]; exact Nat.pow_le_pow_right (by omega) (by omega)
  have h2 : b % 128 * u ≤ 127 * u := Nat.mul_le_mul_right u (by omega)
  refine ⟨by omega, h2, by omega, by rw [hu, Nat.pow_succ]⟩

theorem k_impl_ReadVar (hs : s.size ≤ lim) (ha : I64 a) : C T X n_impl_ReadVar [.string s, .int .i64 a] h = some (rvT (rvAt s a), h) := by
  unfold lim at hs
  refine C_go t_impl_ReadVar rfl ?_
  unfold F_impl_ReadVar rvAt
  by_cases hc : 0 ≤ a ∧ a ≤ s.size
  rotate_left
  · have hc' : (decide (0 ≤ a) && decide (a ≤ (s.size : Int))) = false := by simp only [Bool.and_eq_false_iff, decide_eq_false_iff_not]; omega
    rw [if_neg hc]
    simp only [k_impl_in, hc', go_sem, reduceIte, Nat.reduceEqDiff, Nat.reduceAdd, Nat.reduceMul, Nat.reduceLT, Nat.reduceLeDiff, reduceCtorEq, ne_eq, Int.reduceEq, Int.reduceLT, Int.reduceLE, Int.reduceNeg, Int.reduceToNat]
    rfl
  have hc' : (decide (0 ≤ a) && decide (a ≤ (s.size : Int))) = true := by simp only [Bool.and_eq_true, decide_eq_true_eq]; exact hc
  rw [if_pos hc]
  obtain ⟨k, rfl⟩ := Int.eq_ofNat_of_zero_le hc.1
  rw [Int.toNat_natCast]
  have hw5 : IntKind.i64.wrap ((k : Int) + 5) = k + 5 := w64 (by omega) (by omega)
  simp only [k_impl_in, hc', go_sem, reduceIte, Nat.reduceEqDiff, Nat.reduceAdd, Nat.reduceMul, Nat.reduceLT, Nat.reduceLeDiff, reduceCtorEq, ne_eq, Int.reduceEq, Int.reduceLT, Int.reduceLE, Int.reduceNeg, Int.reduceToNat]
  refine w_for 5 (fun j t loc h' => h' = h ∧ t 0 = .string s ∧ t 1 = .int .i64 k ∧ t 9 = .int .i64 (k + j : Nat) ∧ ∃ n u : Nat, t 7 = .int .i64 n ∧ t 8 = .int .i64 u ∧ u = 128 ^ j ∧ n < u ∧ rdVar s k = rvGo s k (5 - j) (k + j) n u) ⟨rfl, rfl, rfl, rfl, 0, 1, rfl, rfl, rfl, by omega, rfl⟩ ?_
  rintro j t loc h' hj ⟨rfl, t0, t1, t9, n, u, t7, t8, hu, hn, hr⟩
  by_cases h1 : k + j < s.size
  rotate_left
  · have h1' : ¬ ((k + j : Nat) : Int) < (s.size : Int) := by omega
    rw [rvGo_out h1] at hr
    simp only [t0, t1, t7, t8, t9, h1', hw5, hr, go_sem, reduceIte, Nat.reduceEqDiff, Nat.reduceAdd, Nat.reduceMul, Nat.reduceLT, Nat.reduceLeDiff, reduceCtorEq, ne_eq, Int.reduceEq, Int.reduceLT, Int.reduceLE, Int.reduceNeg, Int.reduceToNat]
    rfl
  have h1' : ((k + j : Nat) : Int) < (s.size : Int) := by omega
  by_cases h2 : j < 5
  rotate_left
  · have h2' : ¬ ((k + j : Nat) : Int) < (k : Int) + 5 := by omega
    have : j = 5 := by omega
    subst this
    have hr' : rdVar s k = none := hr
    simp only [t0, t1, t7, t8, t9, h1', h2', hw5, hr', go_sem, reduceIte, Nat.reduceEqDiff, Nat.reduceAdd, Nat.reduceMul, Nat.reduceLT, Nat.reduceLeDiff, reduceCtorEq, ne_eq, Int.reduceEq, Int.reduceLT, Int.reduceLE, Int.reduceNeg, Int.reduceToNat]
    rfl
  have h2' : ((k + j : Nat) : Int) < (k : Int) + 5 := by omega
  obtain ⟨b, hb⟩ : ∃ b, b = byt s (k + j) := ⟨_, rfl⟩
  have hb256 : b < 256 := by rw [hb]; exact byt_lt
  obtain ⟨f1, f2, f3, f4⟩ := rv_fit hu h2 hn hb256
  have hix := ix_byt h1
  rw [← hb] at hix
  have hwb : IntKind.i64.wrap (b : Int) = b := w64 (by omega) (by omega)
  have hm1 : IntKind.i64.wrap (((b % 128 : Nat) : Int) * (u : Int)) = ((b % 128 * u : Nat) : Int) := by rw [← Int.natCast_mul]; exact w64 (by omega) (by omega)
  have hm2 : IntKind.i64.wrap ((n : Int) + ((b % 128 * u : Nat) : Int)) = ((n + b % 128 * u : Nat) : Int) := w64 (by omega) (by omega)
  have hm3 : IntKind.i64.wrap ((u : Int) * 128) = ((u * 128 : Nat) : Int) := w64 (by omega) (by omega)
  have hnx : IntKind.i64.wrap (((k + j : Nat) : Int) + 1) = ((k + (j + 1) : Nat) : Int) := w64 (by omega) (by omega)
  have e5 : 5 - j = (5 - (j + 1)) + 1 := by omega
  rw [e5] at hr
  by_cases h3 : b < 128
  rotate_left
  · have h3' : ¬ (b : Int) < 128 := by omega
    rw [rvGo_more h1 (by rw [← hb]; exact h3), ← hb] at hr
    simp only [t0, t1, t7, t8, t9, h1', h2', hw5, hix, hwb, tmod128, hm1, hm2, hm3, h3', hnx, go_sem, reduceIte, Nat.reduceEqDiff, Nat.reduceAdd, Nat.reduceMul, Nat.reduceLT, Nat.reduceLeDiff, reduceCtorEq, ne_eq, Int.reduceEq, Int.reduceLT, Int.reduceLE, Int.reduceNeg, Int.reduceToNat]
    exact ⟨h2, _, _, rfl, rfl, f4, f3, hr⟩
  have h3' : (b : Int) < 128 := by omega
  by_cases h4 : 1000000000 < n + b % 128 * u
  · have h4' : (1000000000 : Int) < ((n + b % 128 * u : Nat) : Int) := by omega
    rw [rvGo_bad h1 (by rw [← hb]; exact h3) (by rw [← hb]; exact .inr h4)] at hr
    by_cases h5 : b = 0
    · by_cases h6 : 0 < j
      · have h6' : (k : Int) < ((k + j : Nat) : Int) := by omega
        simp only [t0, t1, t7, t8, t9, h1', h2', hw5, hix, hwb, tmod128, hm1, hm2, hm3, h3', decide_eq_true (show ((b : Nat) : Int) = 0 by omega), h6', hr, go_sem, reduceIte, Nat.reduceEqDiff, Nat.reduceAdd, Nat.reduceMul, Nat.reduceLT, Nat.reduceLeDiff, reduceCtorEq, ne_eq, Int.reduceEq, Int.reduceLT, Int.reduceLE, Int.reduceNeg, Int.reduceToNat]
        rfl
      · have h6' : ¬ (k : Int) < ((k + j : Nat) : Int) := by omega
        simp only [t0, t1, t7, t8, t9, h1', h2', hw5, hix, hwb, tmod128, hm1, hm2, hm3, h3', decide_eq_true (show ((b : Nat) : Int) = 0 by omega), h6', h4', hr, go_sem, reduceIte, Nat.reduceEqDiff, Nat.reduceAdd, Nat.reduceMul, Nat.reduceLT, Nat.reduceLeDiff, reduceCtorEq, ne_eq, Int.reduceEq, Int.reduceLT, Int.reduceLE, Int.reduceNeg, Int.reduceToNat]
        rfl
    · have h5' : ¬ ((b : Nat) : Int) = 0 := by omega
      simp only [t0, t1, t7, t8, t9, h1', h2', hw5, hix, hwb, tmod128, hm1, hm2, hm3, h3', h5', h4', hr, go_sem, reduceIte, Nat.reduceEqDiff, Nat.reduceAdd, Nat.reduceMul, Nat.reduceLT, Nat.reduceLeDiff, reduceCtorEq, ne_eq, Int.reduceEq, Int.reduceLT, Int.reduceLE, Int.reduceNeg, Int.reduceToNat]
      rfl
  have h4' : ¬ (1000000000 : Int) < ((n + b % 128 * u : Nat) : Int) := by omega
  by_cases h5 : b = 0
  · by_cases h6 : 0 < j
    · have h6' : (k : Int) < ((k + j : Nat) : Int) := by omega
      rw [rvGo_bad h1 (by rw [← hb]; exact h3) (by rw [← hb]; exact .inl ⟨h5, by omega⟩)] at hr
      simp only [t0, t1, t7, t8, t9, h1', h2', hw5, hix, hwb, tmod128, hm1, hm2, hm3, h3', decide_eq_true (show ((b : Nat) : Int) = 0 by omega), h6', hr, go_sem, reduceIte, Nat.reduceEqDiff, Nat.reduceAdd, Nat.reduceMul, Nat.reduceLT, Nat.reduceLeDiff, reduceCtorEq, ne_eq, Int.reduceEq, Int.reduceLT, Int.reduceLE, Int.reduceNeg, Int.reduceToNat]
      rfl
    · have h6' : ¬ (k : Int) < ((k + j : Nat) : Int) := by omega
      rw [rvGo_yes h1 (by rw [← hb]; exact h3) (by rw [← hb]; omega), ← hb] at hr
      simp only [t0, t1, t7, t8, t9, h1', h2', hw5, hix, hwb, tmod128, hm1, hm2, hm3, h3', decide_eq_true (show ((b : Nat) : Int) = 0 by omega), h6', h4', hnx, hr, go_sem, reduceIte, Nat.reduceEqDiff, Nat.reduceAdd, Nat.reduceMul, Nat.reduceLT, Nat.reduceLeDiff, reduceCtorEq, ne_eq, Int.reduceEq, Int.reduceLT, Int.reduceLE, Int.reduceNeg, Int.reduceToNat]
      rfl
  · have h5' : ¬ ((b : Nat) : Int) = 0 := by omega
    rw [rvGo_yes h1 (by rw [← hb]; exact h3) (by rw [← hb]; omega), ← hb] at hr
    simp only [t0, t1, t7, t8, t9, h1', h2', hw5, hix, hwb, tmod128, hm1, hm2, hm3, h3', h5', h4', hnx, hr, go_sem, reduceIte, Nat.reduceEqDiff, Nat.reduceAdd, Nat.reduceMul, Nat.reduceLT, Nat.reduceLeDiff, reduceCtorEq, ne_eq, Int.reduceEq, Int.reduceLT, Int.reduceLE, Int.reduceNeg, Int.reduceToNat]
    rfl

theorem k_spec_ReadVar (hs : s.size ≤ lim) (ha : I64 a) : C T X n_spec_ReadVar [.string s, .int .i64 a] h = some (rvT (rvAt s a), h) := by
  unfold lim at hs
  refine C_go t_spec_ReadVar rfl ?_
  unfold F_spec_ReadVar rvAt
  by_cases hc : 0 ≤ a ∧ a ≤ s.size
  rotate_left
  · have hc' : (decide (0 ≤ a) && decide (a ≤ (s.size : Int))) = false := by simp only [Bool.and_eq_false_iff, decide_eq_false_iff_not]; omega
    rw [if_neg hc]
    simp only [k_spec_l01In, hc', go_sem, reduceIte, Nat.reduceEqDiff, Nat.reduceAdd, Nat.reduceMul, Nat.reduceLT, Nat.reduceLeDiff, reduceCtorEq, ne_eq, Int.reduceEq, Int.reduceLT, Int.reduceLE, Int.reduceNeg, Int.reduceToNat]
    rfl
  have hc' : (decide (0 ≤ a) && decide (a ≤ (s.size : Int))) = true := by simp only [Bool.and_eq_true, decide_eq_true_eq]; exact hc
  rw [if_pos hc]
  obtain ⟨k, rfl⟩ := Int.eq_ofNat_of_zero_le hc.1
  rw [Int.toNat_natCast]
  have hw5 : IntKind.i64.wrap ((k : Int) + 5) = k + 5 := w64 (by omega) (by omega)
  simp only [k_spec_l01In, hc', go_sem, reduceIte, Nat.reduceEqDiff, Nat.reduceAdd, Nat.reduceMul, Nat.reduceLT, Nat.reduceLeDiff, reduceCtorEq, ne_eq, Int.reduceEq, Int.reduceLT, Int.reduceLE, Int.reduceNeg, Int.reduceToNat]
  refine w_for 5 (fun j t loc h' => h' = h ∧ t 0 = .string s ∧ t 1 = .int .i64 k ∧ t 9 = .int .i64 (k + j : Nat) ∧ (∀ x ∈ segN s k (k + j), 128 ≤ x ∧ x < 256) ∧ k + j ≤ s.size ∧ ∃ n u : Nat, t 7 = .int .i64 n ∧ t 8 = .int .i64 u ∧ u = 128 ^ j ∧ n < u ∧ n = valB (segN s k (k + j)) ∧ (segN s k (k + j)).length = j ∧ rdVar s k = rvGo s k (5 - j) (k + j) n u)
    ⟨rfl, rfl, rfl, rfl, (by rw [Nat.add_zero, segN_nil]; intro x hx; cases hx), by omega, 0, 1, rfl, rfl, rfl, by omega, by rw [Nat.add_zero, segN_nil]; rfl, by rw [Nat.add_zero, segN_nil]; rfl, rfl⟩ ?_
  rintro j t loc h' hj ⟨rfl, t0, t1, t9, hall, hle, n, u, t7, t8, hu, hn, hval, hsl, hr⟩
  by_cases h1 : k + j < s.size
  rotate_left
  · have h1' : ¬ ((k + j : Nat) : Int) < (s.size : Int) := by omega
    rw [rvGo_out h1] at hr
    simp only [t0, t1, t7, t8, t9, h1', hw5, hr, go_sem, reduceIte, Nat.reduceEqDiff, Nat.reduceAdd, Nat.reduceMul, Nat.reduceLT, Nat.reduceLeDiff, reduceCtorEq, ne_eq, Int.reduceEq, Int.reduceLT, Int.reduceLE, Int.reduceNeg, Int.reduceToNat]
    rfl
  have h1' : ((k + j : Nat) : Int) < (s.size : Int) := by omega
  by_cases h2 : j < 5
  rotate_left
  · have h2' : ¬ ((k + j : Nat) : Int) < (k : Int) + 5 := by omega
    have : j = 5 := by omega
    subst this
    have hr' : rdVar s k = none := hr
    simp only [t0, t1, t7, t8, t9, h1', h2', hw5, hr', go_sem, reduceIte, Nat.reduceEqDiff, Nat.reduceAdd, Nat.reduceMul, Nat.reduceLT, Nat.reduceLeDiff, reduceCtorEq, ne_eq, Int.reduceEq, Int.reduceLT, Int.reduceLE, Int.reduceNeg, Int.reduceToNat]
    rfl
  have h2' : ((k + j : Nat) : Int) < (k : Int) + 5 := by omega
  obtain ⟨b, hb⟩ : ∃ b, b = byt s (k + j) := ⟨_, rfl⟩
  have hb256 : b < 256 := by rw [hb]; exact byt_lt
  obtain ⟨f1, f2, f3, f4⟩ := rv_fit hu h2 hn hb256
  have hix := ix_byt h1
  rw [← hb] at hix
  have hsg := segN_succ (s := s) (a := k) (b := k + j) (by omega) h1
  rw [← hb] at hsg
  have hvs : valB (segN s k (k + j + 1)) = n + b % 128 * u := by
    rw [hsg, valB_snoc, hsl, ← hval, ← hu, Int.toNat_natCast]
  have hwb : IntKind.i64.wrap (b : Int) = b := w64 (by omega) (by omega)
  have hm1 : IntKind.i64.wrap (((b % 128 : Nat) : Int) * (u : Int)) = ((b % 128 * u : Nat) : Int) := by rw [← Int.natCast_mul]; exact w64 (by omega) (by omega)
  have hm2 : IntKind.i64.wrap ((n : Int) + ((b % 128 * u : Nat) : Int)) = ((n + b % 128 * u : Nat) : Int) := w64 (by omega) (by omega)
  have hm3 : IntKind.i64.wrap ((u : Int) * 128) = ((u * 128 : Nat) : Int) := w64 (by omega) (by omega)
  have hnx : IntKind.i64.wrap (((k + j : Nat) : Int) + 1) = ((k + (j + 1) : Nat) : Int) := w64 (by omega) (by omega)
  have e5 : 5 - j = (5 - (j + 1)) + 1 := by omega
  rw [e5] at hr
  by_cases h3 : b < 128
  rotate_left
  · have h3' : ¬ (b : Int) < 128 := by omega
    rw [rvGo_more h1 (by rw [← hb]; exact h3), ← hb] at hr
    simp only [t0, t1, t7, t8, t9, h1', h2', hw5, hix, hwb, tmod128, hm1, hm2, hm3, h3', hnx, go_sem, reduceIte, Nat.reduceEqDiff, Nat.reduceAdd, Nat.reduceMul, Nat.reduceLT, Nat.reduceLeDiff, reduceCtorEq, ne_eq, Int.reduceEq, Int.reduceLT, Int.reduceLE, Int.reduceNeg, Int.reduceToNat]
    refine ⟨h2, ?_, by omega, _, _, rfl, rfl, f4, f3, hvs.symm, ?_, hr⟩
    · intro x hx
      rw [← Nat.add_assoc, hsg] at hx
      rcases List.mem_append.1 hx with hx | hx
      · exact hall x hx
      · rw [List.mem_singleton.1 hx]; omega
    · rw [← Nat.add_assoc, hsg, List.length_append, hsl]; rfl
  have h3' : (b : Int) < 128 := by omega
  by_cases h4 : 1000000000 < n + b % 128 * u
  · have h4' : (1000000000 : Int) < ((n + b % 128 * u : Nat) : Int) := by omega
    rw [rvGo_bad h1 (by rw [← hb]; exact h3) (by rw [← hb]; exact .inr h4)] at hr
    simp only [t0, t1, t7, t8, t9, h1', h2', hw5, hix, hwb, tmod128, hm1, hm2, hm3, h3', h4', hr, go_sem, reduceIte, Nat.reduceEqDiff, Nat.reduceAdd, Nat.reduceMul, Nat.reduceLT, Nat.reduceLeDiff, reduceCtorEq, ne_eq, Int.reduceEq, Int.reduceLT, Int.reduceLE, Int.reduceNeg, Int.reduceToNat]
    rfl
  have h4' : ¬ (1000000000 : Int) < ((n + b % 128 * u : Nat) : Int) := by omega
  have cv := k_spec_l01Var (X := X) (h := h') (n := n + b % 128 * u) (by omega)
  have hslS : slSV (.string s) (some (.int .i64 (k : Int))) (some (.int .i64 ((k + (j + 1) : Nat) : Int))) = some (.string (s.extract k (k + (j + 1)))) := by
    simp only [slSV, bnd]
    rw [if_pos ⟨by omega, by omega, by omega⟩, Int.toNat_natCast, Int.toNat_natCast]
  have hform := varL_form (l := segN s k (k + j)) (b := (b : Int)) hall ⟨by omega, by omega⟩
  rw [← hsg, hvs] at hform
  have heq : (varT (n + b % 128 * u) = s.extract k (k + (j + 1))) ↔ ¬ (b = 0 ∧ 0 < j) := by
    rw [extract_seg, ← Nat.add_assoc]
    unfold varT
    constructor
    · intro h
      have := hform.1 (strOfNums_inj (varL_rng _ _ (Nat.lt_succ_self _)) segN_rng h)
      rintro ⟨h5, h6⟩
      rcases this with q | q
      · rw [q] at hsl; simp at hsl; omega
      · omega
    · intro h
      rw [hform.2]
      by_cases h5 : j = 0
      · refine .inl (List.length_eq_zero_iff.1 ?_)
        omega
      · exact .inr (by omega)
  by_cases h5 : b = 0 ∧ 0 < j
  · have hne : (decide (varT (n + b % 128 * u) = s.extract k (k + (j + 1)))) = false := decide_eq_false fun h => heq.1 h h5
    rw [rvGo_bad h1 (by rw [← hb]; exact h3) (by rw [← hb]; exact .inl ⟨h5.1, by omega⟩)] at hr
    simp only [t0, t1, t7, t8, t9, h1', h2', hw5, hix, hwb, tmod128, hm1, hm2, hm3, h3', h4', hnx, cv, hslS, str_eq, hne, hr, List.prefix_refl, go_sem, reduceIte, Nat.reduceEqDiff, Nat.reduceAdd, Nat.reduceMul, Nat.reduceLT, Nat.reduceLeDiff, reduceCtorEq, ne_eq, Int.reduceEq, Int.reduceLT, Int.reduceLE, Int.reduceNeg, Int.reduceToNat]
    rfl
  · have hne : (decide (varT (n + b % 128 * u) = s.extract k (k + (j + 1)))) = true := decide_eq_true (heq.2 h5)
    rw [rvGo_yes h1 (by rw [← hb]; exact h3) (by rw [← hb]; omega), ← hb] at hr
    simp only [t0, t1, t7, t8, t9, h1', h2', hw5, hix, hwb, tmod128, hm1, hm2, hm3, h3', h4', hnx, cv, hslS, str_eq, hne, hr, List.prefix_refl, go_sem, reduceIte, Nat.reduceEqDiff, Nat.reduceAdd, Nat.reduceMul, Nat.reduceLT, Nat.reduceLeDiff, reduceCtorEq, ne_eq, Int.reduceEq, Int.reduceLT, Int.reduceLE, Int.reduceNeg, Int.reduceToNat]
    rfl
end
end Go.Proofs.Ytioogligololoaa.Ab
