/- Contracts: a deed. No conditions. -/
import Derived.Test.YtlndlccbecnjoaaK1
import Derived.Test.YtlndlccbecnjoaaK0
import Derived.Test.YtlndlccbecnjoaaR1
namespace Go.Proofs.Ytlndlccbecnjoaa.Ab
set_option linter.unusedSimpArgs false
set_option linter.unusedVariables false
set_option linter.unnecessarySimpa false
open Go.RowKit
section
variable {X : CallF} {h : Heap} {a b : Value} {l m : List Int}

theorem k_toIntS (ha : Rows h 1 a (ints l)) (hl : l.length ≤ lim) : C T X n_laws_toIntS [a] h = some (.slice (some ⟨h.length, 0, none⟩) l.length l.length, h ++ [⟨(ints l).flatten, 1, y_int, true⟩]) := by
  refine C_intro T X t_laws_toIntS rfl ?_
  unfold F_laws_toIntS start
  simp only [ints_ln ha, mkW, go_sem, reduceIte, Nat.reduceEqDiff, Nat.reduceAdd, Nat.reduceMul, Nat.reduceLT, Nat.reduceLeDiff, reduceCtorEq]
  rw [if_pos ⟨by omega, by omega⟩]
  simp only [go_sem, reduceIte, Nat.reduceEqDiff, Nat.reduceAdd, Nat.reduceMul, Nat.reduceLT, Nat.reduceLeDiff, reduceCtorEq, Int.toNat_natCast]
  rw [fill_start (rows := ints l)]
  unfold lim at hl
  refine w_while (fun n s => ∃ (i : Nat) (t : Nat → Value) (loc : Nat → Option (List Value)), s = ⟨t, loc, fun _ => none, h ++ [⟨fillC [.int .i64 0] (ints l) l.length i, 1, y_int, true⟩]⟩ ∧ t 0 = a ∧ t 3 = .slice (some ⟨h.length, 0, none⟩) l.length l.length ∧ t 4 = .int .i64 i ∧ i ≤ l.length ∧ n = l.length - i) l.length ⟨0, _, _, rfl, rfl, rfl, rfl, Nat.zero_le _, rfl⟩ ?_
  rintro n s ⟨i, t, loc, rfl, t0, t3, t4, hi, rfl⟩
  have hu := ha.up (List.prefix_append h [⟨fillC [.int .i64 0] (ints l) l.length i, 1, y_int, true⟩])
  simp only [t0, t3, t4, ints_ln hu, go_sem, reduceIte, Nat.reduceEqDiff, Nat.reduceAdd, Nat.reduceMul, Nat.reduceLT, Nat.reduceLeDiff, reduceCtorEq]
  refine w_open (by simp only [*, go_sem, reduceIte, Nat.reduceEqDiff, Nat.reduceAdd, Nat.reduceMul, Nat.reduceLT, Nat.reduceLeDiff, reduceCtorEq]; rfl) ?_ ?_ <;> intro hc
  · have hi1 : i < l.length := by omega
    have hi2 : i < (ints l).length := by rw [ints_len]; exact hi1
    have hst := fill_st (h := h) (ext := []) (z := [.int .i64 0]) (ty := y_int) ints_row rfl ints_len hi2
    rw [ints_get] at hst
    simp only [ints_ia hu (i := (i : Int)) (by omega) (by omega), Int.toNat_natCast, ints_ld hu hi1, fill_ia (h := h) (ext := []) (z := [.int .i64 0]) (ty := y_int) ints_row rfl ints_len (i := i) (by omega) (j := (i : Int)) (by omega) (by omega), hst, t0, t3, t4, go_sem, reduceIte, Nat.reduceEqDiff, Nat.reduceAdd, Nat.reduceMul, Nat.reduceLT, Nat.reduceLeDiff, reduceCtorEq]
    rw [w64 (by omega) (by omega)]
    exact ⟨l.length - (i + 1), by omega, i + 1, _, _, rfl, t0, t3, rfl, by omega, rfl⟩
  · have hil : i = l.length := by omega
    subst hil
    simp only [t3, go_sem, reduceIte, Nat.reduceEqDiff, Nat.reduceAdd, Nat.reduceMul, Nat.reduceLT, Nat.reduceLeDiff, reduceCtorEq]
    refine rets_slot rfl (.inl rfl) rfl ?_
    simp only [t3, go_sem, reduceIte, Nat.reduceEqDiff, Nat.reduceAdd, Nat.reduceMul, Nat.reduceLT, Nat.reduceLeDiff, reduceCtorEq]
    rw [finish_deep rfl, fill_end ints_len]


/-- What is left behind a list of numbers. -/
def szIntsL (l : List Int) (n : Int) : Int := if n - l.length < 0 then -1 else n - l.length

theorem k_szIntS (ha : Rows h 1 a (ints l)) (hl : l.length ≤ lim) {n : Int} (h0 : 0 ≤ n) (h1 : n ≤ 1048576) : C T X n_laws_szIntS [a, .int .i64 n] h = some (.int .i64 (szIntsL l n), h) := by
  unfold lim at hl
  refine C_intro T X t_laws_szIntS rfl ?_
  unfold F_laws_szIntS start szIntsL
  simp only [ints_ln ha, go_sem, reduceIte, Nat.reduceEqDiff, Nat.reduceAdd, Nat.reduceMul, Nat.reduceLT, Nat.reduceLeDiff, reduceCtorEq]
  rw [w64 (by omega) (by omega)]
  repeat (first | (refine w_any (by simp only [*, go_sem, reduceIte, Nat.reduceEqDiff, Nat.reduceAdd, Nat.reduceMul, Nat.reduceLT, Nat.reduceLeDiff, reduceCtorEq]; rfl) ?_ ?_ <;> intro hc <;> (try simp only [decide_eq_true_eq, decide_eq_false_iff_not, Decidable.not_not] at hc) <;> simp only [hc, go_sem, reduceIte, Nat.reduceEqDiff, Nat.reduceAdd, Nat.reduceMul, Nat.reduceLT, Nat.reduceLeDiff, reduceCtorEq]) | (refine so_any (by simp only [*, go_sem, reduceIte, Nat.reduceEqDiff, Nat.reduceAdd, Nat.reduceMul, Nat.reduceLT, Nat.reduceLeDiff, reduceCtorEq]; rfl) ?_ ?_ <;> intro hc <;> (try simp only [decide_eq_true_eq, decide_eq_false_iff_not, Decidable.not_not] at hc) <;> simp only [hc, go_sem, reduceIte, Nat.reduceEqDiff, Nat.reduceAdd, Nat.reduceMul, Nat.reduceLT, Nat.reduceLeDiff, reduceCtorEq]) | (refine sf_any (by simp only [*, go_sem, reduceIte, Nat.reduceEqDiff, Nat.reduceAdd, Nat.reduceMul, Nat.reduceLT, Nat.reduceLeDiff, reduceCtorEq]; rfl) ?_ ?_ <;> intro hc <;> (try simp only [decide_eq_true_eq, decide_eq_false_iff_not, Decidable.not_not] at hc) <;> simp only [hc, go_sem, reduceIte, Nat.reduceEqDiff, Nat.reduceAdd, Nat.reduceMul, Nat.reduceLT, Nat.reduceLeDiff, reduceCtorEq]))
  all_goals (refine rets_slot rfl (.inl rfl) rfl ?_; simp only [*, go_sem, reduceIte, Nat.reduceEqDiff, Nat.reduceAdd, Nat.reduceMul, Nat.reduceLT, Nat.reduceLeDiff, reduceCtorEq, finish_same])

/-- A deed's cells. -/
def deedC (s : ByteArray) (c : Bool) (st : Int) (k : Value) (to pa : Int) : Value := .agg ⟨[.string s, .bool c, .int .i64 st, k, .int .i64 to, .int .i64 pa]⟩

variable {s s' : ByteArray} {c c' : Bool} {st to pa st' to' pa' : Int} {k k' : Value}

theorem k_szIntS' (ha : Rows h 1 a (ints l)) (hl : l.length ≤ maxLen) {n : Int} (h0 : 0 ≤ n) (h1 : n ≤ 1048576) : C T X n_laws_szIntS [a, .int .i64 n] h = some (.int .i64 (szIntsL l n), h) := by
  unfold maxLen at hl
  refine C_intro T X t_laws_szIntS rfl ?_
  unfold F_laws_szIntS start szIntsL
  simp only [ints_ln ha, go_sem, reduceIte, Nat.reduceEqDiff, Nat.reduceAdd, Nat.reduceMul, Nat.reduceLT, Nat.reduceLeDiff, reduceCtorEq]
  rw [w64 (by omega) (by omega)]
  repeat (first | (refine w_any (by simp only [*, go_sem, reduceIte, Nat.reduceEqDiff, Nat.reduceAdd, Nat.reduceMul, Nat.reduceLT, Nat.reduceLeDiff, reduceCtorEq]; rfl) ?_ ?_ <;> intro hc <;> (try simp only [decide_eq_true_eq, decide_eq_false_iff_not, Decidable.not_not] at hc) <;> simp only [hc, go_sem, reduceIte, Nat.reduceEqDiff, Nat.reduceAdd, Nat.reduceMul, Nat.reduceLT, Nat.reduceLeDiff, reduceCtorEq]) | (refine so_any (by simp only [*, go_sem, reduceIte, Nat.reduceEqDiff, Nat.reduceAdd, Nat.reduceMul, Nat.reduceLT, Nat.reduceLeDiff, reduceCtorEq]; rfl) ?_ ?_ <;> intro hc <;> (try simp only [decide_eq_true_eq, decide_eq_false_iff_not, Decidable.not_not] at hc) <;> simp only [hc, go_sem, reduceIte, Nat.reduceEqDiff, Nat.reduceAdd, Nat.reduceMul, Nat.reduceLT, Nat.reduceLeDiff, reduceCtorEq]) | (refine sf_any (by simp only [*, go_sem, reduceIte, Nat.reduceEqDiff, Nat.reduceAdd, Nat.reduceMul, Nat.reduceLT, Nat.reduceLeDiff, reduceCtorEq]; rfl) ?_ ?_ <;> intro hc <;> (try simp only [decide_eq_true_eq, decide_eq_false_iff_not, Decidable.not_not] at hc) <;> simp only [hc, go_sem, reduceIte, Nat.reduceEqDiff, Nat.reduceAdd, Nat.reduceMul, Nat.reduceLT, Nat.reduceLeDiff, reduceCtorEq]))
  all_goals (refine rets_slot rfl (.inl rfl) rfl ?_; simp only [*, go_sem, reduceIte, Nat.reduceEqDiff, Nat.reduceAdd, Nat.reduceMul, Nat.reduceLT, Nat.reduceLeDiff, reduceCtorEq, finish_same])

theorem k_szDeed (hk : Rows h 1 k (ints l)) (hl : l.length ≤ maxLen) (hs : s.size ≤ maxLen) : ∃ n, (0 ≤ n → l.length ≤ 1048576) ∧ C T X n_laws_szDeed [deedC s c st k to pa, .int .i64 1048576] h = some (.int .i64 n, h) := by
  have hs' := hs
  unfold maxLen at hs'
  by_cases hc : (1048576 : Int) - s.size < 0
  · refine ⟨-1, fun h => by omega, C_intro T X t_laws_szDeed rfl ?_⟩
    unfold F_laws_szDeed start deedC
    simp only [go_sem, reduceIte, Nat.reduceEqDiff, Nat.reduceAdd, Nat.reduceMul, Nat.reduceLT, Nat.reduceLeDiff, reduceCtorEq]
    rw [w64 (by omega) (by omega)]
    simp only [hc, go_sem, reduceIte, Nat.reduceEqDiff, Nat.reduceAdd, Nat.reduceMul, Nat.reduceLT, Nat.reduceLeDiff, reduceCtorEq]
    refine rets_slot rfl (.inl rfl) rfl ?_
    simp only [go_sem, reduceIte, Nat.reduceEqDiff, Nat.reduceAdd, Nat.reduceMul, Nat.reduceLT, Nat.reduceLeDiff, reduceCtorEq, finish_same]
  · refine ⟨szIntsL l (1048576 - s.size), fun h => by unfold szIntsL at h; split at h <;> omega, C_intro T X t_laws_szDeed rfl ?_⟩
    unfold F_laws_szDeed start deedC
    simp only [go_sem, reduceIte, Nat.reduceEqDiff, Nat.reduceAdd, Nat.reduceMul, Nat.reduceLT, Nat.reduceLeDiff, reduceCtorEq]
    rw [w64 (by omega) (by omega)]
    simp only [hc, go_sem, reduceIte, Nat.reduceEqDiff, Nat.reduceAdd, Nat.reduceMul, Nat.reduceLT, Nat.reduceLeDiff, reduceCtorEq, k_szIntS' hk hl (n := 1048576 - s.size) (by omega) (by omega)]
    refine w_open (by simp only [*, go_sem, reduceIte, Nat.reduceEqDiff, Nat.reduceAdd, Nat.reduceMul, Nat.reduceLT, Nat.reduceLeDiff, reduceCtorEq]; rfl) ?_ ?_ <;> intro hd
    · simp only [go_sem, reduceIte, Nat.reduceEqDiff, Nat.reduceAdd, Nat.reduceMul, Nat.reduceLT, Nat.reduceLeDiff, reduceCtorEq]
      refine rets_slot rfl (.inl rfl) rfl ?_
      have : szIntsL l (1048576 - s.size) = -1 := by unfold szIntsL at hd ⊢; split <;> omega
      simp only [this, go_sem, reduceIte, Nat.reduceEqDiff, Nat.reduceAdd, Nat.reduceMul, Nat.reduceLT, Nat.reduceLeDiff, reduceCtorEq, finish_same]
    · simp only [go_sem, reduceIte, Nat.reduceEqDiff, Nat.reduceAdd, Nat.reduceMul, Nat.reduceLT, Nat.reduceLeDiff, reduceCtorEq]
      refine rets_slot rfl (.inl rfl) rfl ?_
      simp only [go_sem, reduceIte, Nat.reduceEqDiff, Nat.reduceAdd, Nat.reduceMul, Nat.reduceLT, Nat.reduceLeDiff, reduceCtorEq, finish_same]

/-- Is a deed right? -/
def deedOkL (s : ByteArray) (st : Int) (l : List Int) (pa : Int) : Bool := decide ((s.size : Int) ≤ 40) && (decide (0 ≤ st) && decide (st ≤ 1)) && decide ((l.length : Int) ≤ 60) && (decide (0 ≤ pa) && decide (pa ≤ 64))

theorem k_spec_DeedOk (hk : Rows h 1 k (ints l)) : C T X n_spec_DeedOk [deedC s c st k to pa] h = some (.bool (deedOkL s st l pa), h) := by
  refine C_intro T X t_spec_DeedOk rfl ?_
  unfold F_spec_DeedOk start deedC deedOkL
  simp only [ints_ln hk, k_spec_l01In, go_sem, reduceIte, Nat.reduceEqDiff, Nat.reduceAdd, Nat.reduceMul, Nat.reduceLT, Nat.reduceLeDiff, reduceCtorEq]
  repeat (first | (refine w_any (by simp only [*, ints_ln hk, k_spec_l01In, go_sem, reduceIte, Nat.reduceEqDiff, Nat.reduceAdd, Nat.reduceMul, Nat.reduceLT, Nat.reduceLeDiff, reduceCtorEq]; rfl) ?_ ?_ <;> intro hc <;> (try simp only [decide_eq_true_eq, decide_eq_false_iff_not, Decidable.not_not] at hc) <;> simp only [hc, ints_ln hk, k_spec_l01In, go_sem, reduceIte, Nat.reduceEqDiff, Nat.reduceAdd, Nat.reduceMul, Nat.reduceLT, Nat.reduceLeDiff, reduceCtorEq]) | (refine so_any (by simp only [*, ints_ln hk, k_spec_l01In, go_sem, reduceIte, Nat.reduceEqDiff, Nat.reduceAdd, Nat.reduceMul, Nat.reduceLT, Nat.reduceLeDiff, reduceCtorEq]; rfl) ?_ ?_ <;> intro hc <;> (try simp only [decide_eq_true_eq, decide_eq_false_iff_not, Decidable.not_not] at hc) <;> simp only [hc, ints_ln hk, k_spec_l01In, go_sem, reduceIte, Nat.reduceEqDiff, Nat.reduceAdd, Nat.reduceMul, Nat.reduceLT, Nat.reduceLeDiff, reduceCtorEq]) | (refine sf_any (by simp only [*, ints_ln hk, k_spec_l01In, go_sem, reduceIte, Nat.reduceEqDiff, Nat.reduceAdd, Nat.reduceMul, Nat.reduceLT, Nat.reduceLeDiff, reduceCtorEq]; rfl) ?_ ?_ <;> intro hc <;> (try simp only [decide_eq_true_eq, decide_eq_false_iff_not, Decidable.not_not] at hc) <;> simp only [hc, ints_ln hk, k_spec_l01In, go_sem, reduceIte, Nat.reduceEqDiff, Nat.reduceAdd, Nat.reduceMul, Nat.reduceLT, Nat.reduceLeDiff, reduceCtorEq]))
  all_goals (refine rets_slot rfl (.inl rfl) rfl ?_; simp only [*, go_sem, reduceIte, Nat.reduceEqDiff, Nat.reduceAdd, Nat.reduceMul, Nat.reduceLT, Nat.reduceLeDiff, reduceCtorEq, finish_same])

theorem k_impl_DeedOk (hk : Rows h 1 k (ints l)) : C T X n_impl_DeedOk [deedC s c st k to pa] h = some (.bool (deedOkL s st l pa), h) := by
  refine C_intro T X t_impl_DeedOk rfl ?_
  unfold F_impl_DeedOk start deedC deedOkL
  simp only [ints_ln hk, k_impl_in, go_sem, reduceIte, Nat.reduceEqDiff, Nat.reduceAdd, Nat.reduceMul, Nat.reduceLT, Nat.reduceLeDiff, reduceCtorEq]
  repeat (first | (refine w_any (by simp only [*, ints_ln hk, k_impl_in, go_sem, reduceIte, Nat.reduceEqDiff, Nat.reduceAdd, Nat.reduceMul, Nat.reduceLT, Nat.reduceLeDiff, reduceCtorEq]; rfl) ?_ ?_ <;> intro hc <;> (try simp only [decide_eq_true_eq, decide_eq_false_iff_not, Decidable.not_not] at hc) <;> simp only [hc, ints_ln hk, k_impl_in, go_sem, reduceIte, Nat.reduceEqDiff, Nat.reduceAdd, Nat.reduceMul, Nat.reduceLT, Nat.reduceLeDiff, reduceCtorEq]) | (refine so_any (by simp only [*, ints_ln hk, k_impl_in, go_sem, reduceIte, Nat.reduceEqDiff, Nat.reduceAdd, Nat.reduceMul, Nat.reduceLT, Nat.reduceLeDiff, reduceCtorEq]; rfl) ?_ ?_ <;> intro hc <;> (try simp only [decide_eq_true_eq, decide_eq_false_iff_not, Decidable.not_not] at hc) <;> simp only [hc, ints_ln hk, k_impl_in, go_sem, reduceIte, Nat.reduceEqDiff, Nat.reduceAdd, Nat.reduceMul, Nat.reduceLT, Nat.reduceLeDiff, reduceCtorEq]) | (refine sf_any (by simp only [*, ints_ln hk, k_impl_in, go_sem, reduceIte, Nat.reduceEqDiff, Nat.reduceAdd, Nat.reduceMul, Nat.reduceLT, Nat.reduceLeDiff, reduceCtorEq]; rfl) ?_ ?_ <;> intro hc <;> (try simp only [decide_eq_true_eq, decide_eq_false_iff_not, Decidable.not_not] at hc) <;> simp only [hc, ints_ln hk, k_impl_in, go_sem, reduceIte, Nat.reduceEqDiff, Nat.reduceAdd, Nat.reduceMul, Nat.reduceLT, Nat.reduceLeDiff, reduceCtorEq]))
  all_goals (refine rets_slot rfl (.inl rfl) rfl ?_; simp only [*, go_sem, reduceIte, Nat.reduceEqDiff, Nat.reduceAdd, Nat.reduceMul, Nat.reduceLT, Nat.reduceLeDiff, reduceCtorEq, finish_same])

theorem k_toDeed (hk : Rows h 1 k (ints l)) (hl : l.length ≤ lim) : C T X n_laws_toDeed [deedC s c st k to pa] h = some (deedC s c st (.slice (some ⟨h.length, 0, none⟩) l.length l.length) to pa, h ++ [⟨(ints l).flatten, 1, y_int, true⟩]) := by
  refine C_intro T X t_laws_toDeed rfl ?_
  unfold F_laws_toDeed start deedC
  simp only [k_toIntS hk hl, go_sem, reduceIte, Nat.reduceEqDiff, Nat.reduceAdd, Nat.reduceMul, Nat.reduceLT, Nat.reduceLeDiff, reduceCtorEq]
  refine rets_box rfl (.inl rfl) rfl (Nat.le_refl _) rfl rfl ?_
  exact finish_deep rfl

theorem k_eqDeed (hk : Rows h 1 k (ints l)) (hk' : Rows h 1 k' (ints m)) (hl : l.length ≤ lim) : C T X n_laws_eqDeed [deedC s c st k to pa, deedC s c st k' to pa] h = some (.bool (decide (l = m)), h) := by
  refine C_intro T X t_laws_eqDeed rfl ?_
  unfold F_laws_eqDeed start deedC
  simp only [k_eqIntS hk hk' hl, BEq.rfl, go_sem, reduceIte, Nat.reduceEqDiff, Nat.reduceAdd, Nat.reduceMul, Nat.reduceLT, Nat.reduceLeDiff, reduceCtorEq]
  repeat (first | (refine w_any (by simp only [*, k_eqIntS hk hk' hl, BEq.rfl, go_sem, reduceIte, Nat.reduceEqDiff, Nat.reduceAdd, Nat.reduceMul, Nat.reduceLT, Nat.reduceLeDiff, reduceCtorEq]; rfl) ?_ ?_ <;> intro hc <;> (try simp only [decide_eq_true_eq, decide_eq_false_iff_not, Decidable.not_not] at hc) <;> simp only [hc, k_eqIntS hk hk' hl, BEq.rfl, go_sem, reduceIte, Nat.reduceEqDiff, Nat.reduceAdd, Nat.reduceMul, Nat.reduceLT, Nat.reduceLeDiff, reduceCtorEq]) | (refine so_any (by simp only [*, k_eqIntS hk hk' hl, BEq.rfl, go_sem, reduceIte, Nat.reduceEqDiff, Nat.reduceAdd, Nat.reduceMul, Nat.reduceLT, Nat.reduceLeDiff, reduceCtorEq]; rfl) ?_ ?_ <;> intro hc <;> (try simp only [decide_eq_true_eq, decide_eq_false_iff_not, Decidable.not_not] at hc) <;> simp only [hc, k_eqIntS hk hk' hl, BEq.rfl, go_sem, reduceIte, Nat.reduceEqDiff, Nat.reduceAdd, Nat.reduceMul, Nat.reduceLT, Nat.reduceLeDiff, reduceCtorEq]) | (refine sf_any (by simp only [*, k_eqIntS hk hk' hl, BEq.rfl, go_sem, reduceIte, Nat.reduceEqDiff, Nat.reduceAdd, Nat.reduceMul, Nat.reduceLT, Nat.reduceLeDiff, reduceCtorEq]; rfl) ?_ ?_ <;> intro hc <;> (try simp only [decide_eq_true_eq, decide_eq_false_iff_not, Decidable.not_not] at hc) <;> simp only [hc, k_eqIntS hk hk' hl, BEq.rfl, go_sem, reduceIte, Nat.reduceEqDiff, Nat.reduceAdd, Nat.reduceMul, Nat.reduceLT, Nat.reduceLeDiff, reduceCtorEq]))
  all_goals (refine rets_slot rfl (.inl rfl) rfl ?_; simp only [*, go_sem, reduceIte, Nat.reduceEqDiff, Nat.reduceAdd, Nat.reduceMul, Nat.reduceLT, Nat.reduceLeDiff, reduceCtorEq, finish_same])

theorem l_DeedOk (hk : Rows h 1 k (ints l)) (hl' : l.length ≤ maxLen) (hs : s.size ≤ maxLen) : C T X n_laws_FnExactDeedOk [deedC s c st k to pa] h = some (.bool true, h) := by
  obtain ⟨n, hnl, hn⟩ := k_szDeed (X := X) (s := s) (c := c) (st := st) (to := to) (pa := pa) hk hl' hs
  refine C_intro T X t_laws_FnExactDeedOk rfl ?_
  by_cases h0n : ¬ 0 ≤ n
  · unfold F_laws_FnExactDeedOk start
    unfold deedC at hn ⊢
    simp only [hn, go_sem, reduceIte, Nat.reduceEqDiff, Nat.reduceAdd, Nat.reduceMul, Nat.reduceLT, Nat.reduceLeDiff, reduceCtorEq]
    refine w_any (by simp only [go_sem, reduceIte, Nat.reduceEqDiff, Nat.reduceAdd, Nat.reduceMul, Nat.reduceLT, Nat.reduceLeDiff, reduceCtorEq]; rfl) ?_ ?_ <;> intro hc <;> simp only [hc, go_sem, reduceIte, Nat.reduceEqDiff, Nat.reduceAdd, Nat.reduceMul, Nat.reduceLT, Nat.reduceLeDiff, reduceCtorEq]
    · refine rets_slot rfl (.inl rfl) rfl ?_
      simp only [go_sem, reduceIte, Nat.reduceEqDiff, Nat.reduceAdd, Nat.reduceMul, Nat.reduceLT, Nat.reduceLeDiff, reduceCtorEq, finish_same]
    · exact absurd hc (by simp only [decide_eq_true_eq, decide_eq_false_iff_not]; omega)
  have hl : l.length ≤ lim := by have := hnl (by omega); unfold lim; omega
  have hrow : ∀ g : Heap, Rows (g ++ [⟨(ints l).flatten, 1, y_int, true⟩]) 1 (.slice (some ⟨g.length, 0, none⟩) l.length l.length) (ints l) := fun g => by
    have := Rows.made (h := g) (ty := y_int) (ints_row (l := l))
    rw [ints_len] at this
    exact this
  have hup : ∀ e, Rows (h ++ e) 1 k (ints l) := fun e => hk.up (List.prefix_append _ _)
  unfold F_laws_FnExactDeedOk start
  unfold deedC at hn ⊢
  have e1 := fun (g : Heap) (r : Rows g 1 k (ints l)) => k_toDeed (X := X) (s := s) (c := c) (st := st) (to := to) (pa := pa) r hl
  have e2 := fun (g : Heap) => k_spec_DeedOk (X := X) (s := s) (c := c) (st := st) (to := to) (pa := pa) (hrow g)
  have e3 := fun (g : Heap) => k_impl_DeedOk (X := X) (s := s) (c := c) (st := st) (to := to) (pa := pa) (hrow g)
  unfold deedC at e1 e2 e3
  obtain ⟨b, hb⟩ : ∃ b : Blk, b = ⟨(ints l).flatten, 1, y_int, true⟩ := ⟨_, rfl⟩
  rw [← hb] at e1 e2 e3
  have e4 := k_eqDeed (X := X) (h := h ++ [b] ++ [b] ++ [b]) (s := s) (c := c) (st := st) (to := to) (pa := pa) (((hrow (h ++ [b])).up (by rw [hb]; exact List.prefix_append _ _)) : Rows (h ++ [b] ++ [b] ++ [b]) 1 _ (ints l)) (by have := hrow (h ++ [b] ++ [b]); rw [← hb] at this; exact this) hl
  unfold deedC at e4
  have p1 : h <+: h := List.prefix_refl _
  simp only [hn, e1 h hk, e2, go_sem, reduceIte, Nat.reduceEqDiff, Nat.reduceAdd, Nat.reduceMul, Nat.reduceLT, Nat.reduceLeDiff, reduceCtorEq]
  refine w_any (by simp only [go_sem, reduceIte, Nat.reduceEqDiff, Nat.reduceAdd, Nat.reduceMul, Nat.reduceLT, Nat.reduceLeDiff, reduceCtorEq]; rfl) ?_ ?_ <;> intro hc <;> simp only [hc, go_sem, reduceIte, Nat.reduceEqDiff, Nat.reduceAdd, Nat.reduceMul, Nat.reduceLT, Nat.reduceLeDiff, reduceCtorEq]
  · refine rets_slot rfl (.inl rfl) rfl ?_
    simp only [go_sem, reduceIte, Nat.reduceEqDiff, Nat.reduceAdd, Nat.reduceMul, Nat.reduceLT, Nat.reduceLeDiff, reduceCtorEq, finish_same]
  · simp only [e1 h hk, e2, e1 (h ++ [b]) (hup [b]), e3, e1 (h ++ [b] ++ [b]) ((hup [b]).up (List.prefix_append _ _)), e4, List.prefix_append, List.prefix_refl, go_sem, reduceIte, Nat.reduceEqDiff, Nat.reduceAdd, Nat.reduceMul, Nat.reduceLT, Nat.reduceLeDiff, reduceCtorEq]
    refine rets_slot rfl (.inl rfl) rfl ?_
    simp only [go_sem, reduceIte, Nat.reduceEqDiff, Nat.reduceAdd, Nat.reduceMul, Nat.reduceLT, Nat.reduceLeDiff, reduceCtorEq]
    exact finish_flat rfl ⟨[b, b, b], by simp⟩

end
end Go.Proofs.Ytlndlccbecnjoaa.Ab
