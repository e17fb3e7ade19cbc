/- Joined: H0, K0, H5, P30, R6, R7, R9, K4, K8, K5, K6, K10, P1, K14, K21, P6. No conditions. -/
import Derived.Test.YthfeahanmbmjhaaGreatDoorFT
import Derived.Test.YthfeahanmbmjhaaGreatDoorM4
import Derived.Lib.Bytealg
import Derived.Lib.IndexLaws
import Derived.Test.YthfeahanmbmjhaaGreatDoorFN
set_option linter.unusedSimpArgs false
set_option linter.unusedVariables false
set_option linter.unnecessarySimpa false
set_option maxHeartbeats 4000000
namespace Go.Proofs.YthfeahanmbmjhaaGreatDoor.Ab
open Go.RowKit
section
variable {X : CallF} {h : Heap}
theorem k_markText {k : Nat} (hk : k ≤ 4611686018427387904) : C T X n_laws_markText [.int .i64 (k : Int)] h = some (.string (mkT k), h) := by
  refine C_go t_laws_markText rfl ?_
  unfold F_laws_markText
  simp only [go_sem]
  refine w_open (by simp only [go_sem]; rfl) ?_ ?_ <;> intro hc
  · have : k = 0 := by omega
    subst this
    simp only [go_sem]
    rfl
  simp only [go_sem]
  refine w_meas k (fun m t loc h' => h' = h ∧ ∃ s : ByteArray, t 0 = .int .i64 (m : Nat) ∧ t 3 = .string s ∧ m ≤ k ∧ mkD m s = mkD k noT ∧ (∃ c, m < 10 ^ c ∧ s.size + c ≤ 19)) ⟨rfl, noT, rfl, rfl, Nat.le_refl _, rfl, 19, by omega, by decide⟩ ?_
  rintro m t loc h' ⟨rfl, s, t0, t3, hm, hd, c, hc1, hc2⟩
  simp only [t0, t3, go_sem]
  refine w_open (by simp only [t0, t3, go_sem]; rfl) ?_ ?_ <;> intro hc'
  · have e : IntKind.u8.wrap (IntKind.i64.wrap (48 + ((m % 10 : Nat) : Int))) = ((48 + m % 10 : Nat) : Int) := by rw [w64 (by omega) (by omega), wu8 (by omega) (by omega)]; omega
    have hq : IntKind.i64.wrap ((m / 10 : Nat) : Int) = ((m / 10 : Nat) : Int) := w64 (by omega) (by omega)
    have hr : ((m : Int).tmod 10) = ((m % 10 : Nat) : Int) := rfl
    have hv : ((m : Int).tdiv 10) = ((m / 10 : Nat) : Int) := rfl
    have hcp : 0 < c := by
      cases c with
      | zero => simp at hc1; omega
      | succ c => omega
    have hsz : (strOfNums [((48 + m % 10 : Nat) : Int)]).size + s.size ≤ 9223372036854775807 := by rw [strOfNums_size]; simp only [List.length_cons, List.length_nil]; omega
    simp only [t0, t3, hr, hv, e, hq, strLV, ints8, isInt8, Option.map_some, hsz, go_sem]
    refine ⟨m / 10, by omega, _, rfl, rfl, by omega, ?_, c - 1, ?_, ?_⟩
    · rw [← hd, mkD_pos (n := m) (by omega)]
    · have : 10 ^ c = 10 ^ (c - 1) * 10 := by rw [← Nat.pow_succ]; congr 1; omega
      omega
    · rw [ByteArray.size_append, strOfNums_size]; simp only [List.length_cons, List.length_nil]; omega
  · have : m = 0 := by omega
    subst this
    have hs : s = mkD k noT := by rw [← hd, mkD_zero]
    have hsz : mByte.size + s.size ≤ 9223372036854775807 := by
      have : mByte.size = 1 := rfl
      omega
    simp only [t3, show (⟨⟨[109]⟩⟩ : ByteArray) = mByte from rfl, hsz, go_sem]
    unfold mkT
    rw [if_neg (by omega), hs]
end
section
variable {X : CallF} {h : Heap} {a b : Value} {l : List E} {rws : List (List Value)} {k : Nat}
end
section
variable {X : CallF} {h : Heap} {a b : Value} {l : List Cp} {rws : List (List Value)} {k : Nat}
end
section
variable {X : CallF} {h : Heap} {a b : Value} {l : List Pr} {rws : List (List Value)} {k : Nat}
end
section
variable {X : CallF} {h : Heap} {a b : Value} {l : List Aq} {rws : List (List Value)} {k : Nat}
end
section
variable {X : CallF} {h : Heap} {a b : Value} {l : List Int} {rws : List (List Value)} {k : Nat}
theorem k_eqIntS (ha : Rows h 1 a (ints l)) (hb : Rows h 1 b (ints l)) (hl : l.length ≤ lim) : C T X n_laws_eqIntS [a, b] h = some (.bool true, h) := by
  unfold lim at hl
  refine C_go t_laws_eqIntS rfl ?_
  unfold F_laws_eqIntS
  simp only [Rows.lnm (f := intR) ha, Rows.lnm (f := intR) hb, go_sem]
  refine w_for l.length (fun i t loc h' => h' = h ∧ t 0 = a ∧ t 1 = b ∧ t 5 = .int .i64 i) ⟨rfl, rfl, rfl, rfl⟩ ?_
  rintro i t loc h' hi ⟨rfl, t0, t1, t5⟩
  simp only [t0, t5, Rows.lnm (f := intR) ha, go_sem]
  refine w_open (by simp only [go_sem]; rfl) ?_ ?_ <;> intro hc
  · have hi1 : i < l.length := by omega
    have hw : IntKind.i64.wrap ((i : Int) + 1) = ((i + 1 : Nat) : Int) := w64 (by omega) (by omega)
    have hel := ha.el (f := intR) 0 hi1
    have hel2 := hb.el (f := intR) 0 hi1
    have hl2 : ofCells false (intR (l.getD i 0)) = some (.int .i64 (l.getD i 0)) := rfl
    simp only [intR] at hel hel2
    simp only [t0, t1, t5, hel.1, hel.2.2, hel2.1, hel2.2.2, hw, hl2, Option.bind_some, BEq.rfl, List.prefix_refl, go_sem]
    exact hi1
  · simp only [go_sem]
def mkInt (k : Nat) : List Value := [.int .i64 ((k + 0 : Nat) : Int)]
theorem k_markIntS {lo hi : Nat} (o : Own h lo hi 1 y_int a rws) (hl : rws.length ≤ lim) {k : Nat} (hk : k ≤ 2305843009213693952) : ∃ h', C T X n_laws_markIntS [a, .int .i64 (k : Int)] h = some (.int .i64 ((k + rws.length * 1 : Nat) : Int), h') ∧ Same lo hi h h' ∧ Own h' lo hi 1 y_int a (mkRows mkInt k 1 rws.length) := by
  unfold lim at hl
  refine C_exH t_laws_markIntS rfl ?_
  unfold F_laws_markIntS
  simp only [go_sem]
  refine w_for rws.length (fun i t loc h' => t 0 = a ∧ t 1 = .int .i64 ((k + i * 1 : Nat) : Int) ∧ t 5 = .int .i64 i ∧ Same lo hi h h' ∧ ∃ R, R.length = rws.length ∧ (∀ j, j < i → R[j]? = some (mkInt (k + j * 1))) ∧ Own h' lo hi 1 y_int a R) ⟨rfl, by simp [upd], rfl, Same.refl, rws, rfl, fun j hj => by omega, o⟩ ?_
  rintro i t loc h0 hi ⟨t0, t1, t5, hs, R, hR, hj, o0⟩
  simp only [t0, t5, o0.ln, hR, go_sem]
  refine w_open (by simp only [go_sem]; rfl) ?_ ?_ <;> intro hc
  · have hi1 : i < rws.length := by omega
    have hi2 : i < R.length := by omega
    have hw : IntKind.i64.wrap ((i : Int) + 1) = ((i + 1 : Nat) : Int) := w64 (by omega) (by omega)
    have w0 : IntKind.i64.wrap (((k + i * 1 : Nat) : Int) + 1) = ((k + i * 1 + 1 : Nat) : Int) := w64 (by omega) (by omega)
    have q0 := o0.self hi2
    obtain ⟨r, hr⟩ : ∃ r, R[i] = r := ⟨_, rfl⟩
    have hrl := o0.row_len hi2
    rw [hr] at q0 hrl
    obtain ⟨r0, rfl⟩ : ∃ r0, r = [r0] := by
      match r, hrl with
      | [r0], _ => exact ⟨r0, rfl⟩
    have el0 := q0.el (i := i) (by simpa using hi2)
    obtain ⟨h1, e0, s0, q1⟩ := q0.st2 hi2 (k := 0) (vs := [.int .i64 ((k + i * 1 : Nat) : Int)]) (by simp)
    simp only [putAt, List.take_zero, List.take_succ_cons, List.drop_zero, List.drop_succ_cons, List.nil_append, List.cons_append, List.length_cons, List.length_nil, Nat.zero_add, List.append_nil, List.drop_nil, Nat.reduceAdd] at q1
    (try simp only [Nat.add_zero, Nat.zero_add] at w0 e0 el0)
    simp only [t0, t1, t5, hw, el0.1, el0.2, e0, w0, Nat.add_zero, Nat.zero_add, go_sem]
    have hs' := (hs.trans s0)
    refine ⟨hi1, by first | omega | (congr 2; omega), hs', _, by simpa using hR, fun j hj2 => ?_, q1⟩
    by_cases e : j = i
    · subst e; rw [List.getElem?_set_self hi2]; rfl
    · rw [List.getElem?_set_ne (by omega)]; exact hj j (by omega)
  · have hil : i = rws.length := by omega
    subst hil
    have hRe : R = mkRows mkInt k 1 rws.length := rows_eq (by rw [hR, mkRows_len]) fun j hj2 => by rw [hj j (by omega), mkRows_get (by omega)]
    subst hRe
    simp only [t1, finish_room hs.len, go_sem]
    exact ⟨hs, o0⟩
theorem k_heldIntS {n : Nat} (ha : Rows h 1 a (mkRows mkInt k 1 n)) (hl : n ≤ lim) (hk : k ≤ 2305843009213693952) : C T X n_laws_heldIntS [a, .int .i64 (k : Int)] h = some (.int .i64 ((k + n * 1 : Nat) : Int), h) := by
  unfold lim at hl
  refine C_go t_laws_heldIntS rfl ?_
  unfold F_laws_heldIntS
  have hln : lnV h a = some (.int .i64 n) := by rw [ha.ln, mkRows_len]
  simp only [go_sem]
  refine w_for n (fun i t loc h' => h' = h ∧ t 0 = a ∧ t 1 = .int .i64 ((k + i * 1 : Nat) : Int) ∧ t 5 = .int .i64 i) ⟨rfl, rfl, by simp [upd], rfl⟩ ?_
  rintro i t loc h' hi ⟨rfl, t0, t1, t5⟩
  simp only [t0, t5, hln, go_sem]
  refine w_open (by simp only [go_sem]; rfl) ?_ ?_ <;> intro hc
  · have hi1 : i < n := by omega
    have hw : IntKind.i64.wrap ((i : Int) + 1) = ((i + 1 : Nat) : Int) := w64 (by omega) (by omega)
    have hi3 : i < (List.range n).length := by simpa using hi1
    have w0 : IntKind.i64.wrap (((k + i * 1 : Nat) : Int) + 1) = ((k + i * 1 + 1 : Nat) : Int) := w64 (by omega) (by omega)
    have hel := ha.el (f := fun i => mkInt (k + i * 1)) 0 hi3
    have c0 := ha.cell (f := fun i => mkInt (k + i * 1)) 0 hi3 (o := 0) (by omega)
    rw [range_getD hi1] at c0
    simp only [mkInt, List.getD_cons_zero, List.getD_cons_succ] at c0
    simp only [Nat.add_zero, Nat.zero_add] at w0 c0
    simp only [t0, t1, t5, hw, hel.1, hel.2.1, c0, w0, Nat.add_zero, Nat.zero_add, BEq.rfl, List.prefix_refl, go_sem]
    exact ⟨hi1, by first | omega | (congr 2; omega)⟩
  · have hil : i = n := by omega
    subst hil
    simp only [t1, go_sem]
end
section
variable {X : CallF} {h : Heap} {a b : Value} {l : List ByteArray} {rws : List (List Value)} {k : Nat}
end
end Go.Proofs.YthfeahanmbmjhaaGreatDoor.Ab
set_option linter.unusedSimpArgs false
set_option linter.unusedVariables false
set_option linter.unnecessarySimpa false
set_option maxHeartbeats 4000000
namespace Go.Proofs.YthfeahanmbmjhaaGreatDoor.Ab
open Go.RowKit
section
variable {X : CallF}
theorem k_impl_in {h : Heap} {n lo hi : Int} : C T X n_impl_in [.int .i64 n, .int .i64 lo, .int .i64 hi] h = some (.bool (decide (lo ≤ n) && decide (n ≤ hi)), h) := by
  refine C_intro T X t_impl_in rfl ?_
  unfold F_impl_in start
  simp only [go_sem]
  repeat (first | (refine w_any (by simp only [*, go_sem]; rfl) ?_ ?_ <;> intro hc <;> (try simp only [decide_eq_true_eq, decide_eq_false_iff_not, Decidable.not_not] at hc) <;> simp only [hc, go_sem]) | (refine so_any (by simp only [*, go_sem]; rfl) ?_ ?_ <;> intro hc <;> (try simp only [decide_eq_true_eq, decide_eq_false_iff_not, Decidable.not_not] at hc) <;> simp only [hc, go_sem]) | (refine so_any' (by simp only [*, go_sem]; rfl) ?_ ?_ <;> intro hc <;> (try simp only [decide_eq_true_eq, decide_eq_false_iff_not, Decidable.not_not] at hc) <;> simp only [hc, go_sem]) | (refine sf_any (by simp only [*, go_sem]; rfl) ?_ ?_ <;> intro hc <;> (try simp only [decide_eq_true_eq, decide_eq_false_iff_not, Decidable.not_not] at hc) <;> simp only [hc, go_sem]) | (refine sf_any' (by simp only [*, go_sem]; rfl) ?_ ?_ <;> intro hc <;> (try simp only [decide_eq_true_eq, decide_eq_false_iff_not, Decidable.not_not] at hc) <;> simp only [hc, go_sem]))
  all_goals (refine rets_slot rfl (.inl rfl) rfl ?_; simp only [*, go_sem, finish_same])
theorem k_spec_l01In {h : Heap} {n lo hi : Int} : C T X n_spec_l01In [.int .i64 n, .int .i64 lo, .int .i64 hi] h = some (.bool (decide (lo ≤ n) && decide (n ≤ hi)), h) := by
  refine C_intro T X t_spec_l01In rfl ?_
  unfold F_spec_l01In start
  simp only [go_sem]
  repeat (first | (refine w_any (by simp only [*, go_sem]; rfl) ?_ ?_ <;> intro hc <;> (try simp only [decide_eq_true_eq, decide_eq_false_iff_not, Decidable.not_not] at hc) <;> simp only [hc, go_sem]) | (refine so_any (by simp only [*, go_sem]; rfl) ?_ ?_ <;> intro hc <;> (try simp only [decide_eq_true_eq, decide_eq_false_iff_not, Decidable.not_not] at hc) <;> simp only [hc, go_sem]) | (refine so_any' (by simp only [*, go_sem]; rfl) ?_ ?_ <;> intro hc <;> (try simp only [decide_eq_true_eq, decide_eq_false_iff_not, Decidable.not_not] at hc) <;> simp only [hc, go_sem]) | (refine sf_any (by simp only [*, go_sem]; rfl) ?_ ?_ <;> intro hc <;> (try simp only [decide_eq_true_eq, decide_eq_false_iff_not, Decidable.not_not] at hc) <;> simp only [hc, go_sem]) | (refine sf_any' (by simp only [*, go_sem]; rfl) ?_ ?_ <;> intro hc <;> (try simp only [decide_eq_true_eq, decide_eq_false_iff_not, Decidable.not_not] at hc) <;> simp only [hc, go_sem]))
  all_goals (refine rets_slot rfl (.inl rfl) rfl ?_; simp only [*, go_sem, finish_same])
end
end Go.Proofs.YthfeahanmbmjhaaGreatDoor.Ab
set_option linter.unusedSimpArgs false
set_option linter.unusedVariables false
set_option linter.unnecessarySimpa false
set_option maxHeartbeats 4000000
namespace Go.Proofs.YthfeahanmbmjhaaGreatDoor.Ab
open Go.RowKit
section
variable {X : CallF} {h : Heap} {v : Value} {es : List E} {il : List Int} {cl : List Cp} {size n : Int}
theorem Own.all {rws : List (List Value)} {sz : Nat} {ty : TypeId} (hl : ∀ r ∈ rws, r.length = sz) : Own (h ++ [⟨rws.flatten, sz, ty, true⟩]) h.length (List.length (h ++ [(⟨rws.flatten, sz, ty, true⟩ : Blk)])) sz ty (.slice (some ⟨h.length, 0, none⟩) rws.length rws.length) rws := (Own.made hl).wide (Nat.le_refl _) (by simp)
end
end Go.Proofs.YthfeahanmbmjhaaGreatDoor.Ab
set_option linter.unusedSimpArgs false
set_option linter.unusedVariables false
set_option linter.unnecessarySimpa false
set_option maxHeartbeats 4000000
namespace Go.Proofs.YthfeahanmbmjhaaGreatDoor.Ab
open Go.RowKit
/-- The pieces that end below a place, and where the next one begins. -/
def pcs (s : ByteArray) (c : Nat) : Nat → List ByteArray × Nat
  | 0 => ([], 0)
  | i + 1 => if byt s i = c then ((pcs s c i).1 ++ [s.extract (pcs s c i).2 i], i + 1) else pcs s c i
/-- The pieces. -/
def splitC (s : ByteArray) (c : Nat) : List ByteArray := (pcs s c s.size).1 ++ [s.extract (pcs s c s.size).2 s.size]
/-- The lines: an empty last piece is none. -/
def linesL (s : ByteArray) : List ByteArray := if (pcs s 10 s.size).2 < s.size then splitC s 10 else (pcs s 10 s.size).1
/-- The words. -/
def wordsL (s : ByteArray) : List ByteArray := (splitC s 32).filter fun x => decide (0 < x.size)
section
variable {s : ByteArray} {c i j k : Nat}
theorem pcs_yes (h : byt s i = c) : pcs s c (i + 1) = ((pcs s c i).1 ++ [s.extract (pcs s c i).2 i], i + 1) := by
  have : pcs s c (i + 1) = if byt s i = c then ((pcs s c i).1 ++ [s.extract (pcs s c i).2 i], i + 1) else pcs s c i := rfl
  rw [this, if_pos h]
theorem pcs_no (h : ¬ byt s i = c) : pcs s c (i + 1) = pcs s c i := by
  have : pcs s c (i + 1) = if byt s i = c then ((pcs s c i).1 ++ [s.extract (pcs s c i).2 i], i + 1) else pcs s c i := rfl
  rw [this, if_neg h]
theorem pcs_le : ∀ i, (pcs s c i).2 ≤ i
  | 0 => Nat.le_refl _
  | i + 1 => by
    have := pcs_le i
    by_cases h : byt s i = c
    · rw [pcs_yes h]; exact Nat.le_refl _
    · rw [pcs_no h]; omega
theorem pcs_few : ∀ i, (pcs s c i).1.length ≤ i
  | 0 => Nat.le_refl _
  | i + 1 => by
    have := pcs_few i
    by_cases h : byt s i = c
    · rw [pcs_yes h, List.length_append]; simp only [List.length_cons, List.length_nil]; omega
    · rw [pcs_no h]; omega
/-- Where the byte does not stand, nothing ends. -/
theorem pcs_run : ∀ (m : Nat), (∀ k, i ≤ k → k < i + m → ¬ byt s k = c) → pcs s c (i + m) = pcs s c i
  | 0, _ => rfl
  | m + 1, h => by
    rw [← Nat.add_assoc, pcs_no (h (i + m) (by omega) (by omega))]
    exact pcs_run m fun k h1 h2 => h k h1 (by omega)
theorem byt_get (h : i < s.size) : s.data.toList[i]? = some (UInt8.ofNat (byt s i)) := by
  have hl : i < s.data.toList.length := by rw [size_list]; exact h
  have e : s.data.toList.getD i 0 = s.data.toList[i] := by rw [List.getD_eq_getElem?_getD, List.getElem?_eq_getElem hl]; rfl
  unfold byt
  rw [e, List.getElem?_eq_getElem hl, UInt8.ofNat_toNat]
theorem byt_is (hc : c < 256) (h : i < s.size) : s.data.toList[i]? = some (UInt8.ofNat c) ↔ byt s i = c := by
  rw [byt_get h]
  have h1 := byt_lt (s := s) (i := i)
  constructor
  · intro e
    have e2 := congrArg UInt8.toNat (Option.some.inj e)
    simp only [UInt8.toNat_ofNat'] at e2
    omega
  · intro e; rw [e]
theorem pcs_cnt (hc : c < 256) : ∀ i, i ≤ s.size → (pcs s c i).1.length = (s.data.toList.take i).count (UInt8.ofNat c)
  | 0, _ => by simp [pcs]
  | i + 1, h => by
    have ih := pcs_cnt hc i (by omega)
    have hg := byt_get (s := s) (i := i) (by omega)
    rw [List.take_add_one, hg, List.count_append]
    by_cases q : byt s i = c
    · rw [pcs_yes q, List.length_append, ih, q]
      simp
    · rw [pcs_no q, ih]
      have : ¬ UInt8.ofNat (byt s i) = UInt8.ofNat c := fun e => q ((byt_is hc (by omega)).1 (by rw [hg, e]))
      simp [List.count_cons, this]
theorem count_pcs (hc : c < 256) : Lib.countByte s.data.toList (UInt8.ofNat c) = (pcs s c s.size).1.length := by
  rw [pcs_cnt hc s.size (Nat.le_refl _), List.take_of_length_le (by rw [size_list]; exact Nat.le_refl _)]
  rfl
theorem ext_list {a b : Nat} : (s.extract a b).data.toList = (s.data.toList.drop a).take (b - a) := by
  rw [ByteArray.data_extract, Array.toList_extract, List.extract_eq_take_drop]
theorem ext_ext {a m : Nat} (h : a + m ≤ s.size) : (s.extract a s.size).extract 0 m = s.extract a (a + m) := by
  apply ByteArray.ext
  apply Array.toList_inj.1
  rw [ext_list, ext_list, ext_list, List.drop_zero, List.take_take]
  congr 1
  omega
theorem pc_tail {a m : Nat} (h : a + m ≤ s.size) : (s.extract a s.size).extract m (s.extract a s.size).size = s.extract (a + m) s.size := by
  apply ByteArray.ext
  apply Array.toList_inj.1
  rw [ext_list, ext_list, ext_list, ByteArray.size_extract, List.drop_take, List.drop_drop, List.take_take]
  congr 1
  omega
theorem ext_at {a k : Nat} : (s.extract a s.size).data.toList[k]? = s.data.toList[a + k]? := by
  rw [ext_list, List.getElem?_take, List.getElem?_drop]
  split
  · rfl
  · rw [List.getElem?_eq_none (by rw [size_list]; omega)]
/-- The next one. -/
theorem pc_some (hc : c < 256) {a m : Nat} (h : Lib.indexByte (s.extract a s.size).data.toList (UInt8.ofNat c) = (m : Int)) (hb : (pcs s c a).2 = a) : a + m < s.size ∧ pcs s c (a + m + 1) = ((pcs s c a).1 ++ [s.extract a (a + m)], a + m + 1) := by
  obtain ⟨h1, h2⟩ := Lib.indexByte_some h
  rw [ext_at] at h1
  have hlt : a + m < s.size := by
    rcases Nat.lt_or_ge (a + m) s.size with q | q
    · exact q
    · rw [List.getElem?_eq_none (by rw [size_list]; exact q)] at h1
      cases h1
  have hr := pcs_run (s := s) (c := c) (i := a) m fun k k1 k2 e => by
    have := h2 (k - a) (by omega)
    rw [ext_at, show a + (k - a) = k by omega] at this
    exact this ((byt_is hc (by omega)).2 e)
  refine ⟨hlt, ?_⟩
  rw [pcs_yes ((byt_is hc hlt).1 h1), hr, hb]
theorem pc_none (hc : c < 256) {a : Nat} (ha : a ≤ s.size) (h : Lib.indexByte (s.extract a s.size).data.toList (UInt8.ofNat c) = -1) : pcs s c s.size = pcs s c a := by
  have := pcs_run (s := s) (c := c) (i := a) (s.size - a) fun k k1 k2 e => by
    have := Lib.indexByte_none h (k - a)
    rw [ext_at, show a + (k - a) = k by omega] at this
    exact this ((byt_is hc (by omega)).2 e)
  rwa [show a + (s.size - a) = s.size by omega] at this
theorem split_len : (splitC s c).length = (pcs s c s.size).1.length + 1 := by unfold splitC; simp
end
end Go.Proofs.YthfeahanmbmjhaaGreatDoor.Ab
set_option linter.unusedSimpArgs false
set_option linter.unusedVariables false
set_option linter.unnecessarySimpa false
set_option maxHeartbeats 4000000
namespace Go.Proofs.YthfeahanmbmjhaaGreatDoor.Ab
open Go.RowKit
abbrev nilV : Value := .slice none 0 0
/-- The place of a slice's block, and the one behind it. -/
def tlo : Value → Nat
  | .slice (some a) _ _ => a.block
  | _ => 0
def thi : Value → Nat
  | .slice (some a) _ _ => a.block + 1
  | _ => 0
/-- Two slices have different blocks. -/
def Sep (v w : Value) : Prop := thi v ≤ tlo w ∨ thi w ≤ tlo v
theorem Sep.symm {v w : Value} (h : Sep v w) : Sep w v := Or.symm h
theorem sep_nil {v : Value} : Sep v nilV := .inr (Nat.zero_le _)
section
variable {h h' : Heap} {lo hi lo' hi' sz sz' : Nat} {ty ty' : TypeId} {v w : Value} {rws rws' : List (List Value)}
theorem Own.tight (o : Own h lo hi sz ty v rws) : Own h (tlo v) (thi v) sz ty v rws := by
  refine ⟨o.len, ?_⟩
  rcases o.is with hn | ⟨b, _, _, rfl, h2⟩
  · exact .inl hn
  · exact .inr ⟨b, Nat.le_refl _, Nat.lt_succ_self _, rfl, h2⟩
theorem Own.within (o : Own h lo hi sz ty v rws) : v = nilV ∨ (lo ≤ tlo v ∧ thi v ≤ hi ∧ tlo v < thi v) := by
  rcases o.is with ⟨rfl, _⟩ | ⟨b, _, _, rfl, h2⟩
  · exact .inl rfl
  · exact .inr ⟨by assumption, by assumption, Nat.lt_succ_self _⟩
theorem Own.sep (o : Own h lo hi sz ty v rws) (q : Own h' lo' hi' sz' ty' w rws') (hd : hi ≤ lo' ∨ hi' ≤ lo) : Sep v w := by
  rcases o.within with rfl | ⟨h1, h2, _⟩
  · exact sep_nil.symm
  rcases q.within with rfl | ⟨h3, h4, _⟩
  · exact sep_nil
  unfold Sep
  omega
theorem Own.loose {h2 : Heap} {rr : List (List Value)} (o : Own h lo hi sz ty v rws) (q : Own h2 (tlo v) (thi v) sz ty v rr) : Own h2 lo hi sz ty v rr := by
  refine ⟨q.len, ?_⟩
  rcases q.is with hn | ⟨b, l1, l2, e, h3⟩
  · exact .inl hn
  · rcases o.within with e2 | ⟨k1, k2, _⟩
    · rw [e2] at e; cases e
    · exact .inr ⟨b, by omega, by omega, e, h3⟩
theorem Own.wider (o : Own h lo hi sz ty v rws) {g g' : Heap} (s : Same (tlo v) (thi v) g g') : Same lo hi g g' := by
  rcases o.within with rfl | ⟨k1, k2, _⟩
  · exact ⟨s.len, fun b _ => s.blk b (.inr (Nat.zero_le _))⟩
  · exact s.wide k1 k2
/-- What is written elsewhere does not turn it. -/
theorem Own.apart (o : Own h lo hi sz ty v rws) {w : Value} (a : Same (tlo w) (thi w) h h') (hs : Sep v w) : Own h' lo hi sz ty v rws := by
  have t := o.tight.same a hs
  rcases o.within with rfl | ⟨h1, h2, _⟩
  · refine ⟨o.len, .inl ⟨rfl, ?_⟩⟩
    rcases o.is with ⟨_, e⟩ | ⟨b, _, _, e, _⟩
    · exact e
    · cases e
  · exact t.wide h1 h2
end
/-- What is appended turns no other block. -/
theorem push_is {h : Heap} {lo hi sz : Nat} {ty : TypeId} {v : Value} {rws : List (List Value)} (o : Own h lo hi sz ty v rws) (hlo : lo ≤ h.length) (new : List (List Value)) (hn : ∀ r ∈ new, r.length = sz) (h1 : new ≠ []) (hl : rws.length + new.length ≤ lim) :
    ∃ v' h', appLW h sz ty new.length v (some new.flatten) = some (v', h') ∧ h.length ≤ h'.length ∧ (∀ b, b < h.length → (b < tlo v ∨ thi v ≤ b) → h'[b]? = h[b]?) ∧
      ((v = nilV ∧ tlo v' = h.length ∧ thi v' = h.length + 1 ∧ h'.length = h.length + 1) ∨ (v ≠ nilV ∧ h'.length = h.length ∧ tlo v' = tlo v ∧ thi v' = thi v)) ∧ Own h' (tlo v') (thi v') sz ty v' (rws ++ new) := by
  have hf := flatten_len hn
  have h0 : ¬ new.length = 0 := fun e => h1 (List.length_eq_zero_iff.1 e)
  have hall : ∀ r ∈ rws ++ new, r.length = sz := fun r hr => by
    rcases List.mem_append.1 hr with hr | hr
    · exact o.len r hr
    · exact hn r hr
  rcases o.is with ⟨rfl, rfl⟩ | ⟨b, l1, l2, rfl, h2⟩
  · refine ⟨.slice (some ⟨h.length, 0, none⟩) new.length new.length, h ++ [⟨new.flatten, sz, ty, true⟩], ?_, by simp, fun b hb _ => ?_, .inl ⟨rfl, rfl, rfl, by simp⟩, hall, .inr ⟨h.length, Nat.le_refl _, Nat.lt_succ_self _, rfl, by simp⟩⟩
    · simp only [appLW, appV]
      rw [if_pos hf, if_neg h0, if_pos (by simpa using hl)]
    · rw [List.getElem?_append_left hb]
  · have hb := lt_of_get h2
    have hr := flatten_len o.len
    refine ⟨.slice (some ⟨b, 0, none⟩) (rws ++ new).length (rws ++ new).length, h.set b ⟨(rws ++ new).flatten, sz, ty, true⟩, ?_, by simp, fun b' _ hb' => ?_, .inr ⟨(fun e => by cases e), by simp, rfl, rfl⟩, hall, .inr ⟨b, Nat.le_refl _, Nat.lt_succ_self _, rfl, by rw [List.getElem?_set_self hb]⟩⟩
    · simp only [appLW, appV, h2, List.length_append]
      rw [if_pos hf, if_pos (by rw [hr]; omega), if_neg h0, if_pos ⟨trivial, trivial, trivial, trivial, trivial, hl⟩]
      rw [List.flatten_append]
    · have : b' ≠ b := by simp only [tlo, thi] at hb'; omega
      rw [List.getElem?_set_ne (Ne.symm this)]
/-- A list that is there grows in its place. -/
theorem Own.grow {h : Heap} {lo hi sz : Nat} {ty : TypeId} {v : Value} {rws : List (List Value)} (o : Own h lo hi sz ty v rws) (hv : v ≠ nilV) (new : List (List Value)) (hn : ∀ r ∈ new, r.length = sz) (h1 : new ≠ []) (hl : rws.length + new.length ≤ lim) :
    ∃ v' h', appLW h sz ty new.length v (some new.flatten) = some (v', h') ∧ v' ≠ nilV ∧ Same lo hi h h' ∧ Own h' lo hi sz ty v' (rws ++ new) := by
  have hlo : lo ≤ h.length := by
    rcases o.is with ⟨rfl, _⟩ | ⟨b, l1, l2, rfl, h2⟩
    · exact absurd rfl hv
    · have := lt_of_get h2; omega
  obtain ⟨v', h', e, g, b, c, o'⟩ := push_is o hlo new hn h1 hl
  rcases c with ⟨c, _⟩ | ⟨_, c1, c2, c3⟩
  · exact absurd c hv
  · rcases o.within with w | ⟨w1, w2, w3⟩
    · exact absurd w hv
    refine ⟨v', h', e, ?_, ⟨c1, fun b' hb' => ?_⟩, by rw [c2, c3] at o'; exact o'.wide w1 w2⟩
    · rintro rfl
      have : tlo v = thi v := c2.symm.trans (show tlo nilV = thi v from c3)
      omega
    · by_cases hlt : b' < h.length
      · exact b b' hlt (by omega)
      · rw [List.getElem?_eq_none (by omega), List.getElem?_eq_none (by omega)]
/-- A list of lists is shown. -/
def RowsLL (h : Heap) (v : Value) (ll : List (List Int)) : Prop := ∃ vs : List Value, vs.length = ll.length ∧ Rows h 1 v (vs.map fun x => [x]) ∧ ∀ i, i < ll.length → Rows h 1 (vs.getD i nilV) (ints (ll.getD i []))
/-- .. of one's own. -/
structure OwnLLs (h : Heap) (lo hi : Nat) (tyO tyI : TypeId) (v : Value) (ll : List (List Int)) (vs : List Value) : Prop where
  len : vs.length = ll.length
  out : Own h lo hi 1 tyO v (vs.map fun x => [x])
  ins : ∀ i, i < ll.length → Own h lo hi 1 tyI (vs.getD i nilV) (ints (ll.getD i []))
  so : ∀ i, i < ll.length → Sep v (vs.getD i nilV)
  si : ∀ i j, i < j → j < ll.length → Sep (vs.getD i nilV) (vs.getD j nilV)
def OwnLL (h : Heap) (lo hi : Nat) (tyO tyI : TypeId) (v : Value) (ll : List (List Int)) : Prop := ∃ vs, OwnLLs h lo hi tyO tyI v ll vs
section
variable {h h' h0 : Heap} {lo hi lo' hi' : Nat} {tyO tyI : TypeId} {v w : Value} {ll : List (List Int)} {l : List Int}
theorem OwnLL.rows (o : OwnLL h lo hi tyO tyI v ll) : RowsLL h v ll := by
  obtain ⟨vs, h1, h2, h3, _, _⟩ := o
  exact ⟨vs, h1, h2.rows, fun i hi => (h3 i hi).rows⟩
theorem OwnLL.up (o : OwnLL h lo hi tyO tyI v ll) (hp : h <+: h') : OwnLL h' lo hi tyO tyI v ll := by
  obtain ⟨vs, h1, h2, h3, h4, h5⟩ := o
  exact ⟨vs, h1, h2.up hp, fun i hi => (h3 i hi).up hp, h4, h5⟩
theorem OwnLL.wide (o : OwnLL h lo hi tyO tyI v ll) (k1 : lo' ≤ lo) (k2 : hi ≤ hi') : OwnLL h lo' hi' tyO tyI v ll := by
  obtain ⟨vs, h1, h2, h3, h4, h5⟩ := o
  exact ⟨vs, h1, h2.wide k1 k2, fun i hi => (h3 i hi).wide k1 k2, h4, h5⟩
theorem OwnLL.same (o : OwnLL h lo hi tyO tyI v ll) (a : Same lo' hi' h h') (hd : hi ≤ lo' ∨ hi' ≤ lo) : OwnLL h' lo hi tyO tyI v ll := by
  obtain ⟨vs, h1, h2, h3, h4, h5⟩ := o
  exact ⟨vs, h1, h2.same a hd, fun i hi => (h3 i hi).same a hd, h4, h5⟩
theorem OwnLL.nil : OwnLL h lo hi tyO tyI nilV [] := ⟨[], rfl, Own.nil, fun i hi => (by simp at hi), fun i hi => (by simp at hi), fun i j _ hi => (by simp at hi)⟩
theorem OwnLL.zero (o : Own h lo hi 1 tyO v []) : OwnLL h lo hi tyO tyI v [] := ⟨[], rfl, o, fun i hi => (by simp at hi), fun i hi => (by simp at hi), fun i j _ hi => (by simp at hi)⟩
theorem OwnLL.live (o : OwnLL h lo hi tyO tyI v ll) : live v = true := by
  obtain ⟨vs, h1, h2, _, _, _⟩ := o
  exact h2.live
theorem OwnLL.fin (hp : h <+: h') (o : OwnLL h' h.length h'.length tyO tyI v ll) : h <+: (finish h (v, h')).2 ∧ OwnLL (finish h (v, h')).2 h.length (finish h (v, h')).2.length tyO tyI (finish h (v, h')).1 ll := by
  obtain ⟨h3, e, p3, hc⟩ := finish_cases (v := v) hp
  rw [e]
  rcases hc with rfl | ⟨hf, rfl⟩
  · exact ⟨hp, o⟩
  · refine ⟨p3, ?_⟩
    obtain ⟨vs, h1, h2, h4, h5, h6⟩ := o
    rcases h2.is with ⟨rfl, e2⟩ | ⟨b, _, _, rfl, _⟩
    · have : ll = [] := by
        have : vs = [] := by simpa using e2
        subst this
        exact List.length_eq_zero_iff.1 h1.symm
      subst this
      exact OwnLL.nil
    · cases hf
theorem RowsLL.up (o : RowsLL h v ll) (hp : h <+: h') : RowsLL h' v ll := by
  obtain ⟨vs, h1, h2, h3⟩ := o
  exact ⟨vs, h1, h2.up hp, fun i hi => (h3 i hi).up hp⟩
theorem RowsLL.ln (o : RowsLL h v ll) : lnV h v = some (.int .i64 ll.length) := by
  obtain ⟨vs, h1, h2, h3⟩ := o
  rw [h2.ln, List.length_map, h1]
theorem RowsLL.el (o : RowsLL h v ll) {i : Nat} (hi : i < ll.length) : ∃ x, iaV h 1 v (.int .i64 (i : Int)) = some (elemP v 1 i 0) ∧ ldC h (elemP v 1 i 0) 1 = some [x] ∧ Rows h 1 x (ints (ll.getD i [])) := by
  obtain ⟨vs, h1, h2, h3⟩ := o
  have e := h2.el (f := fun x => [x]) nilV (i := i) (by omega)
  exact ⟨vs.getD i nilV, e.1, e.2.2, h3 i hi⟩
/-- A list of one's own is appended. -/
theorem OwnLLs.pushG {lo2 hi2 : Nat} {vs : List Value} (o : OwnLLs h lo hi tyO tyI v ll vs) (hlo : lo ≤ h.length) (hhi : hi ≤ h.length) (q : Own h lo2 hi2 1 tyI w (ints l)) (hwsepv : Sep v w) (hws : ∀ i, i < ll.length → Sep (vs.getD i nilV) w) (hd2 : hi2 ≤ h.length) (hl : ll.length < lim) :
    ∃ v' h', appLW h 1 tyO 1 v (some [w]) = some (v', h') ∧ h.length ≤ h'.length ∧ (∀ b, b < h.length → (b < tlo v ∨ thi v ≤ b) → h'[b]? = h[b]?) ∧ (v ≠ nilV → h'.length = h.length ∧ tlo v' = tlo v ∧ thi v' = thi v) ∧
      (v' ≠ nilV ∧ (v = nilV → tlo v' = h.length)) ∧ OwnLLs h' (min lo lo2) h'.length tyO tyI v' (ll ++ [l]) (vs ++ [w]) := by
  obtain ⟨h1, h2, h3, h4, h5⟩ := o
  obtain ⟨v', h', e, g, b, c, o'⟩ := push_is h2 hlo [[w]] (fun r hr => by rw [List.mem_singleton.1 hr]; rfl) (by simp) (by simp; omega)
  simp only [List.flatten_cons, List.flatten_nil, List.append_nil, List.length_cons, List.length_nil, Nat.zero_add] at e
  have same : ∀ {x : Value} {rr : List (List Value)} {p r : Nat}, Own h p r 1 tyI x rr → r ≤ h.length → Sep v x → Own h' p r 1 tyI x rr := by
    intro x rr p r ox hr hs
    refine ⟨ox.len, ?_⟩
    rcases ox.is with hn | ⟨c, l1, l2, rfl, hc⟩
    · exact .inl hn
    · exact .inr ⟨c, l1, l2, rfl, by rw [b c (by omega) (by simp only [Sep, tlo, thi] at hs ⊢; omega)]; exact hc⟩
  have hv'sep : ∀ {x : Value}, Sep v x → (x = nilV ∨ thi x ≤ h.length) → Sep v' x := by
    intro x hs hx
    rcases c with ⟨rfl, c1, c2, c3⟩ | ⟨_, _, c2, c3⟩
    · rcases hx with rfl | hx
      · exact sep_nil
      · exact .inr (by omega)
    · unfold Sep at hs ⊢; omega
  have hwin : w = nilV ∨ thi w ≤ h.length := by
    rcases q.within with h | ⟨_, h, _⟩
    · exact .inl h
    · exact .inr (by omega)
  have hlv : lo ≤ tlo v' := by
    rcases c with ⟨_, c1, _⟩ | ⟨hv, _, c2, _⟩
    · omega
    · rcases h2.within with k | k
      · exact absurd k hv
      · omega
  have hnz : thi v' ≤ h'.length ∧ tlo v' < thi v' := by
    rcases c with ⟨_, c1, c2, c3⟩ | ⟨hv, c1, c2, c3⟩
    · omega
    · rcases h2.within with k | k
      · exact absurd k hv
      · omega
  refine ⟨v', h', e, g, b, fun hv => ?_, ⟨?_, fun hv => ?_⟩, ⟨by simp [h1], ?_, fun i hi' => ?_, fun i hi' => ?_, fun i j hij hj => ?_⟩⟩
  · rcases c with ⟨k, _⟩ | ⟨_, k⟩
    · exact absurd k hv
    · exact k
  · rintro rfl
    have : tlo nilV < thi nilV := hnz.2
    exact absurd this (Nat.lt_irrefl 0)
  · rcases c with ⟨_, k, _⟩ | ⟨k, _⟩
    · exact k
    · exact absurd hv k
  · rw [List.map_append]
    exact o'.wide (by omega) hnz.1
  · by_cases hil : i < ll.length
    · have e1 : (vs ++ [w]).getD i nilV = vs.getD i nilV := by simp [List.getElem?_append_left (show i < vs.length by omega)]
      have e2 : (ll ++ [l]).getD i [] = ll.getD i [] := by simp [List.getElem?_append_left hil]
      rw [e1, e2]
      exact (same (h3 i hil) hhi (h4 i hil)).wide (by omega) (by omega)
    · have hil : i = ll.length := by simp at hi'; omega
      subst hil
      have e1 : (vs ++ [w]).getD ll.length nilV = w := by rw [← h1]; simp
      have e2 : (ll ++ [l]).getD ll.length [] = l := by simp
      rw [e1, e2]
      exact (same q hd2 hwsepv).wide (by omega) (by omega)
  · by_cases hil : i < ll.length
    · have e1 : (vs ++ [w]).getD i nilV = vs.getD i nilV := by simp [List.getElem?_append_left (show i < vs.length by omega)]
      rw [e1]
      refine hv'sep (h4 i hil) ?_
      rcases (h3 i hil).within with h | ⟨_, h, _⟩
      · exact .inl h
      · exact .inr (by omega)
    · have hil : i = ll.length := by simp at hi'; omega
      subst hil
      have e1 : (vs ++ [w]).getD ll.length nilV = w := by rw [← h1]; simp
      rw [e1]
      exact hv'sep hwsepv hwin
  · have hil : i < ll.length := by simp at hj; omega
    have e1 : (vs ++ [w]).getD i nilV = vs.getD i nilV := by simp [List.getElem?_append_left (show i < vs.length by omega)]
    rw [e1]
    by_cases hjl : j < ll.length
    · have e2 : (vs ++ [w]).getD j nilV = vs.getD j nilV := by simp [List.getElem?_append_left (show j < vs.length by omega)]
      rw [e2]
      exact h5 i j hij hjl
    · have hjl : j = ll.length := by simp at hj; omega
      subst hjl
      have e2 : (vs ++ [w]).getD ll.length nilV = w := by rw [← h1]; simp
      rw [e2]
      exact hws i hil
theorem OwnLLs.push {lo2 hi2 : Nat} {vs : List Value} (o : OwnLLs h lo hi tyO tyI v ll vs) (hlo : lo ≤ h.length) (hhi : hi ≤ h.length) (q : Own h lo2 hi2 1 tyI w (ints l)) (hd : hi ≤ lo2) (hd2 : hi2 ≤ h.length) (hl : ll.length < lim) :
    ∃ v' h', appLW h 1 tyO 1 v (some [w]) = some (v', h') ∧ h.length ≤ h'.length ∧ (∀ b, b < h.length → (b < tlo v ∨ thi v ≤ b) → h'[b]? = h[b]?) ∧ (v ≠ nilV → h'.length = h.length ∧ tlo v' = tlo v ∧ thi v' = thi v) ∧
      (v' ≠ nilV ∧ (v = nilV → tlo v' = h.length)) ∧ OwnLLs h' (min lo lo2) h'.length tyO tyI v' (ll ++ [l]) (vs ++ [w]) :=
  o.pushG hlo hhi q (o.out.sep q (.inl hd)) (fun i hi => (o.ins i hi).sep q (.inl hd)) hd2 hl
theorem OwnLL.push (o : OwnLL h0 lo hi tyO tyI v ll) (hlo : lo ≤ h0.length) (hhi : hi ≤ h0.length) (hp : h0 <+: h) (q : Own h h0.length h.length 1 tyI w (ints l)) (hl : ll.length < lim) :
    ∃ v' h', appLW h 1 tyO 1 v (some [w]) = some (v', h') ∧ h.length ≤ h'.length ∧ (∀ b, b < lo → h'[b]? = h[b]?) ∧ OwnLL h' lo h'.length tyO tyI v' (ll ++ [l]) := by
  obtain ⟨vs, o⟩ := o
  have hlen := pre_len hp
  obtain ⟨v', h', e, g, b, c, _, o'⟩ := (show OwnLLs h lo hi tyO tyI v ll vs from ⟨o.len, o.out.up hp, fun i hi => (o.ins i hi).up hp, o.so, o.si⟩).push (by omega) (by omega) q hhi (Nat.le_refl _) hl
  refine ⟨v', h', e, g, fun x hx => ?_, vs ++ [w], by rw [Nat.min_eq_left hlo] at o'; exact o'⟩
  refine b x (by omega) ?_
  rcases o.out.within with rfl | ⟨k1, k2, _⟩
  · exact .inr (Nat.zero_le _)
  · exact .inl (by omega)
/-- Another list grows, or is written. -/
theorem OwnLLs.apart {vs : List Value} (o : OwnLLs h lo hi tyO tyI v ll vs) (a : Same (tlo w) (thi w) h h') (h1 : Sep v w) (h2 : ∀ i, i < ll.length → Sep (vs.getD i nilV) w) : OwnLLs h' lo hi tyO tyI v ll vs :=
  ⟨o.len, o.out.apart a h1, fun i hi => (o.ins i hi).apart a (h2 i hi), o.so, o.si⟩
end
end Go.Proofs.YthfeahanmbmjhaaGreatDoor.Ab
set_option linter.unusedSimpArgs false
set_option linter.unusedVariables false
set_option linter.unnecessarySimpa false
set_option maxHeartbeats 4000000
namespace Go.Proofs.YthfeahanmbmjhaaGreatDoor.Ab
open Go.RowKit
/-- A group. -/
structure Gp where
  ms : List Int
  z : Int
def g0 : Gp := ⟨[], 0⟩
def gRow (vs : List Value) (gs : List Gp) (i : Nat) : List Value := [vs.getD i nilV, .int .i64 (gs.getD i g0).z]
abbrev gRows (vs : List Value) (gs : List Gp) : List (List Value) := (List.range gs.length).map (gRow vs gs)
def RowsG (h : Heap) (v : Value) (gs : List Gp) : Prop := ∃ vs, Rows h 2 v (gRows vs gs) ∧ ∀ i, i < gs.length → Rows h 1 (vs.getD i nilV) (ints (gs.getD i g0).ms)
structure OwnGs (h : Heap) (lo hi : Nat) (ty : TypeId) (v : Value) (gs : List Gp) (vs : List Value) : Prop where
  out : Own h lo hi 2 ty v (gRows vs gs)
  ins : ∀ i, i < gs.length → Own h lo hi 1 y_int (vs.getD i nilV) (ints (gs.getD i g0).ms)
  so : ∀ i, i < gs.length → Sep v (vs.getD i nilV)
  si : ∀ i j, i < j → j < gs.length → Sep (vs.getD i nilV) (vs.getD j nilV)
def OwnG (h : Heap) (lo hi : Nat) (ty : TypeId) (v : Value) (gs : List Gp) : Prop := ∃ vs, OwnGs h lo hi ty v gs vs
section
variable {h h' : Heap} {lo hi lo' hi' : Nat} {ty : TypeId} {v : Value} {gs : List Gp}
theorem RowsG.up (o : RowsG h v gs) (hp : h <+: h') : RowsG h' v gs := by
  obtain ⟨vs, h1, h2⟩ := o
  exact ⟨vs, h1.up hp, fun i hi => (h2 i hi).up hp⟩
theorem RowsG.ln (o : RowsG h v gs) : lnV h v = some (.int .i64 gs.length) := by
  obtain ⟨vs, h1, h2⟩ := o
  rw [h1.ln, List.length_map, List.length_range]
theorem RowsG.el (o : RowsG h v gs) {i : Nat} (hi : i < gs.length) : ∃ x, iaV h 2 v (.int .i64 (i : Int)) = some (elemP v 2 i 0) ∧ (∀ o k, faV h (elemP v 2 i o) k = some (elemP v 2 i (o + k))) ∧ ldC h (elemP v 2 i 0) 2 = some [x, .int .i64 (gs.getD i g0).z] ∧
    ldC h (elemP v 2 i 0) 1 = some [x] ∧ ldC h (elemP v 2 i 1) 1 = some [.int .i64 (gs.getD i g0).z] ∧ Rows h 1 x (ints (gs.getD i g0).ms) := by
  obtain ⟨vs, h1, h2⟩ := o
  have hr : i < (List.range gs.length).length := by simpa using hi
  have e := h1.el (f := gRow vs gs) 0 hr
  have c0 := h1.cell (f := gRow vs gs) 0 hr (o := 0) (by omega)
  have c1 := h1.cell (f := gRow vs gs) 0 hr (o := 1) (by omega)
  rw [range_getD hi] at e c0 c1
  exact ⟨vs.getD i nilV, e.1, e.2.1, e.2.2, c0, c1, h2 i hi⟩
theorem OwnG.rows (o : OwnG h lo hi ty v gs) : RowsG h v gs := by
  obtain ⟨vs, h1, h2, _, _⟩ := o
  exact ⟨vs, h1.rows, fun i hi => (h2 i hi).rows⟩
theorem OwnG.up (o : OwnG h lo hi ty v gs) (hp : h <+: h') : OwnG h' lo hi ty v gs := by
  obtain ⟨vs, h1, h2, h3, h4⟩ := o
  exact ⟨vs, h1.up hp, fun i hi => (h2 i hi).up hp, h3, h4⟩
theorem OwnG.wide (o : OwnG h lo hi ty v gs) (k1 : lo' ≤ lo) (k2 : hi ≤ hi') : OwnG h lo' hi' ty v gs := by
  obtain ⟨vs, h1, h2, h3, h4⟩ := o
  exact ⟨vs, h1.wide k1 k2, fun i hi => (h2 i hi).wide k1 k2, h3, h4⟩
theorem OwnG.same (o : OwnG h lo hi ty v gs) (a : Same lo' hi' h h') (hd : hi ≤ lo' ∨ hi' ≤ lo) : OwnG h' lo hi ty v gs := by
  obtain ⟨vs, h1, h2, h3, h4⟩ := o
  exact ⟨vs, h1.same a hd, fun i hi => (h2 i hi).same a hd, h3, h4⟩
end
end Go.Proofs.YthfeahanmbmjhaaGreatDoor.Ab
set_option linter.unusedSimpArgs false
set_option linter.unusedVariables false
set_option linter.unnecessarySimpa false
set_option maxHeartbeats 4000000
namespace Go.Proofs.YthfeahanmbmjhaaGreatDoor.Ab
open Go.RowKit
section
variable {h h' : Heap} {lo hi lo2 hi2 : Nat} {ty : TypeId} {v w : Value} {gs : List Gp} {l : List Int} {z : Int}
theorem OwnG.norm (o : OwnG h lo hi ty v gs) : ∃ vs : List Value, vs.length = gs.length ∧ OwnGs h lo hi ty v gs vs := by
  obtain ⟨vs, h1, h2, h3, h4⟩ := o
  have e : ∀ i, i < gs.length → ((List.range gs.length).map fun j => vs.getD j nilV).getD i nilV = vs.getD i nilV := fun i hi => by simp [hi]
  refine ⟨(List.range gs.length).map fun j => vs.getD j nilV, by simp, ?_, fun i hi => by rw [e i hi]; exact h2 i hi, fun i hi => by rw [e i hi]; exact h3 i hi, fun i j hij hj => by rw [e i (by omega), e j hj]; exact h4 i j hij hj⟩
  have : gRows ((List.range gs.length).map fun j => vs.getD j nilV) gs = gRows vs gs := by
    unfold gRows
    apply List.map_congr_left
    intro i hi
    have hi' : i < gs.length := by simpa using hi
    unfold gRow
    rw [e i hi']
  rw [this]
  exact h1
theorem gRows_push {vs : List Value} (hv : vs.length = gs.length) : gRows (vs ++ [w]) (gs ++ [⟨l, z⟩]) = gRows vs gs ++ [[w, .int .i64 z]] := by
  unfold gRows
  rw [List.length_append, List.length_singleton, List.range_succ, List.map_append]
  congr 1
  · apply List.map_congr_left
    intro i hi
    have hi' : i < gs.length := by simpa using hi
    unfold gRow
    have e1 : (vs ++ [w]).getD i nilV = vs.getD i nilV := by simp [List.getElem?_append_left (show i < vs.length by omega)]
    have e2 : (gs ++ [(⟨l, z⟩ : Gp)]).getD i g0 = gs.getD i g0 := by simp [List.getElem?_append_left hi']
    rw [e1, e2]
  · unfold gRow
    have e1 : (vs ++ [w]).getD gs.length nilV = w := by rw [← hv]; simp
    have e2 : (gs ++ [(⟨l, z⟩ : Gp)]).getD gs.length g0 = ⟨l, z⟩ := by simp
    simp only [List.map_cons, List.map_nil]
    rw [e1, e2]
theorem OwnG.push (o : OwnG h lo hi ty v gs) (hlo : lo ≤ h.length) (hhi : hi ≤ h.length) (q : Own h lo2 hi2 1 y_int w (ints l)) (hll : lo ≤ lo2) (hd : hi ≤ lo2) (hd2 : hi2 ≤ h.length) (hl : gs.length < lim) :
    ∃ v' h', appLW h 2 ty 1 v (some [w, .int .i64 z]) = some (v', h') ∧ h.length ≤ h'.length ∧ (∀ b, b < lo → h'[b]? = h[b]?) ∧ OwnG h' lo h'.length ty v' (gs ++ [⟨l, z⟩]) := by
  obtain ⟨vs, hvl, h2, h3, h4, h5⟩ := o.norm
  have hwsepv : Sep v w := h2.sep q (.inl hd)
  have hws : ∀ i, i < gs.length → Sep (vs.getD i nilV) w := fun i hi => (h3 i hi).sep q (.inl hd)
  obtain ⟨v', h', e, g, b, c, o'⟩ := push_is h2 hlo [[w, .int .i64 z]] (fun r hr => by rw [List.mem_singleton.1 hr]; rfl) (by simp) (by simp; omega)
  simp only [List.flatten_cons, List.flatten_nil, List.append_nil, List.length_cons, List.length_nil, Nat.zero_add] at e
  have same : ∀ {x : Value} {rr : List (List Value)} {p r : Nat}, Own h p r 1 y_int x rr → r ≤ h.length → Sep v x → Own h' p r 1 y_int x rr := by
    intro x rr p r ox hr hs
    refine ⟨ox.len, ?_⟩
    rcases ox.is with hn | ⟨c, l1, l2, rfl, hc⟩
    · exact .inl hn
    · exact .inr ⟨c, l1, l2, rfl, by rw [b c (by omega) (by simp only [Sep, tlo, thi] at hs ⊢; omega)]; exact hc⟩
  have hv'sep : ∀ {x : Value}, Sep v x → (x = nilV ∨ thi x ≤ h.length) → Sep v' x := by
    intro x hs hx
    rcases c with ⟨rfl, c1, c2, c3⟩ | ⟨_, _, c2, c3⟩
    · rcases hx with rfl | hx
      · exact sep_nil
      · exact .inr (by omega)
    · unfold Sep at hs ⊢; omega
  have hwin : w = nilV ∨ thi w ≤ h.length := by
    rcases q.within with h | ⟨_, h, _⟩
    · exact .inl h
    · exact .inr (by omega)
  have hlv : lo ≤ tlo v' := by
    rcases c with ⟨_, c1, _⟩ | ⟨hv, _, c2, _⟩
    · omega
    · rcases h2.within with k | k
      · exact absurd k hv
      · omega
  have hnz : thi v' ≤ h'.length ∧ tlo v' < thi v' := by
    rcases c with ⟨_, c1, c2, c3⟩ | ⟨hv, c1, c2, c3⟩
    · omega
    · rcases h2.within with k | k
      · exact absurd k hv
      · omega
  refine ⟨v', h', e, g, fun x hx => b x (by omega) ?_, vs ++ [w], ?_, fun i hi' => ?_, fun i hi' => ?_, fun i j hij hj => ?_⟩
  · rcases h2.within with rfl | ⟨k1, k2, _⟩
    · exact .inr (Nat.zero_le _)
    · exact .inl (by omega)
  · rw [gRows_push hvl]
    exact o'.wide (by omega) hnz.1
  · by_cases hil : i < gs.length
    · have e1 : (vs ++ [w]).getD i nilV = vs.getD i nilV := by simp [List.getElem?_append_left (show i < vs.length by omega)]
      have e2 : (gs ++ [(⟨l, z⟩ : Gp)]).getD i g0 = gs.getD i g0 := by simp [List.getElem?_append_left hil]
      rw [e1, e2]
      exact (same (h3 i hil) hhi (h4 i hil)).wide (Nat.le_refl _) (by omega)
    · have hil : i = gs.length := by simp at hi'; omega
      subst hil
      have e1 : (vs ++ [w]).getD gs.length nilV = w := by rw [← hvl]; simp
      have e2 : (gs ++ [(⟨l, z⟩ : Gp)]).getD gs.length g0 = ⟨l, z⟩ := by simp
      rw [e1, e2]
      exact (same q hd2 hwsepv).wide hll (by omega)
  · by_cases hil : i < gs.length
    · have e1 : (vs ++ [w]).getD i nilV = vs.getD i nilV := by simp [List.getElem?_append_left (show i < vs.length by omega)]
      rw [e1]
      refine hv'sep (h4 i hil) ?_
      rcases (h3 i hil).within with h | ⟨_, h, _⟩
      · exact .inl h
      · exact .inr (by omega)
    · have hil : i = gs.length := by simp at hi'; omega
      subst hil
      have e1 : (vs ++ [w]).getD gs.length nilV = w := by rw [← hvl]; simp
      rw [e1]
      exact hv'sep hwsepv hwin
  · have hil : i < gs.length := by simp at hj; omega
    have e1 : (vs ++ [w]).getD i nilV = vs.getD i nilV := by simp [List.getElem?_append_left (show i < vs.length by omega)]
    rw [e1]
    by_cases hjl : j < gs.length
    · have e2 : (vs ++ [w]).getD j nilV = vs.getD j nilV := by simp [List.getElem?_append_left (show j < vs.length by omega)]
      rw [e2]
      exact h5 i j hij hjl
    · have hjl : j = gs.length := by simp at hj; omega
      subst hjl
      have e2 : (vs ++ [w]).getD gs.length nilV = w := by rw [← hvl]; simp
      rw [e2]
      exact hws i hil
theorem OwnG.nil : OwnG h lo hi ty nilV [] := ⟨[], Own.nil, fun i hi => (by simp at hi), fun i hi => (by simp at hi), fun i j _ hi => (by simp at hi)⟩
theorem OwnG.cells' (o : OwnG h lo hi ty v gs) : cellsOf v = some [v] := by obtain ⟨vs, o, _⟩ := o; exact o.cells
end
end Go.Proofs.YthfeahanmbmjhaaGreatDoor.Ab
set_option linter.unusedSimpArgs false
set_option linter.unusedVariables false
set_option linter.unnecessarySimpa false
set_option maxHeartbeats 4000000
namespace Go.Proofs.YthfeahanmbmjhaaGreatDoor.Ab
open Go.RowKit
theorem varL_len (n : Nat) (h : n ≤ 1000000000) : (varL n).length ≤ 5 := by
  have key : ∀ k n, n < 128 ^ k → 0 < k → (varL n).length ≤ k := by
    intro k
    induction k with
    | zero => intro n _ h; omega
    | succ k ih =>
      intro n hn _
      unfold varL
      split
      · have : n / 128 < 128 ^ k := by rw [Nat.pow_succ] at hn; exact Nat.div_lt_of_lt_mul (by omega)
        have hk : 0 < k := by
          cases k with
          | zero => simp at hn; omega
          | succ k => omega
        have := ih _ this hk
        simp; omega
      · simp
  exact key 5 n (by omega) (by omega)
section
variable {X : CallF} {h : Heap}
theorem k_spec_l01Var {n : Nat} (hn : n ≤ 1000000000) : C T X n_spec_l01Var [.int .i64 n] h = some (.string (varT n), h) := by
  refine C_go t_spec_l01Var rfl ?_
  unfold F_spec_l01Var
  simp only [go_sem]
  refine w_meas n (fun m t loc h' => ∃ pre v, t 0 = .int .i64 (m : Nat) ∧ t 3 = v ∧ Acc h 1 y_byte v (bys pre) h' ∧ pre.length + (varL m).length ≤ 5 ∧ m ≤ n ∧ pre ++ varL m = varL n) ⟨[], _, rfl, rfl, Acc.new, by have := varL_len n hn; simpa using this, Nat.le_refl _, rfl⟩ ?_
  rintro m t loc h' ⟨pre, v, t0, t3, hacc, hlen, hm, hpre⟩
  simp only [t0, t3, go_sem]
  refine w_open (by simp only [t0, t3, go_sem]; rfl) ?_ ?_ <;> intro hc
  · have hb : IntKind.u8.wrap (IntKind.i64.wrap (((m % 128 : Nat) : Int) + 128)) = ((m % 128 + 128 : Nat) : Int) := by rw [w64 (by omega) (by omega), wu8 (by omega) (by omega)]; omega
    have hd : IntKind.i64.wrap ((m / 128 : Nat) : Int) = ((m / 128 : Nat) : Int) := w64 (by omega) (by omega)
    have hv : varL m = ((m % 128 + 128 : Nat) : Int) :: varL (m / 128) := by rw [varL]; rw [if_pos (by omega)]
    rw [hv] at hlen hpre
    obtain ⟨v', hh', ha, hacc'⟩ := hacc.push1 [.int .u8 ((m % 128 + 128 : Nat) : Int)] rfl (by rw [bys_len]; unfold lim; simp at hlen; omega)
    simp only [t0, t3, tmod128, tdiv128, hb, hd, ha, go_sem]
    refine ⟨m / 128, by omega, pre ++ [((m % 128 + 128 : Nat) : Int)], v', rfl, rfl, by simpa [bys] using hacc', by simp at hlen ⊢; omega, by omega, by simpa using hpre⟩
  · have hb : IntKind.u8.wrap (m : Int) = m := wu8 (by omega) (by omega)
    have hv : varL m = [(m : Int)] := by rw [varL]; rw [if_neg (by omega)]
    rw [hv] at hlen hpre
    obtain ⟨v', hh', ha, hacc'⟩ := hacc.push1 [.int .u8 (m : Int)] rfl (by rw [bys_len]; unfold lim; simp at hlen; omega)
    have hstr : strV hh' v' = some (.string (varT n)) := by
      have : Acc h 1 y_byte v' (bys (varL n)) hh' := by rw [← hpre]; simpa [bys] using hacc'
      exact this.rows.str
    simp only [t0, t3, hb, ha, hstr, go_sem]
    exact finish_flat rfl hacc'.up
theorem k_impl_VarText {n : Int} : C T X n_impl_VarText [.int .i64 n] h = some (if 0 ≤ n ∧ n ≤ 1000000000 then .tuple ⟨[.string (varT n.toNat), .bool true]⟩ else .tuple ⟨[.string ⟨⟨[]⟩⟩, .bool false]⟩, h) := by
  refine C_go t_impl_VarText rfl ?_
  unfold F_impl_VarText
  simp only [k_impl_in, go_sem]
  by_cases hc : 0 ≤ n ∧ n ≤ 1000000000
  rotate_left
  · have hc' : (decide (0 ≤ n) && decide (n ≤ 1000000000)) = false := by simp; omega
    simp only [hc, hc', go_sem]
  have hc' : (decide (0 ≤ n) && decide (n ≤ 1000000000)) = true := by simp; omega
  simp only [hc, hc', go_sem]
  obtain ⟨k, rfl⟩ := Int.eq_ofNat_of_zero_le hc.1
  have hn : k ≤ 1000000000 := by omega
  refine w_meas k (fun m t loc h' => ∃ pre v, t 0 = .int .i64 (m : Nat) ∧ t 4 = v ∧ Acc h 1 y_byte v (bys pre) h' ∧ pre.length + (varL m).length ≤ 5 ∧ m ≤ k ∧ pre ++ varL m = varL k) ⟨[], _, rfl, rfl, Acc.nil, by have := varL_len k hn; simpa using this, Nat.le_refl _, rfl⟩ ?_
  rintro m t loc h' ⟨pre, v, t0, t3, hacc, hlen, hm, hpre⟩
  simp only [t0, t3, go_sem]
  refine w_open (by simp only [t0, t3, go_sem]; rfl) ?_ ?_ <;> intro hc
  · have hb : IntKind.u8.wrap (IntKind.i64.wrap (((m % 128 : Nat) : Int) + 128)) = ((m % 128 + 128 : Nat) : Int) := by rw [w64 (by omega) (by omega), wu8 (by omega) (by omega)]; omega
    have hd : IntKind.i64.wrap ((m / 128 : Nat) : Int) = ((m / 128 : Nat) : Int) := w64 (by omega) (by omega)
    have hv : varL m = ((m % 128 + 128 : Nat) : Int) :: varL (m / 128) := by rw [varL]; rw [if_pos (by omega)]
    rw [hv] at hlen hpre
    obtain ⟨v', hh', ha, hacc'⟩ := hacc.push1 [.int .u8 ((m % 128 + 128 : Nat) : Int)] rfl (by rw [bys_len]; unfold lim; simp at hlen; omega)
    simp only [t0, t3, tmod128, tdiv128, hb, hd, ha, go_sem]
    refine ⟨m / 128, by omega, pre ++ [((m % 128 + 128 : Nat) : Int)], v', rfl, rfl, by simpa [bys] using hacc', by simp at hlen ⊢; omega, by omega, by simpa using hpre⟩
  · have hb : IntKind.u8.wrap (m : Int) = m := wu8 (by omega) (by omega)
    have hv : varL m = [(m : Int)] := by rw [varL]; rw [if_neg (by omega)]
    rw [hv] at hlen hpre
    obtain ⟨v', hh', ha, hacc'⟩ := hacc.push1 [.int .u8 (m : Int)] rfl (by rw [bys_len]; unfold lim; simp at hlen; omega)
    have hstr : strV hh' v' = some (.string (varT k)) := by
      have : Acc h 1 y_byte v' (bys (varL k)) hh' := by rw [← hpre]; simpa [bys] using hacc'
      exact this.rows.str
    simp only [t0, t3, hb, ha, hstr, go_sem]
    exact finish_flat rfl hacc'.up
end
end Go.Proofs.YthfeahanmbmjhaaGreatDoor.Ab
set_option linter.unusedSimpArgs false
set_option linter.unusedVariables false
set_option linter.unnecessarySimpa false
set_option maxHeartbeats 4000000
namespace Go.Proofs.YthfeahanmbmjhaaGreatDoor.Ab
open Go.RowKit
def rdB (ty : TypeId) (s : ByteArray) (p : Nat × Bool) : Blk := ⟨[.string s, .int .i64 (p.1 : Nat), .bool p.2], 3, ty, true⟩
section
variable {X : CallF} {h : Heap} {b : Nat} {ty : TypeId} {s : ByteArray} {p : Nat × Bool}
end
end Go.Proofs.YthfeahanmbmjhaaGreatDoor.Ab
set_option linter.unusedSimpArgs false
set_option linter.unusedVariables false
set_option linter.unnecessarySimpa false
set_option maxHeartbeats 4000000
namespace Go.Proofs.YthfeahanmbmjhaaGreatDoor.Ab
open Go.RowKit
def vt (n : Int) : ByteArray := if 0 ≤ n ∧ n ≤ 1000000000 then varT n.toNat else noT
def catV (s : ByteArray) (l : List Int) : ByteArray := l.foldl (fun s n => s ++ vt n) s
theorem catV_push {s : ByteArray} {l : List Int} {n : Int} : catV s (l ++ [n]) = catV s l ++ vt n := by simp [catV, List.foldl_append]
theorem catV_acc {a : ByteArray} : ∀ {l : List Int} {b : ByteArray}, catV (a ++ b) l = a ++ catV b l
  | [], b => rfl
  | n :: l, b => by
    show catV (a ++ b ++ vt n) l = a ++ catV (b ++ vt n) l
    rw [ByteArray.append_assoc, catV_acc]
theorem catV_from {a : ByteArray} {l : List Int} : a ++ catV noT l = catV a l := by
  rw [← catV_acc, show noT = ByteArray.empty from rfl, ByteArray.append_empty]
theorem vt_size (n : Int) : (vt n).size ≤ 5 := by
  unfold vt
  split
  · unfold varT; rw [strOfNums_size]; exact varL_len _ (by omega)
  · exact Nat.zero_le _
theorem catV_size {s : ByteArray} : ∀ {l : List Int}, (catV s l).size ≤ s.size + 5 * l.length := by
  intro l
  induction l generalizing s with
  | nil => simp [catV]
  | cons n l ih =>
    show (catV (s ++ vt n) l).size ≤ _
    have := ih (s := s ++ vt n)
    rw [ByteArray.size_append] at this
    have := vt_size n
    simp only [List.length_cons]
    omega
section
variable {X : CallF} {h : Heap} {v : Value} {l : List Int}
theorem k_impl_VarText' {n : Int} : C T X n_impl_VarText [.int .i64 n] h = some (.tuple ⟨[.string (vt n), .bool (decide (0 ≤ n ∧ n ≤ 1000000000))]⟩, h) := by
  rw [k_impl_VarText]
  unfold vt
  split
  · rename_i hc; simp only [hc, decide_true]; rfl
  · rename_i hc; simp only [hc, decide_false]
theorem k_spec_l01Var' {n : Int} (h0 : 0 ≤ n) (h1 : n ≤ 1000000000) : C T X n_spec_l01Var [.int .i64 n] h = some (.string (vt n), h) := by
  obtain ⟨k, rfl⟩ := Int.eq_ofNat_of_zero_le h0
  rw [k_spec_l01Var (by omega)]
  unfold vt
  rw [if_pos ⟨h0, h1⟩]
  rfl
theorem k_impl_vars (hv : Rows h 1 v (ints l)) (hl : l.length ≤ 1000000000) : C T X n_impl_vars [v] h = some (.string (catV noT l), h) := by
  refine C_go t_impl_vars rfl ?_
  unfold F_impl_vars
  simp only [ints_ln hv, go_sem]
  refine w_for l.length (fun i t loc h' => h' = h ∧ t 8 = v ∧ t 9 = .int .i64 l.length ∧ t 10 = .int .i64 i ∧ t 3 = .string (catV noT (l.take i))) ⟨rfl, rfl, rfl, rfl, rfl⟩ ?_
  rintro i t loc h' hi ⟨rfl, t8, t9, t10, t3⟩
  simp only [t9, t10, go_sem]
  refine w_open (by simp only [t9, t10, go_sem]; rfl) ?_ ?_ <;> intro hc
  · have hi1 : i < l.length := by omega
    have hw : IntKind.i64.wrap ((i : Int) + 1) = ((i + 1 : Nat) : Int) := w64 (by omega) (by omega)
    have hs : (catV noT (l.take i)).size + (vt (l.getD i 0)).size ≤ 9223372036854775807 := by
      have := catV_size (s := noT) (l := l.take i)
      have := vt_size (l.getD i 0)
      rw [List.length_take] at *
      have : noT.size = 0 := rfl
      omega
    simp only [t3, t8, t9, t10, int_el hv hi1, k_impl_VarText', hs, hw, go_sem]
    exact ⟨hi1, by rw [take_getD (d := 0) hi1, catV_push]⟩
  · have : i = l.length := by omega
    subst this
    simp only [t3, go_sem, List.take_length]
/-- How many numbers of an ask are told. -/
def numK (op : Int) : Nat := if op = 1 ∨ op = 3 ∨ op = 5 then 1 else if op = 2 then 5 else 0
theorem k_spec_l14Numbers {op : Int} : C T X n_spec_l14Numbers [.int .i64 op] h = some (.int .i64 (numK op), h) := by
  refine C_go t_spec_l14Numbers rfl ?_
  unfold F_spec_l14Numbers
  simp only [go_sem]
  repeat' (first | (refine w_any (by simp only [go_sem]; rfl) ?_ ?_ <;> intro hc <;> (try simp only [decide_eq_true_eq, decide_eq_false_iff_not, Decidable.not_not, Bool.not_eq_true', Bool.not_eq_false'] at hc) <;> simp only [hc, go_sem]) | (refine so_any (by simp only [go_sem]; rfl) ?_ ?_ <;> intro hc <;> (try simp only [decide_eq_true_eq, decide_eq_false_iff_not, Decidable.not_not, Bool.not_eq_true', Bool.not_eq_false'] at hc) <;> simp only [hc, go_sem]) | (refine so_any' (by simp only [go_sem]; rfl) ?_ ?_ <;> intro hc <;> (try simp only [decide_eq_true_eq, decide_eq_false_iff_not, Decidable.not_not, Bool.not_eq_true', Bool.not_eq_false'] at hc) <;> simp only [hc, go_sem]) | (refine sf_any (by simp only [go_sem]; rfl) ?_ ?_ <;> intro hc <;> (try simp only [decide_eq_true_eq, decide_eq_false_iff_not, Decidable.not_not, Bool.not_eq_true', Bool.not_eq_false'] at hc) <;> simp only [hc, go_sem]) | (refine sf_any' (by simp only [go_sem]; rfl) ?_ ?_ <;> intro hc <;> (try simp only [decide_eq_true_eq, decide_eq_false_iff_not, Decidable.not_not, Bool.not_eq_true', Bool.not_eq_false'] at hc) <;> simp only [hc, go_sem]))
  all_goals (unfold numK; repeat (first | rw [if_pos (by omega)] | rw [if_neg (by omega)]); try rfl)
def askV (op a b w1 w2 w3 : Int) : Value := .agg ⟨[.int .i64 op, .int .i64 a, .int .i64 b, .int .i64 w1, .int .i64 w2, .int .i64 w3]⟩
theorem k_spec_l14List {op a b w1 w2 w3 : Int} : C T X n_spec_l14List [askV op a b w1 w2 w3] h = some (.slice (some ⟨h.length, 0, none⟩) 5 5, h ++ [⟨(ints [a, b, w1, w2, w3]).flatten, 1, y_int, true⟩]) := by
  refine C_go t_spec_l14List rfl ?_
  unfold F_spec_l14List askV
  simp only [go_sem]
  rw [finish_deep rfl]
  rfl
/-- An ask that can be told. -/
def AskOk (op : Int) (l : List Int) : Prop := (1 ≤ op ∧ op ≤ 6) ∧ ∀ j, j < 5 → (0 ≤ l.getD j 0 ∧ l.getD j 0 ≤ 1000000000) ∧ (numK op ≤ j → l.getD j 0 = 0)
def askText (op : Int) (l : List Int) : ByteArray := catV (strOfNums [op]) (l.take (numK op))
open Classical in
theorem k_spec_AskText {op a b w1 w2 w3 : Int} : C T X n_spec_AskText [askV op a b w1 w2 w3] h = some (.tuple ⟨[.string (if AskOk op [a, b, w1, w2, w3] then askText op [a, b, w1, w2, w3] else noT), .bool (decide (AskOk op [a, b, w1, w2, w3]))]⟩, h) := by
  refine C_go t_spec_AskText rfl ?_
  unfold F_spec_AskText
  have hli := k_spec_l14List (X := X) (h := h) (op := op) (a := a) (b := b) (w1 := w1) (w2 := w2) (w3 := w3)
  unfold askV at hli ⊢
  obtain ⟨l, hl⟩ : ∃ l, l = [a, b, w1, w2, w3] := ⟨_, rfl⟩
  have hlen : l.length = 5 := by rw [hl]; rfl
  rw [← hl] at hli ⊢
  by_cases hop : 1 ≤ op ∧ op ≤ 6
  rotate_left
  · have hop' : (decide (1 ≤ op) && decide (op ≤ 6)) = false := by simp; omega
    have hno : ¬ AskOk op l := fun g => hop g.1
    simp only [k_spec_l01In, hop', hno, go_sem]
  have hop' : (decide (1 ≤ op) && decide (op ≤ 6)) = true := by simp; omega
  have hu8 : IntKind.u8.wrap op = op := wu8 (by omega) (by omega)
  have hst : strLV 1 (some [.int .u8 op]) = some (.string (strOfNums [op])) := rfl
  simp only [k_spec_l01In, hop', hu8, hst, hli, go_sem]
  have hrow : Rows (h ++ [⟨(ints l).flatten, 1, y_int, true⟩]) 1 (.slice (some ⟨h.length, 0, none⟩) 5 5) (ints l) := by
    have := Rows.made (h := h) (ty := y_int) (ints_row (l := l))
    rw [ints_len, hlen] at this
    exact this
  refine w_for 5 (fun i t loc h' => h' = h ++ [⟨(ints l).flatten, 1, y_int, true⟩] ∧ loc 1 = some [.int .i64 op, .int .i64 a, .int .i64 b, .int .i64 w1, .int .i64 w2, .int .i64 w3] ∧ t 5 = .slice (some ⟨h.length, 0, none⟩) 5 5 ∧ t 6 = .int .i64 i ∧
    t 4 = .string (catV (strOfNums [op]) (l.take (min i (numK op)))) ∧ ∀ j, j < i → (0 ≤ l.getD j 0 ∧ l.getD j 0 ≤ 1000000000) ∧ (numK op ≤ j → l.getD j 0 = 0)) ⟨rfl, rfl, rfl, rfl, by rw [Nat.zero_min]; rfl, fun j hj => by omega⟩ ?_
  rintro i t loc h' hi ⟨rfl, l1, t5, t6, t4, hall⟩
  simp only [t6, go_sem]
  refine w_open (by simp only [t6, go_sem]; rfl) ?_ ?_ <;> intro hc
  · have hi1 : i < l.length := by omega
    have hw : IntKind.i64.wrap ((i : Int) + 1) = ((i + 1 : Nat) : Int) := w64 (by omega) (by omega)
    by_cases hy : (0 ≤ l.getD i 0 ∧ l.getD i 0 ≤ 1000000000) ∧ (numK op ≤ i → l.getD i 0 = 0)
    · have hn1 : 0 ≤ l.getD i 0 := hy.1.1
      have hn2 : l.getD i 0 ≤ 1000000000 := hy.1.2
      have hnext : ∀ j, j < i + 1 → (0 ≤ l.getD j 0 ∧ l.getD j 0 ≤ 1000000000) ∧ (numK op ≤ j → l.getD j 0 = 0) := fun j hj => by
        by_cases e : j = i
        · subst e; exact hy
        · exact hall j (by omega)
      by_cases hk : numK op ≤ i
      · have hk' : (numK op : Int) ≤ i := by omega
        have hk2 : ¬ (i : Int) < (numK op : Int) := by omega
        have h0 := hy.2 hk
        have h0' : ¬ ¬ l.getD i 0 = 0 := fun h => h h0
        simp only [l1, t5, t6, t4, int_el hrow hi1, k_spec_l01In, k_spec_l14Numbers, hn1, hn2, hk', hk2, h0, hw, go_sem]
        exact ⟨by omega, by rw [Nat.min_eq_right (by omega), Nat.min_eq_right (by omega)], hnext⟩
      · have hk' : ¬ (numK op : Int) ≤ i := by omega
        have hk2 : (i : Int) < (numK op : Int) := by omega
        have hs : (catV (strOfNums [op]) (l.take (min i (numK op)))).size + (vt (l.getD i 0)).size ≤ 9223372036854775807 := by
          have := catV_size (s := strOfNums [op]) (l := l.take (min i (numK op)))
          have := vt_size (l.getD i 0)
          have : (strOfNums [op]).size = 1 := rfl
          rw [List.length_take] at *
          omega
        simp only [l1, t5, t6, t4, int_el hrow hi1, k_spec_l01In, k_spec_l14Numbers, k_spec_l01Var' hn1 hn2, hs, hn1, hn2, hk', hk2, hw, go_sem]
        exact ⟨by omega, by rw [Nat.min_eq_left (by omega), Nat.min_eq_left (by omega), take_getD (d := 0) hi1, catV_push], hnext⟩
    · have hno : ¬ AskOk op l := fun g => hy (g.2 i (by omega))
      simp only [l1, t5, t6, t4, int_el hrow hi1, k_spec_l01In, k_spec_l14Numbers, hno, go_sem]
      repeat' (first | (refine w_any (by simp only [l1, t5, t6, t4, int_el hrow hi1, k_spec_l01In, k_spec_l14Numbers, hno, go_sem]; rfl) ?_ ?_ <;> intro hc <;> (try simp only [decide_eq_true_eq, decide_eq_false_iff_not, Decidable.not_not, Bool.not_eq_true', Bool.not_eq_false'] at hc) <;> simp only [hc, l1, t5, t6, t4, int_el hrow hi1, k_spec_l01In, k_spec_l14Numbers, hno, go_sem]) | (refine so_any (by simp only [l1, t5, t6, t4, int_el hrow hi1, k_spec_l01In, k_spec_l14Numbers, hno, go_sem]; rfl) ?_ ?_ <;> intro hc <;> (try simp only [decide_eq_true_eq, decide_eq_false_iff_not, Decidable.not_not, Bool.not_eq_true', Bool.not_eq_false'] at hc) <;> simp only [hc, l1, t5, t6, t4, int_el hrow hi1, k_spec_l01In, k_spec_l14Numbers, hno, go_sem]) | (refine so_any' (by simp only [l1, t5, t6, t4, int_el hrow hi1, k_spec_l01In, k_spec_l14Numbers, hno, go_sem]; rfl) ?_ ?_ <;> intro hc <;> (try simp only [decide_eq_true_eq, decide_eq_false_iff_not, Decidable.not_not, Bool.not_eq_true', Bool.not_eq_false'] at hc) <;> simp only [hc, l1, t5, t6, t4, int_el hrow hi1, k_spec_l01In, k_spec_l14Numbers, hno, go_sem]) | (refine sf_any (by simp only [l1, t5, t6, t4, int_el hrow hi1, k_spec_l01In, k_spec_l14Numbers, hno, go_sem]; rfl) ?_ ?_ <;> intro hc <;> (try simp only [decide_eq_true_eq, decide_eq_false_iff_not, Decidable.not_not, Bool.not_eq_true', Bool.not_eq_false'] at hc) <;> simp only [hc, l1, t5, t6, t4, int_el hrow hi1, k_spec_l01In, k_spec_l14Numbers, hno, go_sem]) | (refine sf_any' (by simp only [l1, t5, t6, t4, int_el hrow hi1, k_spec_l01In, k_spec_l14Numbers, hno, go_sem]; rfl) ?_ ?_ <;> intro hc <;> (try simp only [decide_eq_true_eq, decide_eq_false_iff_not, Decidable.not_not, Bool.not_eq_true', Bool.not_eq_false'] at hc) <;> simp only [hc, l1, t5, t6, t4, int_el hrow hi1, k_spec_l01In, k_spec_l14Numbers, hno, go_sem]))
      all_goals first
        | exact finish_flat rfl (List.prefix_append _ _)
        | exact absurd (by simp only [Bool.and_eq_true, decide_eq_true_eq] at *; omega) hy
  · have hy : AskOk op l := ⟨hop, fun j hj => hall j (by omega)⟩
    have hki : min i (numK op) = numK op := by unfold numK; split <;> (try split) <;> omega
    rw [hki] at t4
    simp only [t4, hy, go_sem]
    exact finish_flat rfl (List.prefix_append _ _)
end
end Go.Proofs.YthfeahanmbmjhaaGreatDoor.Ab
set_option linter.unusedSimpArgs false
set_option linter.unusedVariables false
set_option linter.unnecessarySimpa false
set_option maxHeartbeats 4000000
namespace Go.Proofs.YthfeahanmbmjhaaGreatDoor.Ab
open Go.RowKit
section
variable {X : CallF} {h : Heap} {v : Value} {l : List Int} {op a b w1 w2 w3 : Int}
theorem k_impl_told : ∃ v hh, C T X n_impl_told [askV op a b w1 w2 w3] h = some (v, hh) ∧ Acc h 1 y_int v (ints ([a, b, w1, w2, w3].take (numK op))) hh := by
  by_cases h1 : op = 1 ∨ op = 3 ∨ op = 5
  · refine ⟨.slice (some ⟨h.length, 0, none⟩) 1 1, h ++ [⟨[.int .i64 a], 1, y_int, true⟩], ?_, ?_⟩
    · refine C_go t_impl_told rfl ?_
      unfold F_impl_told askV
      simp only [go_sem]
      repeat' (first | (refine w_any (by simp only [go_sem]; rfl) ?_ ?_ <;> intro hc <;> (try simp only [decide_eq_true_eq, decide_eq_false_iff_not, Decidable.not_not, Bool.not_eq_true', Bool.not_eq_false'] at hc) <;> simp only [hc, go_sem]) | (refine so_any (by simp only [go_sem]; rfl) ?_ ?_ <;> intro hc <;> (try simp only [decide_eq_true_eq, decide_eq_false_iff_not, Decidable.not_not, Bool.not_eq_true', Bool.not_eq_false'] at hc) <;> simp only [hc, go_sem]) | (refine so_any' (by simp only [go_sem]; rfl) ?_ ?_ <;> intro hc <;> (try simp only [decide_eq_true_eq, decide_eq_false_iff_not, Decidable.not_not, Bool.not_eq_true', Bool.not_eq_false'] at hc) <;> simp only [hc, go_sem]) | (refine sf_any (by simp only [go_sem]; rfl) ?_ ?_ <;> intro hc <;> (try simp only [decide_eq_true_eq, decide_eq_false_iff_not, Decidable.not_not, Bool.not_eq_true', Bool.not_eq_false'] at hc) <;> simp only [hc, go_sem]) | (refine sf_any' (by simp only [go_sem]; rfl) ?_ ?_ <;> intro hc <;> (try simp only [decide_eq_true_eq, decide_eq_false_iff_not, Decidable.not_not, Bool.not_eq_true', Bool.not_eq_false'] at hc) <;> simp only [hc, go_sem]))
      all_goals first | exact finish_deep rfl | omega
    · have e : numK op = 1 := by unfold numK; rw [if_pos h1]
      rw [e]
      exact Acc.made (rws := ints [a]) ints_row
  by_cases h2 : op = 2
  · refine ⟨.slice (some ⟨h.length, 0, none⟩) 5 5, h ++ [⟨[.int .i64 a, .int .i64 b, .int .i64 w1, .int .i64 w2, .int .i64 w3], 1, y_int, true⟩], ?_, ?_⟩
    · refine C_go t_impl_told rfl ?_
      unfold F_impl_told askV
      simp only [go_sem]
      repeat' (first | (refine w_any (by simp only [go_sem]; rfl) ?_ ?_ <;> intro hc <;> (try simp only [decide_eq_true_eq, decide_eq_false_iff_not, Decidable.not_not, Bool.not_eq_true', Bool.not_eq_false'] at hc) <;> simp only [hc, go_sem]) | (refine so_any (by simp only [go_sem]; rfl) ?_ ?_ <;> intro hc <;> (try simp only [decide_eq_true_eq, decide_eq_false_iff_not, Decidable.not_not, Bool.not_eq_true', Bool.not_eq_false'] at hc) <;> simp only [hc, go_sem]) | (refine so_any' (by simp only [go_sem]; rfl) ?_ ?_ <;> intro hc <;> (try simp only [decide_eq_true_eq, decide_eq_false_iff_not, Decidable.not_not, Bool.not_eq_true', Bool.not_eq_false'] at hc) <;> simp only [hc, go_sem]) | (refine sf_any (by simp only [go_sem]; rfl) ?_ ?_ <;> intro hc <;> (try simp only [decide_eq_true_eq, decide_eq_false_iff_not, Decidable.not_not, Bool.not_eq_true', Bool.not_eq_false'] at hc) <;> simp only [hc, go_sem]) | (refine sf_any' (by simp only [go_sem]; rfl) ?_ ?_ <;> intro hc <;> (try simp only [decide_eq_true_eq, decide_eq_false_iff_not, Decidable.not_not, Bool.not_eq_true', Bool.not_eq_false'] at hc) <;> simp only [hc, go_sem]))
      all_goals first | exact finish_deep rfl | omega
    · have e : numK op = 5 := by unfold numK; rw [if_neg h1, if_pos h2]
      rw [e]
      exact Acc.made (rws := ints [a, b, w1, w2, w3]) ints_row
  · refine ⟨.slice none 0 0, h, ?_, ?_⟩
    · refine C_go t_impl_told rfl ?_
      unfold F_impl_told askV
      simp only [go_sem]
      repeat' (first | (refine w_any (by simp only [go_sem]; rfl) ?_ ?_ <;> intro hc <;> (try simp only [decide_eq_true_eq, decide_eq_false_iff_not, Decidable.not_not, Bool.not_eq_true', Bool.not_eq_false'] at hc) <;> simp only [hc, go_sem]) | (refine so_any (by simp only [go_sem]; rfl) ?_ ?_ <;> intro hc <;> (try simp only [decide_eq_true_eq, decide_eq_false_iff_not, Decidable.not_not, Bool.not_eq_true', Bool.not_eq_false'] at hc) <;> simp only [hc, go_sem]) | (refine so_any' (by simp only [go_sem]; rfl) ?_ ?_ <;> intro hc <;> (try simp only [decide_eq_true_eq, decide_eq_false_iff_not, Decidable.not_not, Bool.not_eq_true', Bool.not_eq_false'] at hc) <;> simp only [hc, go_sem]) | (refine sf_any (by simp only [go_sem]; rfl) ?_ ?_ <;> intro hc <;> (try simp only [decide_eq_true_eq, decide_eq_false_iff_not, Decidable.not_not, Bool.not_eq_true', Bool.not_eq_false'] at hc) <;> simp only [hc, go_sem]) | (refine sf_any' (by simp only [go_sem]; rfl) ?_ ?_ <;> intro hc <;> (try simp only [decide_eq_true_eq, decide_eq_false_iff_not, Decidable.not_not, Bool.not_eq_true', Bool.not_eq_false'] at hc) <;> simp only [hc, go_sem]))
      all_goals first | rfl | omega | (exfalso; omega)
    · have e : numK op = 0 := by unfold numK; rw [if_neg h1, if_neg h2]
      rw [e]
      exact Acc.nil
theorem numK_cases (op : Int) : numK op = 0 ∨ numK op = 1 ∨ numK op = 5 := by unfold numK; split <;> (try split) <;> simp
open Classical in
theorem k_impl_AskText : C T X n_impl_AskText [askV op a b w1 w2 w3] h = some (.tuple ⟨[.string (if AskOk op [a, b, w1, w2, w3] then askText op [a, b, w1, w2, w3] else noT), .bool (decide (AskOk op [a, b, w1, w2, w3]))]⟩, h) := by
  refine C_go t_impl_AskText rfl ?_
  unfold F_impl_AskText
  obtain ⟨v, hh, ht, hacc⟩ := k_impl_told (X := X) (h := h) (op := op) (a := a) (b := b) (w1 := w1) (w2 := w2) (w3 := w3)
  unfold askV at ht ⊢
  obtain ⟨l, hl⟩ : ∃ l, l = [a, b, w1, w2, w3] := ⟨_, rfl⟩
  have ga : l.getD 0 0 = a := by rw [hl]; rfl
  have gb : l.getD 1 0 = b := by rw [hl]; rfl
  have g1 : l.getD 2 0 = w1 := by rw [hl]; rfl
  have g2 : l.getD 3 0 = w2 := by rw [hl]; rfl
  have g3 : l.getD 4 0 = w3 := by rw [hl]; rfl
  have hlen : l.length = 5 := by rw [hl]; rfl
  rw [← hl] at hacc ⊢
  have hrow := hacc.rows
  have hln := ints_ln hrow
  have hlk : (l.take (numK op)).length = numK op := by rw [List.length_take, hlen]; rcases numK_cases op with e | e | e <;> rw [e] <;> rfl
  rw [hlk] at hln
  have hup := hacc.up
  by_cases hcc : (1 ≤ op ∧ op ≤ 6) ∧ (numK op < 5 → b = 0 ∧ w1 = 0 ∧ w2 = 0 ∧ w3 = 0) ∧ (numK op = 0 → a = 0)
  rotate_left
  · have hno : ¬ AskOk op l := fun g => hcc ⟨g.1, fun hk => by
      rcases numK_cases op with e | e | e
      · rw [← gb, ← g1, ← g2, ← g3]
        exact ⟨(g.2 1 (by omega)).2 (by omega), (g.2 2 (by omega)).2 (by omega), (g.2 3 (by omega)).2 (by omega), (g.2 4 (by omega)).2 (by omega)⟩
      · rw [← gb, ← g1, ← g2, ← g3]
        exact ⟨(g.2 1 (by omega)).2 (by omega), (g.2 2 (by omega)).2 (by omega), (g.2 3 (by omega)).2 (by omega), (g.2 4 (by omega)).2 (by omega)⟩
      · omega, fun hk => by rw [← ga]; exact (g.2 0 (by omega)).2 (by omega)⟩
    simp only [ht, hln, k_impl_in, hno, go_sem]
    repeat' (first | (refine w_any (by simp only [ht, hln, k_impl_in, hno, go_sem]; rfl) ?_ ?_ <;> intro hc <;> (try simp only [decide_eq_true_eq, decide_eq_false_iff_not, Decidable.not_not, Bool.not_eq_true', Bool.not_eq_false'] at hc) <;> simp only [hc, ht, hln, k_impl_in, hno, go_sem]) | (refine so_any (by simp only [ht, hln, k_impl_in, hno, go_sem]; rfl) ?_ ?_ <;> intro hc <;> (try simp only [decide_eq_true_eq, decide_eq_false_iff_not, Decidable.not_not, Bool.not_eq_true', Bool.not_eq_false'] at hc) <;> simp only [hc, ht, hln, k_impl_in, hno, go_sem]) | (refine so_any' (by simp only [ht, hln, k_impl_in, hno, go_sem]; rfl) ?_ ?_ <;> intro hc <;> (try simp only [decide_eq_true_eq, decide_eq_false_iff_not, Decidable.not_not, Bool.not_eq_true', Bool.not_eq_false'] at hc) <;> simp only [hc, ht, hln, k_impl_in, hno, go_sem]) | (refine sf_any (by simp only [ht, hln, k_impl_in, hno, go_sem]; rfl) ?_ ?_ <;> intro hc <;> (try simp only [decide_eq_true_eq, decide_eq_false_iff_not, Decidable.not_not, Bool.not_eq_true', Bool.not_eq_false'] at hc) <;> simp only [hc, ht, hln, k_impl_in, hno, go_sem]) | (refine sf_any' (by simp only [ht, hln, k_impl_in, hno, go_sem]; rfl) ?_ ?_ <;> intro hc <;> (try simp only [decide_eq_true_eq, decide_eq_false_iff_not, Decidable.not_not, Bool.not_eq_true', Bool.not_eq_false'] at hc) <;> simp only [hc, ht, hln, k_impl_in, hno, go_sem]))
    all_goals first
      | exact finish_flat rfl hup
      | exact absurd (by simp only [Bool.and_eq_true, decide_eq_true_eq] at *; omega) hcc
  obtain ⟨hop, hz, hz0⟩ := hcc
  have hop1 : 1 ≤ op := hop.1
  have hop2 : op ≤ 6 := hop.2
  have hu8 : IntKind.u8.wrap op = op := wu8 (by omega) (by omega)
  have hst : strLV 1 (some [.int .u8 op]) = some (.string (strOfNums [op])) := rfl
  have hs : (strOfNums [op]).size + (catV noT (l.take (numK op))).size ≤ 9223372036854775807 := by
    have := catV_size (s := noT) (l := l.take (numK op))
    have : noT.size = 0 := rfl
    have : (strOfNums [op]).size = 1 := rfl
    have := numK_cases op
    omega
  -- the numbers that are told
  have hAsk : (∀ j, j < numK op → 0 ≤ l.getD j 0 ∧ l.getD j 0 ≤ 1000000000) → AskOk op l := fun hall => by
    refine ⟨hop, fun j hj => ?_⟩
    by_cases hjk : j < numK op
    · exact ⟨hall j hjk, fun hk => by omega⟩
    · have h0 : l.getD j 0 = 0 := by
        rcases numK_cases op with e | e | e
        · obtain ⟨q1, q2, q3, q4⟩ := hz (by omega)
          have q5 := hz0 e
          match j, hj with
          | 0, _ => omega
          | 1, _ => omega
          | 2, _ => omega
          | 3, _ => omega
          | 4, _ => omega
        · obtain ⟨q1, q2, q3, q4⟩ := hz (by omega)
          match j, hj with
          | 0, _ => omega
          | 1, _ => omega
          | 2, _ => omega
          | 3, _ => omega
          | 4, _ => omega
        · omega
      rw [h0]
      exact ⟨by omega, fun _ => rfl⟩
  have hNo : ∀ j, j < numK op → ¬ (0 ≤ l.getD j 0 ∧ l.getD j 0 ≤ 1000000000) → ¬ AskOk op l := fun j hj hn g => hn (g.2 j (by have := numK_cases op; omega)).1
  have hgd : ∀ j, j < numK op → (l.take (numK op)).getD j 0 = l.getD j 0 := fun j hj => by
    simp [List.getD_eq_getElem?_getD, List.getElem?_take, hj]
  have htxt : strOfNums [op] ++ catV noT (l.take (numK op)) = askText op l := catV_from
  have hln3 : ∀ n : Nat, numK op = n → lnV hh v = some (.int .i64 (n : Int)) := fun n e => by rw [hln, e]
  rcases numK_cases op with e | e | e
  · have hl3 : lnV hh v = some (.int .i64 0) := hln3 0 e
    obtain ⟨rfl, rfl, rfl, rfl⟩ := hz (by omega)
    obtain rfl := hz0 e
    simp only [ht, hl3, k_impl_in, hop1, hop2, go_sem]
    refine w_for (numK op) (fun i t loc h' => h' = hh ∧ loc 1 = some [.int .i64 op, .int .i64 0, .int .i64 0, .int .i64 0, .int .i64 0, .int .i64 0] ∧ t 4 = v ∧ t 48 = v ∧ t 49 = .int .i64 (numK op) ∧ t 50 = .int .i64 i ∧
      ∀ j, j < i → 0 ≤ l.getD j 0 ∧ l.getD j 0 ≤ 1000000000) ⟨rfl, rfl, rfl, rfl, by simp [upd, e], rfl, fun j hj => by omega⟩ ?_
    rintro i t loc h' hi ⟨rfl, l1, t4, t48, t49, t50, hall⟩
    simp only [t49, t50, go_sem]
    refine w_open (by simp only [t49, t50, go_sem]; rfl) ?_ ?_ <;> intro hc
    · have hi1 : i < (l.take (numK op)).length := by omega
      have hw : IntKind.i64.wrap ((i : Int) + 1) = ((i + 1 : Nat) : Int) := w64 (by omega) (by omega)
      have hg := hgd i (by omega)
      by_cases hy : 0 ≤ l.getD i 0 ∧ l.getD i 0 ≤ 1000000000
      · have hy1 := hy.1
        have hy2 := hy.2
        simp only [l1, t4, t48, t49, t50, int_el hrow hi1, hg, k_impl_in, hy1, hy2, hw, go_sem]
        refine ⟨by omega, fun j hj => ?_⟩
        by_cases e : j = i
        · subst e; exact hy
        · exact hall j (by omega)
      · have hy' : (decide (0 ≤ l.getD i 0) && decide (l.getD i 0 ≤ 1000000000)) = false := by simp only [Bool.and_eq_false_iff, decide_eq_false_iff_not]; omega
        have hno := hNo i (by omega) hy
        simp only [l1, t4, t48, t49, t50, int_el hrow hi1, hg, k_impl_in, hy', hno, hw, go_sem]
        exact finish_flat rfl hup
    · have hi2 : i = numK op := by omega
      subst hi2
      have hyes := hAsk hall
      simp only [l1, t4, hu8, hst, k_impl_vars hrow (by omega), hs, hyes, htxt, List.prefix_refl, go_sem]
      exact finish_flat rfl hup
  · have hl3 : lnV hh v = some (.int .i64 1) := hln3 1 e
    obtain ⟨rfl, rfl, rfl, rfl⟩ := hz (by omega)
    simp only [ht, hl3, k_impl_in, hop1, hop2, go_sem]
    refine w_for (numK op) (fun i t loc h' => h' = hh ∧ loc 1 = some [.int .i64 op, .int .i64 a, .int .i64 0, .int .i64 0, .int .i64 0, .int .i64 0] ∧ t 4 = v ∧ t 48 = v ∧ t 49 = .int .i64 (numK op) ∧ t 50 = .int .i64 i ∧
      ∀ j, j < i → 0 ≤ l.getD j 0 ∧ l.getD j 0 ≤ 1000000000) ⟨rfl, rfl, rfl, rfl, by simp [upd, e], rfl, fun j hj => by omega⟩ ?_
    rintro i t loc h' hi ⟨rfl, l1, t4, t48, t49, t50, hall⟩
    simp only [t49, t50, go_sem]
    refine w_open (by simp only [t49, t50, go_sem]; rfl) ?_ ?_ <;> intro hc
    · have hi1 : i < (l.take (numK op)).length := by omega
      have hw : IntKind.i64.wrap ((i : Int) + 1) = ((i + 1 : Nat) : Int) := w64 (by omega) (by omega)
      have hg := hgd i (by omega)
      by_cases hy : 0 ≤ l.getD i 0 ∧ l.getD i 0 ≤ 1000000000
      · have hy1 := hy.1
        have hy2 := hy.2
        simp only [l1, t4, t48, t49, t50, int_el hrow hi1, hg, k_impl_in, hy1, hy2, hw, go_sem]
        refine ⟨by omega, fun j hj => ?_⟩
        by_cases e : j = i
        · subst e; exact hy
        · exact hall j (by omega)
      · have hy' : (decide (0 ≤ l.getD i 0) && decide (l.getD i 0 ≤ 1000000000)) = false := by simp only [Bool.and_eq_false_iff, decide_eq_false_iff_not]; omega
        have hno := hNo i (by omega) hy
        simp only [l1, t4, t48, t49, t50, int_el hrow hi1, hg, k_impl_in, hy', hno, hw, go_sem]
        exact finish_flat rfl hup
    · have hi2 : i = numK op := by omega
      subst hi2
      have hyes := hAsk hall
      simp only [l1, t4, hu8, hst, k_impl_vars hrow (by omega), hs, hyes, htxt, List.prefix_refl, go_sem]
      exact finish_flat rfl hup
  · have hl3 : lnV hh v = some (.int .i64 5) := hln3 5 e
    simp only [ht, hl3, k_impl_in, hop1, hop2, go_sem]
    refine w_for (numK op) (fun i t loc h' => h' = hh ∧ loc 1 = some [.int .i64 op, .int .i64 a, .int .i64 b, .int .i64 w1, .int .i64 w2, .int .i64 w3] ∧ t 4 = v ∧ t 48 = v ∧ t 49 = .int .i64 (numK op) ∧ t 50 = .int .i64 i ∧
      ∀ j, j < i → 0 ≤ l.getD j 0 ∧ l.getD j 0 ≤ 1000000000) ⟨rfl, rfl, rfl, rfl, by simp [upd, e], rfl, fun j hj => by omega⟩ ?_
    rintro i t loc h' hi ⟨rfl, l1, t4, t48, t49, t50, hall⟩
    simp only [t49, t50, go_sem]
    refine w_open (by simp only [t49, t50, go_sem]; rfl) ?_ ?_ <;> intro hc
    · have hi1 : i < (l.take (numK op)).length := by omega
      have hw : IntKind.i64.wrap ((i : Int) + 1) = ((i + 1 : Nat) : Int) := w64 (by omega) (by omega)
      have hg := hgd i (by omega)
      by_cases hy : 0 ≤ l.getD i 0 ∧ l.getD i 0 ≤ 1000000000
      · have hy1 := hy.1
        have hy2 := hy.2
        simp only [l1, t4, t48, t49, t50, int_el hrow hi1, hg, k_impl_in, hy1, hy2, hw, go_sem]
        refine ⟨by omega, fun j hj => ?_⟩
        by_cases e : j = i
        · subst e; exact hy
        · exact hall j (by omega)
      · have hy' : (decide (0 ≤ l.getD i 0) && decide (l.getD i 0 ≤ 1000000000)) = false := by simp only [Bool.and_eq_false_iff, decide_eq_false_iff_not]; omega
        have hno := hNo i (by omega) hy
        simp only [l1, t4, t48, t49, t50, int_el hrow hi1, hg, k_impl_in, hy', hno, hw, go_sem]
        exact finish_flat rfl hup
    · have hi2 : i = numK op := by omega
      subst hi2
      have hyes := hAsk hall
      simp only [l1, t4, hu8, hst, k_impl_vars hrow (by omega), hs, hyes, htxt, List.prefix_refl, go_sem]
      exact finish_flat rfl hup
end
end Go.Proofs.YthfeahanmbmjhaaGreatDoor.Ab
set_option linter.unusedSimpArgs false
set_option linter.unusedVariables false
set_option linter.unnecessarySimpa false
set_option maxHeartbeats 4000000
namespace Go.Proofs.YthfeahanmbmjhaaGreatDoor.Ab
open Go.RowKit
/-- An edge between two vertices. -/
abbrev Join (a b : Int) (e : E) : Prop := (e.a = a ∧ e.b = b) ∨ (e.a = b ∧ e.b = a)
section
variable {X : CallF} {h : Heap} {a v : Value} {l : List Int} {es : List E} {n x y size : Int}
end
end Go.Proofs.YthfeahanmbmjhaaGreatDoor.Ab
set_option linter.unusedSimpArgs false
set_option linter.unusedVariables false
set_option linter.unnecessarySimpa false
set_option maxHeartbeats 4000000
namespace Go.Proofs.YthfeahanmbmjhaaGreatDoor.Ab
/-- One can go from one to the other. -/
inductive Conn (R : Int → Int → Prop) (a : Int) : Int → Prop
  | refl : Conn R a a
  | step {b c : Int} (h : Conn R a b) (r : R b c) : Conn R a c
section
variable {R S : Int → Int → Prop} {a b c : Int}
theorem Conn.one (r : R a b) : Conn R a b := .step .refl r
theorem Conn.trans (h : Conn R a b) (k : Conn R b c) : Conn R a c := by
  induction k with
  | refl => exact h
  | step _ r ih => exact .step ih r
theorem Conn.symm (hs : ∀ {x y}, R x y → R y x) (h : Conn R a b) : Conn R b a := by
  induction h with
  | refl => exact .refl
  | step _ r ih => exact (Conn.one (hs r)).trans ih
theorem Conn.imp (hi : ∀ {x y}, R x y → S x y) (h : Conn R a b) : Conn S a b := by
  induction h with
  | refl => exact .refl
  | step _ r ih => exact .step ih (hi r)
theorem Conn.ends (h : Conn R a b) (hr : ∀ {x y}, R x y → S x y) : a = b ∨ ∃ x y, S a x ∧ S y b := by
  induction h with
  | refl => exact .inl rfl
  | step h r ih =>
    rcases ih with rfl | ⟨x, y, h1, _⟩
    · exact .inr ⟨_, _, hr r, hr r⟩
    · exact .inr ⟨x, _, h1, hr r⟩
end
/-- Two vertices have an edge, and neither is left out. -/
def Adj (es : List E) (out : List Int) (a b : Int) : Prop := (∃ e ∈ es, Join a b e) ∧ ¬ a ∈ out ∧ ¬ b ∈ out
theorem Adj.symm {es : List E} {out : List Int} {a b : Int} (h : Adj es out a b) : Adj es out b a := by
  obtain ⟨⟨e, he, hj⟩, h1, h2⟩ := h
  exact ⟨⟨e, he, Or.symm hj⟩, h2, h1⟩
abbrev Cn (es : List E) (out : List Int) (a b : Int) : Prop := Conn (Adj es out) a b
theorem Cn.symm {es : List E} {out : List Int} {a b : Int} (h : Cn es out a b) : Cn es out b a := Conn.symm Adj.symm h
end Go.Proofs.YthfeahanmbmjhaaGreatDoor.Ab
set_option linter.unusedSimpArgs false
set_option linter.unusedVariables false
set_option linter.unnecessarySimpa false
set_option maxHeartbeats 4000000
namespace Go.Proofs.YthfeahanmbmjhaaGreatDoor.Ab
open Go.RowKit
theorem ints_set {l : List Int} {i : Nat} {n : Int} : (ints l).set i [.int .i64 n] = ints (l.set i n) := by simp [ints, List.map_set]
theorem getD_set {l : List Int} {i j : Nat} {n : Int} (hi : i < l.length) : (l.set i n).getD j 0 = if j = i then n else l.getD j 0 := by
  by_cases e : j = i
  · subst e; simp [hi]
  · rw [if_neg e]; simp [List.getElem?_set_ne (Ne.symm e)]
/-- One number of one's own list is written. -/
theorem Own.sti {h : Heap} {lo hi : Nat} {ty : TypeId} {v : Value} {l : List Int} (o : Own h lo hi 1 ty v (ints l)) {i : Nat} (hi' : i < l.length) (n : Int) :
    ∃ h', stC h (elemP v 1 i 0) [.int .i64 n] = some h' ∧ Same lo hi h h' ∧ Own h' lo hi 1 ty v (ints (l.set i n)) := by
  obtain ⟨h', h1, h2, h3⟩ := o.st (i := i) (by rw [ints_len]; exact hi') (k := 0) (vs := [.int .i64 n]) (Nat.le_refl _)
  refine ⟨h', h1, h2, ?_⟩
  have hil : i < (ints l).length := by rw [ints_len]; exact hi'
  have : putAt ((ints l)[i]'hil) 0 [.int .i64 n] = [.int .i64 n] := by rw [ints_get]; rfl
  rw [this, ints_set] at h3
  exact h3
section
variable {X : CallF} {h : Heap} {ev ov : Value} {es : List E} {out : List Int} {size : Int}
end
end Go.Proofs.YthfeahanmbmjhaaGreatDoor.Ab
set_option linter.unusedSimpArgs false
set_option linter.unusedVariables false
set_option linter.unnecessarySimpa false
set_option maxHeartbeats 4000000
namespace Go.Proofs.YthfeahanmbmjhaaGreatDoor.Ab
open Go.RowKit
theorem RowsG.sub {h : Heap} {v : Value} {gs : List Gp} (o : RowsG h v gs) {i : Nat} (hi : i ≤ gs.length) : ∃ v', slLV 2 v none (some (.int .i64 (i : Int))) h = some v' ∧ RowsG h v' (gs.take i) := by
  obtain ⟨vs, h1, h2⟩ := o
  obtain ⟨v', e, r⟩ := h1.sub (i := 0) (k := i) (lo := none) (hi := some (.int .i64 (i : Int))) (Nat.zero_le _) (by simpa using hi) (by omega) rfl rfl
  have hg : ∀ k, k < i → (gs.take i).getD k g0 = gs.getD k g0 := fun k hk => by simp [hk]
  refine ⟨v', e, vs, ?_, fun k hk => ?_⟩
  · have : gRows vs (gs.take i) = ((gRows vs gs).drop 0).take (i - 0) := by
      rw [List.drop_zero, Nat.sub_zero]
      unfold gRows
      rw [← List.map_take, List.take_range, List.length_take]
      apply List.map_congr_left
      intro k hk
      have hk' : k < i := by have := List.mem_range.1 hk; omega
      unfold gRow
      rw [hg k hk']
    rw [this]; exact r
  · have hk' : k < i := by simp at hk; omega
    rw [hg k hk']
    exact h2 k (by omega)
section
variable {X : CallF} {h : Heap} {v w ev yv gv : Value} {l m ys : List Int} {gs : List Gp} {es : List E} {e : E} {size z : Int}
end
end Go.Proofs.YthfeahanmbmjhaaGreatDoor.Ab
set_option linter.unusedSimpArgs false
set_option linter.unusedVariables false
set_option linter.unnecessarySimpa false
set_option maxHeartbeats 4000000
namespace Go.Proofs.YthfeahanmbmjhaaGreatDoor.Ab
open Go.RowKit
section
variable {α : Type} {s : ByteArray} {p q r : Nat × Bool} {l m : List Int}
/-- So many are read, as long as all is well. -/
def rdN (step : Nat × Bool → α × (Nat × Bool)) : Nat → Nat × Bool → List α × (Nat × Bool)
  | 0, p => ([], p)
  | n + 1, p => if p.2 = true then ([], p) else ((step p).1 :: (rdN step n (step p).2).1, (rdN step n (step p).2).2)
/-- On the way. -/
def RdTo (step : Nat × Bool → α × (Nat × Bool)) (n : Nat) (p0 : Nat × Bool) (L : List α) (k : Nat) (p : Nat × Bool) : Prop := rdN step n p0 = (L ++ (rdN step k p).1, (rdN step k p).2)
theorem RdTo.start {step : Nat × Bool → α × (Nat × Bool)} {n : Nat} : RdTo step n p [] n p := by unfold RdTo; simp
theorem RdTo.next {step : Nat × Bool → α × (Nat × Bool)} {n k : Nat} {p0 : Nat × Bool} {L : List α} (h : RdTo step n p0 L (k + 1) p) (hp : p.2 = false) : RdTo step n p0 (L ++ [(step p).1]) k (step p).2 := by
  unfold RdTo at *
  rw [h]
  have e : rdN step (k + 1) p = ((step p).1 :: (rdN step k (step p).2).1, (rdN step k (step p).2).2) := by
    rw [rdN, if_neg (by rw [hp]; simp)]
  rw [e]
  simp
theorem RdTo.done {step : Nat × Bool → α × (Nat × Bool)} {n k : Nat} {p0 : Nat × Bool} {L : List α} (h : RdTo step n p0 L k p) (hp : k = 0 ∨ p.2 = true) : rdN step n p0 = (L, p) := by
  unfold RdTo at h
  rw [h]
  rcases hp with rfl | hp
  · simp [rdN]
  · cases k with
    | zero => simp [rdN]
    | succ k => rw [rdN, if_pos hp]; simp
theorem rdN_len {step : Nat × Bool → α × (Nat × Bool)} : ∀ {n : Nat} {p : Nat × Bool}, (rdN step n p).1.length ≤ n
  | 0, _ => Nat.le_refl 0
  | n + 1, p => by
    rw [rdN]
    split
    · exact Nat.zero_le _
    · have := rdN_len (step := step) (n := n) (p := (step p).2)
      simp only [List.length_cons]
      omega
theorem RdTo.len {step : Nat × Bool → α × (Nat × Bool)} {n k : Nat} {p0 : Nat × Bool} {L : List α} (h : RdTo step n p0 L k p) : L.length ≤ n := by
  have h1 := rdN_len (step := step) (n := n) (p := p0)
  unfold RdTo at h
  rw [h] at h1
  simp only [List.length_append] at h1
  omega
theorem segN_append {a b c : Nat} (h1 : a ≤ b) (h2 : b ≤ c) : segN s a c = segN s a b ++ segN s b c := by
  unfold segN
  rw [← List.map_append]
  congr 1
  have := List.take_append_drop (b - a) ((s.data.toList.drop a).take (c - a))
  rw [List.take_take, Nat.min_eq_left (by omega), List.drop_take, List.drop_drop, show a + (b - a) = b by omega, show c - a - (b - a) = c - b by omega] at this
  exact this.symm
def bysOf (l : List Int) : List Int := l.flatMap fun n => varL n.toNat
theorem bysOf_append : bysOf (l ++ m) = bysOf l ++ bysOf m := by simp [bysOf]
/-- All that was read, well. -/
def Rd (s : ByteArray) (p q : Nat × Bool) (l : List Int) : Prop := p.2 = false ∧ q.2 = false ∧ p.1 ≤ q.1 ∧ q.1 ≤ s.size ∧ segN s p.1 q.1 = bysOf l ∧ ∀ x ∈ l, 0 ≤ x ∧ x ≤ 1000000000
theorem Rd.nil (h : p.2 = false) (hp : p.1 ≤ s.size) : Rd s p p [] := ⟨h, h, Nat.le_refl _, hp, segN_nil, fun x hx => absurd hx List.not_mem_nil⟩
theorem Rd.trans (a : Rd s p q l) (b : Rd s q r m) : Rd s p r (l ++ m) := by
  obtain ⟨a1, a2, a3, a4, a5, a6⟩ := a
  obtain ⟨b1, b2, b3, b4, b5, b6⟩ := b
  refine ⟨a1, b2, by omega, b4, ?_, fun x hx => (List.mem_append.1 hx).elim (a6 x) (b6 x)⟩
  rw [segN_append a3 b3, a5, b5, bysOf_append]
theorem Rd.le (a : Rd s p q l) : p.1 ≤ s.size := by obtain ⟨_, _, h1, h2, _⟩ := a; omega
end
section
variable {s : ByteArray}
end
end Go.Proofs.YthfeahanmbmjhaaGreatDoor.Ab
