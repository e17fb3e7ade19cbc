/- Joined: P13, P14. No conditions. -/
import Derived.Test.YtgmljppiiighmaaGreatDoorM4
import Derived.Lib.AtoiAll
import Derived.Lib.ItoaNum
set_option linter.unusedSimpArgs false
set_option linter.unusedVariables false
set_option linter.unnecessarySimpa false
set_option maxHeartbeats 4000000
namespace Go.Proofs.YtgmljppiiighmaaGreatDoor.Ab
open Go.RowKit
theorem bytes_ext {s : ByteArray} {L : List Int} (hs : s.size = L.length) (hr : ∀ x ∈ L, 0 ≤ x ∧ x < 256) (h : ∀ i, i < L.length → ((byt s i : Nat) : Int) = L.getD i 0) : s = strOfNums L := by
  apply ByteArray.ext
  apply Array.toList_inj.1
  rw [strOfNums_data]
  apply List.ext_getElem
  · rw [List.length_map, ← hs]
    exact size_list
  · intro i h1 h2
    have hi : i < L.length := by simpa using h2
    have := h i hi
    unfold byt at this
    rw [List.getD_eq_getElem?_getD, List.getElem?_eq_getElem h1, Option.getD_some, List.getD_eq_getElem?_getD, List.getElem?_eq_getElem hi, Option.getD_some] at this
    rw [List.getElem_map]
    have hx := hr _ (List.getElem_mem hi)
    apply UInt8.toNat_inj.1
    have e2 : (UInt8.ofNat L[i].toNat).toNat = L[i].toNat % 256 := by simp
    rw [e2]
    omega
theorem byt_nums {L : List Int} (hr : ∀ x ∈ L, 0 ≤ x ∧ x < 256) {i : Nat} (hi : i < L.length) : ((byt (strOfNums L) i : Nat) : Int) = L.getD i 0 := by
  unfold byt
  rw [strOfNums_data]
  have hx := hr _ (getD_mem (d := 0) hi)
  have e : (L.map fun n => UInt8.ofNat n.toNat).getD i 0 = UInt8.ofNat (L.getD i 0).toNat := by simp [hi]
  rw [e]
  generalize L.getD i 0 = x at hx
  have e2 : (UInt8.ofNat x.toNat).toNat = x.toNat % 256 := by simp
  rw [e2]
  omega
theorem byt_ext {s : ByteArray} {a b i : Nat} (h : a + i < b) (hb : b ≤ s.size) : byt (s.extract a b) i = byt s (a + i) := by
  unfold byt
  rw [ByteArray.data_extract, Array.toList_extract]
  have hl : s.data.toList.length = s.size := size_list
  rw [List.extract_eq_take_drop, List.getD_eq_getElem?_getD, List.getElem?_take, if_pos (by omega), List.getElem?_drop, ← List.getD_eq_getElem?_getD]
/-- Two figures are read. -/
def rdTwo (s : ByteArray) : Option Nat := if s.size = 2 ∧ (48 ≤ byt s 0 ∧ byt s 0 ≤ 57) ∧ (48 ≤ byt s 1 ∧ byt s 1 ≤ 57) then some (10 * (byt s 0 - 48) + (byt s 1 - 48)) else none
theorem rdTwo_lt {s : ByteArray} {n : Nat} (h : rdTwo s = some n) : n < 100 := by
  unfold rdTwo at h
  split at h
  · cases h; omega
  · cases h
theorem key1 {k : ByteArray} {c i : Nat} (hc : c < 256) (hk : 1 ≤ k.size) (h0 : byt k 0 = c) : rdTwo (k.extract 1 k.size) = some i ↔ k = strOfNums ((c : Int) :: twoL i) ∧ i < 100 := by
  constructor
  · intro h
    have hi := rdTwo_lt h
    unfold rdTwo at h
    split at h
    · rename_i hx
      obtain ⟨h1, h2, h3⟩ := hx
      rw [ByteArray.size_extract] at h1
      have hs : k.size = 3 := by omega
      have e0 : byt (k.extract 1 k.size) 0 = byt k 1 := byt_ext (by omega) (Nat.le_refl _)
      have e1 : byt (k.extract 1 k.size) 1 = byt k 2 := byt_ext (by omega) (Nat.le_refl _)
      rw [e0] at h2
      rw [e1] at h3
      rw [e0, e1] at h
      have hv : i = 10 * (byt k 1 - 48) + (byt k 2 - 48) := (Option.some.inj h).symm
      refine ⟨bytes_ext (by rw [List.length_cons, twoL_len hi]; exact hs) (byte_rng (by omega) twoL_rng) fun j hj => ?_, hi⟩
      rw [twoL_two hi] at hj ⊢
      have : j = 0 ∨ j = 1 ∨ j = 2 := by simp at hj; omega
      rcases this with rfl | rfl | rfl
      · simp [h0]
      · simp; omega
      · simp; omega
    · cases h
  · rintro ⟨rfl, hi⟩
    have hs : (strOfNums ((c : Int) :: twoL i)).size = 3 := by rw [strOfNums_size, List.length_cons, twoL_len hi]
    have hrg : ∀ x ∈ (c : Int) :: twoL i, 0 ≤ x ∧ x < 256 := byte_rng (by omega) twoL_rng
    have hl : ((c : Int) :: twoL i).length = 3 := by rw [List.length_cons, twoL_len hi]
    have b1 := byt_nums hrg (i := 1) (by omega)
    have b2 := byt_nums hrg (i := 2) (by omega)
    rw [twoL_two hi] at b1 b2
    simp only [List.getD_cons_succ, List.getD_cons_zero] at b1 b2
    rw [← twoL_two hi] at b1 b2
    unfold rdTwo
    have e0 : byt ((strOfNums ((c : Int) :: twoL i)).extract 1 (strOfNums ((c : Int) :: twoL i)).size) 0 = byt (strOfNums ((c : Int) :: twoL i)) 1 := byt_ext (by omega) (Nat.le_refl _)
    have e1 : byt ((strOfNums ((c : Int) :: twoL i)).extract 1 (strOfNums ((c : Int) :: twoL i)).size) 1 = byt (strOfNums ((c : Int) :: twoL i)) 2 := byt_ext (by omega) (Nat.le_refl _)
    rw [e0, e1, if_pos ⟨by rw [ByteArray.size_extract]; omega, by omega, by omega⟩]
    congr 1
    omega
theorem key2 {k : ByteArray} {c a b : Nat} (hc : c < 256) (hk : k.size = 5) (h0 : byt k 0 = c) : (rdTwo (k.extract 1 3) = some a ∧ rdTwo (k.extract 3 5) = some b) ↔ k = strOfNums ((c : Int) :: (twoL a ++ twoL b)) ∧ a < 100 ∧ b < 100 := by
  have e0 : byt (k.extract 1 3) 0 = byt k 1 := byt_ext (by omega) (by omega)
  have e1 : byt (k.extract 1 3) 1 = byt k 2 := byt_ext (by omega) (by omega)
  have e2 : byt (k.extract 3 5) 0 = byt k 3 := byt_ext (by omega) (by omega)
  have e3 : byt (k.extract 3 5) 1 = byt k 4 := byt_ext (by omega) (by omega)
  have s1 : (k.extract 1 3).size = 2 := by rw [ByteArray.size_extract]; omega
  have s2 : (k.extract 3 5).size = 2 := by rw [ByteArray.size_extract]; omega
  constructor
  · rintro ⟨h1, h2⟩
    have ha := rdTwo_lt h1
    have hb := rdTwo_lt h2
    unfold rdTwo at h1 h2
    split at h1
    · split at h2
      · rename_i q1 q2
        rw [e0, e1] at q1 h1
        rw [e2, e3] at q2 h2
        have v1 := (Option.some.inj h1).symm
        have v2 := (Option.some.inj h2).symm
        refine ⟨bytes_ext (by rw [List.length_cons, List.length_append, twoL_len ha, twoL_len hb]; exact hk) (byte_rng (by omega) two2_rng) fun j hj => ?_, ha, hb⟩
        rw [twoL_two ha, twoL_two hb] at hj ⊢
        have : j = 0 ∨ j = 1 ∨ j = 2 ∨ j = 3 ∨ j = 4 := by simp at hj; omega
        rcases this with rfl | rfl | rfl | rfl | rfl
        · simp [h0]
        · simp; omega
        · simp; omega
        · simp; omega
        · simp; omega
      · cases h2
    · cases h1
  · rintro ⟨hkk, ha, hb⟩
    have hrg : ∀ x ∈ (c : Int) :: (twoL a ++ twoL b), 0 ≤ x ∧ x < 256 := byte_rng (by omega) two2_rng
    have hl : ((c : Int) :: (twoL a ++ twoL b)).length = 5 := by rw [List.length_cons, List.length_append, twoL_len ha, twoL_len hb]
    have b1 := byt_nums hrg (i := 1) (by omega)
    have b2 := byt_nums hrg (i := 2) (by omega)
    have b3 := byt_nums hrg (i := 3) (by omega)
    have b4 := byt_nums hrg (i := 4) (by omega)
    rw [← hkk, twoL_two ha, twoL_two hb] at b1 b2 b3 b4
    simp only [List.cons_append, List.nil_append, List.getD_cons_succ, List.getD_cons_zero] at b1 b2 b3 b4
    unfold rdTwo
    rw [e0, e1, e2, e3, if_pos ⟨s1, by omega, by omega⟩, if_pos ⟨s2, by omega, by omega⟩]
    exact ⟨by congr 1; omega, by congr 1; omega⟩
-- cutting
theorem ext_cat {s : ByteArray} {a : Nat} (h : a ≤ s.size) : s.extract 0 a ++ s.extract a s.size = s := by
  apply ByteArray.ext
  apply Array.toList_inj.1
  rw [ByteArray.data_append, Array.toList_append, ByteArray.data_extract, ByteArray.data_extract, Array.toList_extract, Array.toList_extract]
  have hl : s.data.toList.length = s.size := size_list
  rw [List.extract_eq_take_drop, List.extract_eq_take_drop, List.drop_zero, List.take_of_length_le (l := s.data.toList.drop a) (by rw [List.length_drop]; omega)]
  exact List.take_append_drop a s.data.toList
theorem catB_cons {x : ByteArray} {l : List ByteArray} : catB (x :: l) = x ++ catB l := by
  have key : ∀ (l : List ByteArray) (a b : ByteArray), l.foldl (· ++ ·) (a ++ b) = a ++ l.foldl (· ++ ·) b := by
    intro l
    induction l with
    | nil => intro a b; rfl
    | cons y l ih => intro a b; rw [List.foldl_cons, List.foldl_cons, ByteArray.append_assoc, ih]
  unfold catB
  rw [List.foldl_cons]
  have e : noT ++ x = x ++ noT := by rw [show noT = ByteArray.empty from rfl, ByteArray.empty_append, ByteArray.append_empty]
  rw [e]
  exact key l x noT
theorem cutF_cat : ∀ (f : Nat) (s : ByteArray), s.size < f → catB (cutF f s) = s
  | 0, s, h => by omega
  | f + 1, s, h => by
    unfold cutF
    split
    · rename_i hx
      rw [catB_cons, cutF_cat f _ (by rw [ByteArray.size_extract]; omega)]
      exact ext_cat (by omega)
    · split
      · rename_i _ hz
        apply ByteArray.ext
        apply Array.toList_inj.1
        have : s.data.toList = [] := List.eq_nil_of_length_eq_zero (by rw [size_list]; exact hz)
        rw [this]
        rfl
      · rw [catB_cons]
        show s ++ noT = s
        rw [show noT = ByteArray.empty from rfl, ByteArray.append_empty]
theorem cut_cat (s : ByteArray) : catB (cut s) = s := cutF_cat (s.size + 1) s (Nat.lt_succ_self _)
end Go.Proofs.YtgmljppiiighmaaGreatDoor.Ab
set_option linter.unusedSimpArgs false
set_option linter.unusedVariables false
set_option linter.unnecessarySimpa false
set_option maxHeartbeats 4000000
namespace Go.Proofs.YtgmljppiiighmaaGreatDoor.Ab
open Go.RowKit
theorem dec_digits : ∀ (k n : Nat), n < k → Lib.decDigits n = (decL n).map fun z => UInt8.ofNat z.toNat
  | 0, n, h => by omega
  | k + 1, n, h => by
    rw [Lib.decDigits, decL]
    by_cases h1 : n < 10
    · rw [dif_pos h1, if_pos h1]; simp only [List.map_cons, List.map_nil, Int.toNat_natCast]
    · rw [dif_neg h1, if_neg h1, dec_digits k (n / 10) (by omega)]; simp only [List.map_cons, List.map_nil, List.map_append, Int.toNat_natCast]
theorem decT_data {n : Nat} : (decT n).data.toList = Lib.decDigits n := by
  unfold decT
  rw [strOfNums_data, dec_digits (n + 1) n (by omega)]
theorem decT_lib {n : Nat} : (⟨(Lib.decDigits n).toArray⟩ : ByteArray) = decT n := by
  apply ByteArray.ext
  apply Array.toList_inj.1
  rw [decT_data]
theorem decT_inj {a b : Nat} (h : decT a = decT b) : a = b := by
  have := strOfNums_inj (fun x hx => by have := decL_rng (a + 1) a (by omega) x hx; omega) (fun x hx => by have := decL_rng (b + 1) b (by omega) x hx; omega) h
  have e1 := decL_val (a + 1) a (by omega)
  have e2 := decL_val (b + 1) b (by omega)
  rw [this] at e1
  omega
theorem parse_snoc : ∀ (l : List UInt8) (acc u : Nat) (c : UInt8), Lib.parseUint10 acc l = .ok u → 48 ≤ c.toNat ∧ c.toNat ≤ 57 → u < 1844674407370955161 → Lib.parseUint10 acc (l ++ [c]) = .ok (u * 10 + (c.toNat - 48))
  | [], acc, u, c, h, hc, hu => by
    simp only [Lib.parseUint10] at h
    injection h with h
    subst h
    simp only [List.nil_append, Lib.parseUint10, if_pos hc]
    rw [if_neg (by omega), if_neg (by omega)]
  | d :: l, acc, u, c, h, hc, hu => by
    simp only [Lib.parseUint10] at h
    simp only [List.cons_append, Lib.parseUint10]
    split at h
    · rename_i hd
      rw [if_pos hd]
      split at h
      · cases h
      · rename_i h1
        rw [if_neg h1]
        split at h
        · cases h
        · rename_i h2
          rw [if_neg h2]
          exact parse_snoc l _ u c h hc hu
    · cases h
theorem dig_nat {d : Nat} (h : d < 10) : (UInt8.ofNat (48 + d)).toNat = 48 + d := by
  rw [UInt8.toNat_ofNat']; omega
theorem parse_dec : ∀ (k n : Nat), n < k → n ≤ 1000000000 → Lib.parseUint10 0 (Lib.decDigits n) = .ok n
  | 0, n, h, _ => by omega
  | k + 1, n, h, hn => by
    rw [Lib.decDigits]
    by_cases h1 : n < 10
    · rw [dif_pos h1]
      have := parse_snoc [] 0 0 (UInt8.ofNat (48 + n)) (by simp [Lib.parseUint10]) (by rw [dig_nat h1]; omega) (by omega)
      rw [dig_nat h1] at this
      simpa using this
    · rw [dif_neg h1]
      have hd : n % 10 < 10 := Nat.mod_lt _ (by omega)
      have := parse_snoc (Lib.decDigits (n / 10)) 0 (n / 10) (UInt8.ofNat (48 + n % 10)) (parse_dec k (n / 10) (by omega) (by omega)) (by rw [dig_nat hd]; omega) (by omega)
      rw [dig_nat hd] at this
      rw [this]
      congr 1
      omega
theorem digits_head {n : Nat} : ∃ c r, Lib.decDigits n = c :: r ∧ 48 ≤ c.toNat ∧ c.toNat ≤ 57 := by
  rw [dec_digits (n + 1) n (by omega)]
  have h1 := decL_pos n
  have h2 := decL_rng (n + 1) n (by omega)
  cases hd : decL n with
  | nil => rw [hd] at h1; simp at h1
  | cons d r =>
    have := h2 d (by rw [hd]; simp)
    refine ⟨_, _, rfl, ?_⟩
    rw [UInt8.toNat_ofNat']
    omega
theorem atoi_dec {n : Nat} (hn : n ≤ 1000000000) : Lib.atoiAll (Lib.decDigits n) = .ok (n : Int) := by
  obtain ⟨c, r, h, h1, h2⟩ := digits_head (n := n)
  have hp := parse_dec (n + 1) n (by omega) hn
  rw [h] at hp ⊢
  simp only [Lib.atoiAll]
  rw [if_neg (by omega)]
  have : Lib.parseMag (c :: r) = .ok n := by unfold Lib.parseMag; rw [if_neg (by simp)]; exact hp
  rw [this]
  simp only
  rw [if_neg (by omega), if_neg (by omega), if_neg (by omega)]
open Classical in
/-- The number that a text spells, if it does. -/
noncomputable def rdDec (s : ByteArray) : Option Nat := if h : ∃ n, n ≤ 1000000000 ∧ s = decT n then some (Classical.choose h) else none
theorem rdDec_some {s : ByteArray} {n : Nat} : rdDec s = some n ↔ n ≤ 1000000000 ∧ s = decT n := by
  unfold rdDec
  by_cases h : ∃ n, n ≤ 1000000000 ∧ s = decT n
  · rw [dif_pos h]
    have hs := Classical.choose_spec h
    constructor
    · intro e; injection e with e; rw [e] at hs; exact hs
    · rintro ⟨h1, h2⟩; rw [decT_inj (hs.2.symm.trans h2)]
  · rw [dif_neg h]
    exact ⟨fun e => (nomatch e), fun e => absurd ⟨n, e⟩ h⟩
theorem rdDec_none {s : ByteArray} : rdDec s = none ↔ ∀ n, n ≤ 1000000000 → ¬ s = decT n := by
  constructor
  · intro h n hn e
    have := rdDec_some.2 ⟨hn, e⟩
    rw [h] at this; cases this
  · intro h
    cases e : rdDec s with
    | none => rfl
    | some n => have := rdDec_some.1 e; exact absurd this.2 (h n this.1)
theorem atoi_none {s : ByteArray} (h : ∀ v, Lib.atoiAll s.data.toList = .ok v → False) : rdDec s = none := rdDec_none.2 fun n hn e => h n (by rw [e, decT_data]; exact atoi_dec hn)
theorem atoi_ok {s : ByteArray} {v : Int} (h : Lib.atoiAll s.data.toList = .ok v) {n : Nat} (hn : rdDec s = some n) : v = n := by
  obtain ⟨h1, h2⟩ := rdDec_some.1 hn
  rw [h2, decT_data, atoi_dec h1] at h
  injection h with h
  exact h.symm
noncomputable def dcN (s : ByteArray) : Nat := (rdDec s).getD 0
noncomputable def dcB (s : ByteArray) : Bool := (rdDec s).isSome
end Go.Proofs.YtgmljppiiighmaaGreatDoor.Ab
