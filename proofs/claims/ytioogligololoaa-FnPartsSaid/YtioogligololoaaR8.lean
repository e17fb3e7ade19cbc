/- Texts as lists of bytes; numbers read. No conditions. -/
import Derived.Test.YtioogligololoaaP0
import Derived.Laws.StructEq
set_option linter.unusedSimpArgs false
set_option linter.unusedVariables false
set_option linter.unnecessarySimpa false
set_option maxHeartbeats 4000000
namespace Go.Proofs.Ytioogligololoaa.Ab
open Go.RowKit

theorem str_eq {a b : ByteArray} : (a.toList == b.toList) = decide (a = b) := by
  rw [ByteArray.toList_eq, ByteArray.toList_eq]
  by_cases h : a = b
  · subst h; rw [decide_eq_true rfl]; exact BEq.rfl
  · have h2 : ¬ a.data.toList = b.data.toList := fun e => h (ByteArray.ext (Array.toList_inj.1 e))
    rw [decide_eq_false h]
    exact beq_eq_false_iff_ne.2 h2
/-- A text's byte. -/
def byt (s : ByteArray) (i : Nat) : Nat := (s.data.toList.getD i 0).toNat
theorem byt_lt {s : ByteArray} {i : Nat} : byt s i < 256 := (s.data.toList.getD i 0).toNat_lt
theorem ix_byt {s : ByteArray} {i : Nat} (h : i < s.size) : ixV (.string s) (.int .i64 (i : Int)) = some (.int .u8 (byt s i : Nat)) := by
  simp only [ixV]
  rw [if_pos ⟨by omega, by omega⟩, Int.toNat_natCast]
  rfl
/-- A part of a text, as numbers. -/
def segN (s : ByteArray) (a b : Nat) : List Int := ((s.data.toList.drop a).take (b - a)).map fun x => (x.toNat : Int)
theorem size_list {s : ByteArray} : s.data.toList.length = s.size := Array.length_toList
theorem extract_seg {s : ByteArray} {a b : Nat} : s.extract a b = strOfNums (segN s a b) := by
  apply ByteArray.ext
  apply Array.toList_inj.1
  rw [strOfNums_data, ByteArray.data_extract, Array.toList_extract]
  unfold segN
  rw [List.map_map]
  have : ∀ l : List UInt8, l = l.map ((fun n : Int => UInt8.ofNat n.toNat) ∘ fun x => (x.toNat : Int)) := by
    intro l
    induction l with
    | nil => rfl
    | cons x l ih =>
      rw [List.map_cons, ← ih]
      simp
  rw [← this]
theorem segN_succ {s : ByteArray} {a b : Nat} (h : a ≤ b) (hb : b < s.size) : segN s a (b + 1) = segN s a b ++ [(byt s b : Int)] := by
  unfold segN byt
  have hl := size_list (s := s)
  have h1 : b + 1 - a = (b - a) + 1 := by omega
  have h2 : b - a < (s.data.toList.drop a).length := by rw [List.length_drop]; omega
  rw [h1, take_getD (d := 0) h2, List.map_append]
  have : (s.data.toList.drop a).getD (b - a) 0 = s.data.toList.getD b 0 := by
    simp only [List.getD_eq_getElem?_getD, List.getElem?_drop]
    rw [show a + (b - a) = b by omega]
  rw [this]
  rfl
theorem segN_nil {s : ByteArray} {a : Nat} : segN s a a = [] := by simp [segN]
theorem segN_rng {s : ByteArray} {a b : Nat} : ∀ x ∈ segN s a b, 0 ≤ x ∧ x < 256 := by
  intro x hx
  obtain ⟨u, _, rfl⟩ := List.mem_map.1 hx
  have := u.toNat_lt
  omega
theorem strOfNums_inj : ∀ {l m : List Int}, (∀ x ∈ l, 0 ≤ x ∧ x < 256) → (∀ x ∈ m, 0 ≤ x ∧ x < 256) → strOfNums l = strOfNums m → l = m := by
  intro l m hl hm h
  have h1 : (l.map fun n => UInt8.ofNat n.toNat) = m.map fun n => UInt8.ofNat n.toNat := by
    have := congrArg (fun b : ByteArray => b.data.toList) h
    simpa [strOfNums_data] using this
  clear h
  induction l generalizing m with
  | nil =>
    cases m with
    | nil => rfl
    | cons b m => simp at h1
  | cons a l ih =>
    cases m with
    | nil => simp at h1
    | cons b m =>
      simp only [List.map_cons, List.cons.injEq] at h1
      have ha := hl a List.mem_cons_self
      have hb := hm b List.mem_cons_self
      have e : a = b := by
        have h2 := congrArg UInt8.toNat h1.1
        simp only [UInt8.toNat_ofNat'] at h2
        rw [Nat.mod_eq_of_lt (by omega), Nat.mod_eq_of_lt (by omega)] at h2
        omega
      rw [e, ih (fun x hx => hl x (List.mem_cons_of_mem _ hx)) (fun x hx => hm x (List.mem_cons_of_mem _ hx)) h1.2]

/-- A number's bytes. -/
def varL (n : Nat) : List Int := if 127 < n then ((n % 128 + 128 : Nat) : Int) :: varL (n / 128) else [(n : Int)]
termination_by n
decreasing_by omega
/-- .. as a text. -/
def varT (n : Nat) : ByteArray := strOfNums (varL n)
theorem varL_rng : ∀ (k n : Nat), n < k → ∀ x ∈ varL n, 0 ≤ x ∧ x < 256 := by
  intro k
  induction k with
  | zero => intro n h; omega
  | succ k ih =>
    intro n h x hx
    unfold varL at hx
    split at hx
    · rcases List.mem_cons.1 hx with rfl | hx
      · omega
      · exact ih (n / 128) (by omega) x hx
    · rw [List.mem_singleton.1 hx]; omega
/-- What bytes tell. -/
def valB : List Int → Nat
  | [] => 0
  | b :: l => b.toNat % 128 + 128 * valB l
theorem valB_snoc : ∀ {l : List Int} {b : Int}, valB (l ++ [b]) = valB l + b.toNat % 128 * 128 ^ l.length
  | [], b => by simp [valB]
  | a :: l, b => by
    simp only [List.cons_append, valB, valB_snoc (l := l), List.length_cons, Nat.pow_succ, Nat.mul_add]
    rw [Nat.add_assoc]
    congr 2
    rw [Nat.mul_comm (128 ^ l.length) 128, ← Nat.mul_assoc, ← Nat.mul_assoc, Nat.mul_comm 128 (b.toNat % 128)]
/-- The bytes ahead of the last one go on; is it the number's own form? -/
theorem varL_form : ∀ {l : List Int} {b : Int}, (∀ x ∈ l, 128 ≤ x ∧ x < 256) → 0 ≤ b ∧ b < 128 → (varL (valB (l ++ [b])) = l ++ [b] ↔ (l = [] ∨ b ≠ 0))
  | [], b, _, hb => by
    have : valB ([] ++ [b]) = b.toNat := by simp [valB]; omega
    rw [this]
    unfold varL
    rw [if_neg (by omega)]
    simp
    omega
  | a :: l, b, hl, hb => by
    have ha := hl a List.mem_cons_self
    have ih := varL_form (l := l) (b := b) (fun x hx => hl x (List.mem_cons_of_mem _ hx)) hb
    have hv : valB (a :: l ++ [b]) = a.toNat % 128 + 128 * valB (l ++ [b]) := rfl
    rw [hv]
    have hd : (a.toNat % 128 + 128 * valB (l ++ [b])) / 128 = valB (l ++ [b]) := by omega
    have hm : (a.toNat % 128 + 128 * valB (l ++ [b])) % 128 = a.toNat % 128 := by omega
    by_cases h0 : valB (l ++ [b]) = 0
    · -- nothing stands behind: the shorter form is another one
      rw [h0]
      have hb0 : b = 0 := by
        rw [valB_snoc] at h0
        have hp : 0 < 128 ^ l.length := Nat.pow_pos (by omega)
        have : b.toNat % 128 * 128 ^ l.length = 0 := by omega
        rcases Nat.mul_eq_zero.1 this with h | h
        · omega
        · omega
      unfold varL
      rw [if_neg (by omega)]
      constructor
      · intro h
        simp at h
      · rintro (h | h)
        · cases h
        · exact absurd hb0 h
    · unfold varL
      rw [if_pos (by omega), hd, hm]
      have e : ((a.toNat % 128 + 128 : Nat) : Int) = a := by omega
      rw [e]
      simp only [List.cons_append, List.cons.injEq, true_and]
      rw [ih]
      constructor
      · rintro (h | h)
        · subst h
          refine .inr fun hb0 => h0 ?_
          subst hb0
          simp [valB]
        · exact .inr h
      · rintro (h | h)
        · cases h
        · exact .inr h

/-- What is read from a place on. -/
def rvGo (s : ByteArray) (at0 : Nat) : Nat → Nat → Nat → Nat → Option (Nat × Nat)
  | 0, _, _, _ => none
  | f + 1, i, n, u => if i < s.size then
      (if byt s i < 128 then (if (byt s i = 0 ∧ at0 < i) ∨ 1000000000 < n + byt s i % 128 * u then none else some (n + byt s i % 128 * u, i + 1))
      else rvGo s at0 f (i + 1) (n + byt s i % 128 * u) (u * 128))
    else none
def rdVar (s : ByteArray) (a : Nat) : Option (Nat × Nat) := rvGo s a 5 a 0 1
theorem rvGo_bnd {s : ByteArray} {a : Nat} : ∀ {f i n u m k : Nat}, rvGo s a f i n u = some (m, k) → m ≤ 1000000000 ∧ i < k ∧ k ≤ i + f ∧ k ≤ s.size
  | 0, _, _, _, _, _, h => by cases h
  | f + 1, i, n, u, m, k, h => by
    unfold rvGo at h
    split at h
    · split at h
      · split at h
        · cases h
        · simp only [Option.some.injEq, Prod.mk.injEq] at h
          omega
      · have := rvGo_bnd h
        omega
    · cases h
end Go.Proofs.Ytioogligololoaa.Ab
