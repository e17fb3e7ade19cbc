/- Contracts: lists of numbers compared; the blocking set. No conditions. -/
import Derived.Test.YtioogligololoaaK16
set_option linter.unusedSimpArgs false
set_option linter.unusedVariables false
set_option linter.unnecessarySimpa false
set_option maxHeartbeats 4000000
namespace Go.Proofs.Ytioogligololoaa.Ab
open Go.RowKit

/-- One list stands ahead of another. -/
def lessB : List Int → List Int → Bool
  | [], [] => false
  | [], _ :: _ => true
  | _ :: _, [] => false
  | a :: l, b :: m => if a = b then lessB l m else decide (a < b)
theorem lessB_diff : ∀ {i : Nat} {l m : List Int}, i < l.length → i < m.length → (∀ j, j < i → l.getD j 0 = m.getD j 0) → ¬ l.getD i 0 = m.getD i 0 → lessB l m = decide (l.getD i 0 < m.getD i 0)
  | _, [], _, h, _, _, _ => by simp at h
  | _, _, [], _, h, _, _ => by simp at h
  | 0, a :: l, b :: m, _, _, _, h => by
    simp only [List.getD_cons_zero] at h ⊢
    unfold lessB
    rw [if_neg h]
  | i + 1, a :: l, b :: m, h1, h2, h3, h4 => by
    have h0 := h3 0 (by omega)
    simp only [List.getD_cons_zero] at h0
    unfold lessB
    rw [if_pos h0]
    simp only [List.getD_cons_succ] at h4 ⊢
    exact lessB_diff (by simpa using h1) (by simpa using h2) (fun j hj => by have := h3 (j + 1) (by omega); simpa using this) h4
theorem lessB_same : ∀ {l m : List Int}, (∀ j, j < l.length → j < m.length → l.getD j 0 = m.getD j 0) → lessB l m = decide ((l.length : Int) < m.length)
  | [], [], _ => by simp [lessB]
  | [], b :: m, _ => by
    have : (([] : List Int).length : Int) < ((b :: m).length : Int) := by simp only [List.length_cons, List.length_nil]; omega
    rw [decide_eq_true this]; rfl
  | a :: l, [], _ => by
    have : ¬ (((a :: l).length : Int) < (([] : List Int).length : Int)) := by simp only [List.length_cons, List.length_nil]; omega
    rw [decide_eq_false this]; rfl
  | a :: l, b :: m, h => by
    have h0 := h 0 (by simp) (by simp)
    simp only [List.getD_cons_zero] at h0
    have ih := lessB_same (l := l) (m := m) fun j h1 h2 => by have := h (j + 1) (by simpa using h1) (by simpa using h2); simpa using this
    unfold lessB
    rw [if_pos h0, ih]
    congr 1
    simp only [List.length_cons, eq_iff_iff]
    omega

/-- The members of a set that is told by bits. -/
def bitTo (x n : Nat) : List Int := ((List.range n).filter fun v => decide (x / 2 ^ v % 2 = 1)).map fun n : Nat => (n : Int)
theorem bitTo_succ {x n : Nat} : bitTo x (n + 1) = if x / 2 ^ n % 2 = 1 then bitTo x n ++ [(n : Int)] else bitTo x n := by
  unfold bitTo
  rw [List.range_succ, List.filter_append, List.map_append]
  by_cases h : x / 2 ^ n % 2 = 1 <;> simp [h]
theorem bitTo_len {x n : Nat} : (bitTo x n).length ≤ n := by
  unfold bitTo
  rw [List.length_map]
  exact Nat.le_trans (List.length_filter_le _ _) (by simp)
theorem bitTo_zero {n : Nat} : bitTo 0 n = [] := by
  unfold bitTo
  simp
/-- What the next set comes to. -/
noncomputable def setVal (es : List E) (n : Nat) (x : Nat) : Int := (bitTo x n).length - (oddSum (comps es (bitTo x n) n) : Nat)
noncomputable def blkStep (es : List E) (n : Nat) (b : List Int × Int) (x : Nat) : List Int × Int :=
  if setVal es n x < b.2 ∨ (setVal es n x = b.2 ∧ ((bitTo x n).length < b.1.length ∨ ((bitTo x n).length = b.1.length ∧ lessB (bitTo x n) b.1 = true))) then (bitTo x n, setVal es n x) else b
/-- The best of the sets below one. -/
noncomputable def blkTo (es : List E) (n : Nat) : Nat → List Int × Int
  | 0 => ([], 0)
  | 1 => ([], setVal es n 0)
  | x + 2 => blkStep es n (blkTo es n (x + 1)) (x + 1)
theorem setVal_bnd {es : List E} {n x : Nat} : -(n : Int) ≤ setVal es n x ∧ setVal es n x ≤ n := by
  have h1 := bitTo_len (x := x) (n := n)
  have h2 := oddSum_le (ll := comps es (bitTo x n) n)
  have h3 := compsTo_len (es := es) (out := bitTo x n) (n := n) (k := n)
  unfold setVal comps at *
  omega
theorem blkTo_bnd {es : List E} {n : Nat} : ∀ x, (blkTo es n x).1.length ≤ n ∧ -(n : Int) ≤ (blkTo es n x).2 ∧ (blkTo es n x).2 ≤ n
  | 0 => by simp only [blkTo, List.length_nil]; omega
  | 1 => by have := setVal_bnd (es := es) (n := n) (x := 0); simp only [blkTo, List.length_nil]; omega
  | x + 2 => by
    have h1 := blkTo_bnd (es := es) (n := n) (x + 1)
    have h2 := setVal_bnd (es := es) (n := n) (x := x + 1)
    have h3 := bitTo_len (x := x + 1) (n := n)
    simp only [blkTo]
    unfold blkStep
    split
    · exact ⟨h3, h2⟩
    · exact h1
theorem blkTo_next {es : List E} {n x : Nat} (hx : 0 < x) : blkTo es n (x + 1) = blkStep es n (blkTo es n x) x := by
  cases x with
  | zero => omega
  | succ x => rfl
open Classical in
noncomputable def blocksL (es : List E) (size : Int) : List Int := if GOk size es then (blkTo es size.toNat (2 ^ size.toNat)).1 else []
theorem blocksL_len {es : List E} {size : Int} : (blocksL es size).length ≤ 9 := by
  unfold blocksL
  split
  · rename_i g; have := g.1; have := (blkTo_bnd (es := es) (n := size.toNat) (2 ^ size.toNat)).1; omega
  · simp

theorem and1 {x : Nat} (h : x < 4611686018427387904) : andI .i64 (x : Int) 1 = ((x % 2 : Nat) : Int) := by
  show IntKind.i64.wrap ((BitVec.ofInt 64 (x : Int) &&& BitVec.ofInt 64 1).toNat : Int) = ((x % 2 : Nat) : Int)
  have e1 : (BitVec.ofInt 64 (x : Int)) = BitVec.ofNat 64 x := by simp
  have e2 : (BitVec.ofInt 64 1) = BitVec.ofNat 64 1 := by rfl
  rw [e1, e2, BitVec.toNat_and, BitVec.toNat_ofNat, BitVec.toNat_ofNat, Nat.mod_eq_of_lt (by omega), Nat.mod_eq_of_lt (by omega), Nat.and_one_is_mod]
  exact w64 (by omega) (by omega)
theorem shr_nat {x v : Nat} : ((x : Int).fdiv (2 ^ v : Int)) = ((x / 2 ^ v : Nat) : Int) := by
  rw [Int.fdiv_eq_ediv_of_nonneg _ (Int.pow_nonneg (by omega))]
  norm_cast

theorem shl_one {n : Nat} (h : n ≤ 9) : IntKind.i64.wrap (1 * 2 ^ min n 64) = ((2 ^ n : Nat) : Int) := by
  have e : ((2 : Int) ^ n) = ((2 ^ n : Nat) : Int) := by norm_cast
  have hb : 2 ^ n ≤ 512 := Nat.pow_le_pow_right (show 0 < 2 by omega) h
  rw [Nat.min_eq_left (by omega), Int.one_mul, e]
  have key : ∀ p : Nat, p ≤ 512 → IntKind.i64.wrap (p : Int) = p := fun p hp => w64 (by omega) (by omega)
  exact key _ hb

section
variable {X : CallF} {h : Heap} {a b ev : Value} {l m : List Int} {es : List E} {size : Int}

end
end Go.Proofs.Ytioogligololoaa.Ab
