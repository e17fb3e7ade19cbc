/- Lists that are made and then filled, row by row; lists that grow at their end. No conditions. -/
import Derived.Test.YtlndlccbecnjoaaR0
namespace Go.Proofs.Ytlndlccbecnjoaa.Ab
set_option linter.unusedSimpArgs false
set_option linter.unusedVariables false
set_option linter.unnecessarySimpa false
open Go.RowKit

theorem zeros_length {z : List Value} : ∀ n, (zeros z n).length = n * z.length
  | 0 => by simp [zeros]
  | n + 1 => by simp only [zeros, List.length_append, zeros_length n, Nat.add_mul]; omega

/-- The first rows, and zeros. -/
def fillC (z : List Value) (rows : List (List Value)) (n i : Nat) : List Value := (rows.take i).flatten ++ zeros z (n - i)

theorem fill_start {z : List Value} {rows : List (List Value)} {n : Nat} : zeros z n = fillC z rows n 0 := by simp [fillC]
theorem fill_end {z : List Value} {rows : List (List Value)} {n : Nat} (hn : rows.length = n) : fillC z rows n n = rows.flatten := by
  subst hn
  simp [fillC, zeros]

section
variable {h ext : Heap} {z : List Value} {rows : List (List Value)} {n sz : Nat} {ty : TypeId}

theorem take_len (hr : ∀ r ∈ rows, r.length = sz) {i : Nat} (hi : i ≤ rows.length) : (rows.take i).flatten.length = i * sz := by
  rw [flatten_len fun r h => hr r (List.mem_of_mem_take h), List.length_take, Nat.min_eq_left hi]

theorem fill_len (hr : ∀ r ∈ rows, r.length = sz) (hz : z.length = sz) (hn : rows.length = n) {i : Nat} (hi : i ≤ n) : (fillC z rows n i).length = n * sz := by
  unfold fillC
  rw [List.length_append, take_len hr (by omega), zeros_length, hz, ← Nat.add_mul]
  congr 1
  omega

theorem at_block {b : Blk} : (h ++ b :: ext)[h.length]? = some b := by simp
theorem set_block {b c : Blk} : (h ++ b :: ext).set h.length c = h ++ c :: ext := by simp

theorem fill_ia (hr : ∀ r ∈ rows, r.length = sz) (hz : z.length = sz) (hn : rows.length = n) {i : Nat} (hi : i ≤ n) {k : IntKind} {j : Int} (h0 : 0 ≤ j) (hj : j < (n : Int)) :
    iaV (h ++ ⟨fillC z rows n i, sz, ty, true⟩ :: ext) sz (.slice (some ⟨h.length, 0, none⟩) n n) (.int k j) = some (elemP (.slice (some ⟨h.length, 0, none⟩) n n) sz j.toNat 0) := by
  simp only [iaV, at_block, elemP, fill_len hr hz hn hi, Nat.zero_add, Nat.add_zero]
  simp [h0, hj]

theorem fill_st (hr : ∀ r ∈ rows, r.length = sz) (hz : z.length = sz) (hn : rows.length = n) {i : Nat} (hi : i < rows.length) :
    stC (h ++ ⟨fillC z rows n i, sz, ty, true⟩ :: ext) (elemP (.slice (some ⟨h.length, 0, none⟩) n n) sz i 0) rows[i] = some (h ++ ⟨fillC z rows n (i + 1), sz, ty, true⟩ :: ext) := by
  have hl := fill_len (z := z) hr hz hn (i := i) (by omega)
  have hri := hr rows[i] (List.getElem_mem hi)
  have hm : i * sz + sz ≤ n * sz := by
    have := Nat.mul_le_mul_right sz (show i + 1 ≤ n by omega)
    rw [Nat.add_mul] at this
    omega
  simp only [stC, at_block, elemP, hl, Nat.zero_add, Nat.add_zero, hri]
  rw [if_pos ⟨trivial, hm, trivial⟩, set_block]
  have ht := take_len hr (i := i) (by omega)
  have e : putAt (fillC z rows n i) (i * sz) rows[i] = fillC z rows n (i + 1) := by
    unfold putAt fillC
    rw [List.take_append, ht, Nat.sub_self, List.take_of_length_le (by omega), List.take_zero, List.append_nil, List.drop_append, List.drop_of_length_le (by rw [ht, hri]; omega), ht, hri, List.nil_append,
      List.take_succ_eq_append_getElem hi, List.flatten_append]
    have e1 : n - i = (n - (i + 1)) + 1 := by omega
    rw [e1]
    simp only [zeros, List.flatten_cons, List.flatten_nil, List.append_nil]
    rw [List.drop_append, List.drop_of_length_le (by rw [hz]; omega), hz, show i * sz + sz - i * sz - sz = 0 by omega, List.nil_append, List.drop_zero]
  rw [e]

end

/-- What a list that was made and filled is. -/
theorem ints_flat {l : List Int} : (ints l).flatten = l.map fun n => .int .i64 n := by
  induction l with
  | nil => rfl
  | cons a l ih => simp only [ints, List.map_cons, List.flatten_cons] at ih ⊢; rw [ih]; rfl

end Go.Proofs.Ytlndlccbecnjoaa.Ab
