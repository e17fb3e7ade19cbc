/- Contracts: an ask in bytes. No conditions. -/
import Derived.Test.YtioogligololoaaK4
import Derived.Test.YtioogligololoaaP0
set_option linter.unusedSimpArgs false
set_option linter.unusedVariables false
set_option linter.unnecessarySimpa false
set_option maxHeartbeats 4000000
namespace Go.Proofs.Ytioogligololoaa.Ab
open Go.RowKit

def vt (n : Int) : ByteArray := if 0 ≤ n ∧ n ≤ 1000000000 then varT n.toNat else noT
def catV (s : ByteArray) (l : List Int) : ByteArray := l.foldl (fun s n => s ++ vt n) s
theorem catV_push {s : ByteArray} {l : List Int} {n : Int} : catV s (l ++ [n]) = catV s l ++ vt n := by simp [catV, List.foldl_append]
theorem catV_acc {a : ByteArray} : ∀ {l : List Int} {b : ByteArray}, catV (a ++ b) l = a ++ catV b l
  | [], b => rfl
  | n :: l, b => by
    show catV (a ++ b ++ vt n) l = a ++ catV (b ++ vt n) l
    rw [ByteArray.append_assoc, catV_acc]
theorem catV_from {a : ByteArray} {l : List Int} : a ++ catV noT l = catV a l := by
  rw [← catV_acc, show noT = ByteArray.empty from rfl, ByteArray.append_empty]
theorem vt_size (n : Int) : (vt n).size ≤ 5 := by
  unfold vt
  split
  · unfold varT; rw [strOfNums_size]; exact varL_len _ (by omega)
  · exact Nat.zero_le _
theorem catV_size {s : ByteArray} : ∀ {l : List Int}, (catV s l).size ≤ s.size + 5 * l.length := by
  intro l
  induction l generalizing s with
  | nil => simp [catV]
  | cons n l ih =>
    show (catV (s ++ vt n) l).size ≤ _
    have := ih (s := s ++ vt n)
    rw [ByteArray.size_append] at this
    have := vt_size n
    simp only [List.length_cons]
    omega

section
variable {X : CallF} {h : Heap} {v : Value} {l : List Int}

theorem k_impl_VarText' {n : Int} : C T X n_impl_VarText [.int .i64 n] h = some (.tuple ⟨[.string (vt n), .bool (decide (0 ≤ n ∧ n ≤ 1000000000))]⟩, h) := by
  rw [k_impl_VarText]
  unfold vt
  split
  · rename_i hc; simp only [hc, decide_true]; rfl
  · rename_i hc; simp only [hc, decide_false]

theorem k_spec_l01Var' {n : Int} (h0 : 0 ≤ n) (h1 : n ≤ 1000000000) : C T X n_spec_l01Var [.int .i64 n] h = some (.string (vt n), h) := by
  obtain ⟨k, rfl⟩ := Int.eq_ofNat_of_zero_le h0
  rw [k_spec_l01Var (by omega)]
  unfold vt
  rw [if_pos ⟨h0, h1⟩]
  rfl

theorem k_impl_vars (hv : Rows h 1 v (ints l)) (hl : l.length ≤ 1000000000) : C T X n_impl_vars [v] h = some (.string (catV noT l), h) := by
  refine C_go t_impl_vars rfl ?_
  unfold F_impl_vars
  simp only [ints_ln hv, go_sem, reduceIte, Nat.reduceEqDiff, Nat.reduceAdd, Nat.reduceMul, Nat.reduceLT, Nat.reduceLeDiff, reduceCtorEq, ne_eq, Int.reduceEq, Int.reduceLT, Int.reduceLE, Int.reduceNeg, Int.reduceToNat]
  refine w_for l.length (fun i t loc h' => h' = h ∧ t 8 = v ∧ t 9 = .int .i64 l.length ∧ t 10 = .int .i64 i ∧ t 3 = .string (catV noT (l.take i))) ⟨rfl, rfl, rfl, rfl, rfl⟩ ?_
  rintro i t loc h' hi ⟨rfl, t8, t9, t10, t3⟩
  simp only [t9, t10, go_sem, reduceIte, Nat.reduceEqDiff, Nat.reduceAdd, Nat.reduceMul, Nat.reduceLT, Nat.reduceLeDiff, reduceCtorEq, ne_eq, Int.reduceEq, Int.reduceLT, Int.reduceLE, Int.reduceNeg, Int.reduceToNat]
  refine w_open (by simp only [t9, t10, go_sem, reduceIte, Nat.reduceEqDiff, Nat.reduceAdd, Nat.reduceMul, Nat.reduceLT, Nat.reduceLeDiff, reduceCtorEq, ne_eq, Int.reduceEq, Int.reduceLT, Int.reduceLE, Int.reduceNeg, Int.reduceToNat]; rfl) ?_ ?_ <;> intro hc
  · have hi1 : i < l.length := by omega
    have hw : IntKind.i64.wrap ((i : Int) + 1) = ((i + 1 : Nat) : Int) := w64 (by omega) (by omega)
    have hs : (catV noT (l.take i)).size + (vt (l.getD i 0)).size ≤ 9223372036854775807 := by
      have := catV_size (s := noT) (l := l.take i)
      have := vt_size (l.getD i 0)
      rw [List.length_take] at *
      have : noT.size = 0 := rfl
      omega
    simp only [t3, t8, t9, t10, int_el hv hi1, k_impl_VarText', hs, hw, go_sem, reduceIte, Nat.reduceEqDiff, Nat.reduceAdd, Nat.reduceMul, Nat.reduceLT, Nat.reduceLeDiff, reduceCtorEq, ne_eq, Int.reduceEq, Int.reduceLT, Int.reduceLE, Int.reduceNeg, Int.reduceToNat]
    exact ⟨hi1, by rw [take_getD (d := 0) hi1, catV_push]⟩
  · have : i = l.length := by omega
    subst this
    simp only [t3, go_sem, reduceIte, Nat.reduceEqDiff, Nat.reduceAdd, Nat.reduceMul, Nat.reduceLT, Nat.reduceLeDiff, reduceCtorEq, ne_eq, Int.reduceEq, Int.reduceLT, Int.reduceLE, Int.reduceNeg, Int.reduceToNat, List.take_length]

/-- How many numbers of an ask are told. -/
def numK (op : Int) : Nat := if op = 1 ∨ op = 3 ∨ op = 5 then 1 else if op = 2 then 5 else 0
theorem k_spec_l14Numbers {op : Int} : C T X n_spec_l14Numbers [.int .i64 op] h = some (.int .i64 (numK op), h) := by
  refine C_go t_spec_l14Numbers rfl ?_
  unfold F_spec_l14Numbers
  simp only [go_sem, reduceIte, Nat.reduceEqDiff, Nat.reduceAdd, Nat.reduceMul, Nat.reduceLT, Nat.reduceLeDiff, reduceCtorEq, ne_eq, Int.reduceEq, Int.reduceLT, Int.reduceLE, Int.reduceNeg, Int.reduceToNat]
  repeat' (first | (refine w_any (by simp only [go_sem, reduceIte, Nat.reduceEqDiff, Nat.reduceAdd, Nat.reduceMul, Nat.reduceLT, Nat.reduceLeDiff, reduceCtorEq, ne_eq, Int.reduceEq, Int.reduceLT, Int.reduceLE, Int.reduceNeg, Int.reduceToNat]; rfl) ?_ ?_ <;> intro hc <;> (try simp only [decide_eq_true_eq, decide_eq_false_iff_not, Decidable.not_not, Bool.not_eq_true', Bool.not_eq_false'] at hc) <;> simp only [hc, go_sem, reduceIte, Nat.reduceEqDiff, Nat.reduceAdd, Nat.reduceMul, Nat.reduceLT, Nat.reduceLeDiff, reduceCtorEq, ne_eq, Int.reduceEq, Int.reduceLT, Int.reduceLE, Int.reduceNeg, Int.reduceToNat]) | (refine so_any (by simp only [go_sem, reduceIte, Nat.reduceEqDiff, Nat.reduceAdd, Nat.reduceMul, Nat.reduceLT, Nat.reduceLeDiff, reduceCtorEq, ne_eq, Int.reduceEq, Int.reduceLT, Int.reduceLE, Int.reduceNeg, Int.reduceToNat]; rfl) ?_ ?_ <;> intro hc <;> (try simp only [decide_eq_true_eq, decide_eq_false_iff_not, Decidable.not_not, Bool.not_eq_true', Bool.not_eq_false'] at hc) <;> simp only [hc, go_sem, reduceIte, Nat.reduceEqDiff, Nat.reduceAdd, Nat.reduceMul, Nat.reduceLT, Nat.reduceLeDiff, reduceCtorEq, ne_eq, Int.reduceEq, Int.reduceLT, Int.reduceLE, Int.reduceNeg, Int.reduceToNat]) | (refine so_any' (by simp only [go_sem, reduceIte, Nat.reduceEqDiff, Nat.reduceAdd, Nat.reduceMul, Nat.reduceLT, Nat.reduceLeDiff, reduceCtorEq, ne_eq, Int.reduceEq, Int.reduceLT, Int.reduceLE, Int.reduceNeg, Int.reduceToNat]; rfl) ?_ ?_ <;> intro hc <;> (try simp only [decide_eq_true_eq, decide_eq_false_iff_not, Decidable.not_not, Bool.not_eq_true', Bool.not_eq_false'] at hc) <;> simp only [hc, go_sem, reduceIte, Nat.reduceEqDiff, Nat.reduceAdd, Nat.reduceMul, Nat.reduceLT, Nat.reduceLeDiff, reduceCtorEq, ne_eq, Int.reduceEq, Int.reduceLT, Int.reduceLE, Int.reduceNeg, Int.reduceToNat]) | (refine sf_any (by simp only [go_sem, reduceIte, Nat.reduceEqDiff, Nat.reduceAdd, Nat.reduceMul, Nat.reduceLT, Nat.reduceLeDiff, reduceCtorEq, ne_eq, Int.reduceEq, Int.reduceLT, Int.reduceLE, Int.reduceNeg, Int.reduceToNat]; rfl) ?_ ?_ <;> intro hc <;> (try simp only [decide_eq_true_eq, decide_eq_false_iff_not, Decidable.not_not, Bool.not_eq_true', Bool.not_eq_false'] at hc) <;> simp only [hc, go_sem, reduceIte, Nat.reduceEqDiff, Nat.reduceAdd, Nat.reduceMul, Nat.reduceLT, Nat.reduceLeDiff, reduceCtorEq, ne_eq, Int.reduceEq, Int.reduceLT, Int.reduceLE, Int.reduceNeg, Int.reduceToNat]) | (refine sf_any' (by simp only [go_sem, reduceIte, Nat.reduceEqDiff, Nat.reduceAdd, Nat.reduceMul, Nat.reduceLT, Nat.reduceLeDiff, reduceCtorEq, ne_eq, Int.reduceEq, Int.reduceLT, Int.reduceLE, Int.reduceNeg, Int.reduceToNat]; rfl) ?_ ?_ <;> intro hc <;> (try simp only [decide_eq_true_eq, decide_eq_false_iff_not, Decidable.not_not, Bool.not_eq_true', Bool.not_eq_false'] at hc) <;> simp only [hc, go_sem, reduceIte, Nat.reduceEqDiff, Nat.reduceAdd, Nat.reduceMul, Nat.reduceLT, Nat.reduceLeDiff, reduceCtorEq, ne_eq, Int.reduceEq, Int.reduceLT, Int.reduceLE, Int.reduceNeg, Int.reduceToNat]))
  all_goals (unfold numK; repeat (first | rw [if_pos (by omega)] | rw [if_neg (by omega)]); try rfl)

def askV (op a b w1 w2 w3 : Int) : Value := .agg ⟨[.int .i64 op, .int .i64 a, .int .i64 b, .int .i64 w1, .int .i64 w2, .int .i64 w3]⟩
theorem k_spec_l14List {op a b w1 w2 w3 : Int} : C T X n_spec_l14List [askV op a b w1 w2 w3] h = some (.slice (some ⟨h.length, 0, none⟩) 5 5, h ++ [⟨(ints [a, b, w1, w2, w3]).flatten, 1, y_int, true⟩]) := by
  refine C_go t_spec_l14List rfl ?_
  unfold F_spec_l14List askV
  simp only [go_sem, reduceIte, Nat.reduceEqDiff, Nat.reduceAdd, Nat.reduceMul, Nat.reduceLT, Nat.reduceLeDiff, reduceCtorEq, ne_eq, Int.reduceEq, Int.reduceLT, Int.reduceLE, Int.reduceNeg, Int.reduceToNat]
  rw [finish_deep rfl]
  rfl

/-- An ask that can be told. -/
def AskOk (op : Int) (l : List Int) : Prop := (1 ≤ op ∧ op ≤ 6) ∧ ∀ j, j < 5 → (0 ≤ l.getD j 0 ∧ l.getD j 0 ≤ 1000000000) ∧ (numK op ≤ j → l.getD j 0 = 0)
def askText (op : Int) (l : List Int) : ByteArray := catV (strOfNums [op]) (l.take (numK op))

open Classical in
theorem k_spec_AskText {op a b w1 w2 w3 : Int} : C T X n_spec_AskText [askV op a b w1 w2 w3] h = some (.tuple ⟨[.string (if AskOk op [a, b, w1, w2, w3] then askText op [a, b, w1, w2, w3] else noT), .bool (decide (AskOk op [a, b, w1, w2, w3]))]⟩, h) := by
  refine C_go t_spec_AskText rfl ?_
  unfold F_spec_AskText
  have hli := k_spec_l14List (X := X) (h := h) (op := op) (a := a) (b := b) (w1 := w1) (w2 := w2) (w3 := w3)
  unfold askV at hli ⊢
  obtain ⟨l, hl⟩ : ∃ l, l = [a, b, w1, w2, w3] := ⟨_, rfl⟩
  have hlen : l.length = 5 := by rw [hl]; rfl
  rw [← hl] at hli ⊢
  by_cases hop : 1 ≤ op ∧ op ≤ 6
  rotate_left
  · have hop' : (decide (1 ≤ op) && decide (op ≤ 6)) = false := by simp; omega
    have hno : ¬ AskOk op l := fun g => hop g.1
    simp only [k_spec_l01In, hop', hno, go_sem, reduceIte, Nat.reduceEqDiff, Nat.reduceAdd, Nat.reduceMul, Nat.reduceLT, Nat.reduceLeDiff, reduceCtorEq, ne_eq, Int.reduceEq, Int.reduceLT, Int.reduceLE, Int.reduceNeg, Int.reduceToNat]
  have hop' : (decide (1 ≤ op) && decide (op ≤ 6)) = true := by simp; omega
  have hu8 : IntKind.u8.wrap op = op := wu8 (by omega) (by omega)
  have hst : strLV 1 (some [.int .u8 op]) = some (.string (strOfNums [op])) := rfl
  simp only [k_spec_l01In, hop', hu8, hst, hli, go_sem, reduceIte, Nat.reduceEqDiff, Nat.reduceAdd, Nat.reduceMul, Nat.reduceLT, Nat.reduceLeDiff, reduceCtorEq, ne_eq, Int.reduceEq, Int.reduceLT, Int.reduceLE, Int.reduceNeg, Int.reduceToNat]
  have hrow : Rows (h ++ [⟨(ints l).flatten, 1, y_int, true⟩]) 1 (.slice (some ⟨h.length, 0, none⟩) 5 5) (ints l) := by
    have := Rows.made (h := h) (ty := y_int) (ints_row (l := l))
    rw [ints_len, hlen] at this
    exact this
  refine w_for 5 (fun i t loc h' => h' = h ++ [⟨(ints l).flatten, 1, y_int, true⟩] ∧ loc 1 = some [.int .i64 op, .int .i64 a, .int .i64 b, .int .i64 w1, .int .i64 w2, .int .i64 w3] ∧ t 5 = .slice (some ⟨h.length, 0, none⟩) 5 5 ∧ t 6 = .int .i64 i ∧
    t 4 = .string (catV (strOfNums [op]) (l.take (min i (numK op)))) ∧ ∀ j, j < i → (0 ≤ l.getD j 0 ∧ l.getD j 0 ≤ 1000000000) ∧ (numK op ≤ j → l.getD j 0 = 0)) ⟨rfl, rfl, rfl, rfl, by rw [Nat.zero_min]; rfl, fun j hj => by omega⟩ ?_
  rintro i t loc h' hi ⟨rfl, l1, t5, t6, t4, hall⟩
  simp only [t6, go_sem, reduceIte, Nat.reduceEqDiff, Nat.reduceAdd, Nat.reduceMul, Nat.reduceLT, Nat.reduceLeDiff, reduceCtorEq, ne_eq, Int.reduceEq, Int.reduceLT, Int.reduceLE, Int.reduceNeg, Int.reduceToNat]
  refine w_open (by simp only [t6, go_sem, reduceIte, Nat.reduceEqDiff, Nat.reduceAdd, Nat.reduceMul, Nat.reduceLT, Nat.reduceLeDiff, reduceCtorEq, ne_eq, Int.reduceEq, Int.reduceLT, Int.reduceLE, Int.reduceNeg, Int.reduceToNat]; rfl) ?_ ?_ <;> intro hc
  · have hi1 : i < l.length := by omega
    have hw : IntKind.i64.wrap ((i : Int) + 1) = ((i + 1 : Nat) : Int) := w64 (by omega) (by omega)
    by_cases hy : (0 ≤ l.getD i 0 ∧ l.getD i 0 ≤ 1000000000) ∧ (numK op ≤ i → l.getD i 0 = 0)
    · have hn1 : 0 ≤ l.getD i 0 := hy.1.1
      have hn2 : l.getD i 0 ≤ 1000000000 := hy.1.2
      have hnext : ∀ j, j < i + 1 → (0 ≤ l.getD j 0 ∧ l.getD j 0 ≤ 1000000000) ∧ (numK op ≤ j → l.getD j 0 = 0) := fun j hj => by
        by_cases e : j = i
        · subst e; exact hy
        · exact hall j (by omega)
      by_cases hk : numK op ≤ i
      · have hk' : (numK op : Int) ≤ i := by omega
        have hk2 : ¬ (i : Int) < (numK op : Int) := by omega
        have h0 := hy.2 hk
        have h0' : ¬ ¬ l.getD i 0 = 0 := fun h => h h0
        simp only [l1, t5, t6, t4, int_el hrow hi1, k_spec_l01In, k_spec_l14Numbers, hn1, hn2, hk', hk2, h0, hw, go_sem, reduceIte, Nat.reduceEqDiff, Nat.reduceAdd, Nat.reduceMul, Nat.reduceLT, Nat.reduceLeDiff, reduceCtorEq, ne_eq, Int.reduceEq, Int.reduceLT, Int.reduceLE, Int.reduceNeg, Int.reduceToNat]
        exact ⟨by omega, by rw [Nat.min_eq_right (by omega), Nat.min_eq_right (by omega)], hnext⟩
      · have hk' : ¬ (numK op : Int) ≤ i := by omega
        have hk2 : (i : Int) < (numK op : Int) := by omega
        have hs : (catV (strOfNums [op]) (l.take (min i (numK op)))).size + (vt (l.getD i 0)).size ≤ 9223372036854775807 := by
          have := catV_size (s := strOfNums [op]) (l := l.take (min i (numK op)))
          have := vt_size (l.getD i 0)
          have : (strOfNums [op]).size = 1 := rfl
          rw [List.length_take] at *
          omega
        simp only [l1, t5, t6, t4, int_el hrow hi1, k_spec_l01In, k_spec_l14Numbers, k_spec_l01Var' hn1 hn2, hs, hn1, hn2, hk', hk2, hw, go_sem, reduceIte, Nat.reduceEqDiff, Nat.reduceAdd, Nat.reduceMul, Nat.reduceLT, Nat.reduceLeDiff, reduceCtorEq, ne_eq, Int.reduceEq, Int.reduceLT, Int.reduceLE, Int.reduceNeg, Int.reduceToNat]
        exact ⟨by omega, by rw [Nat.min_eq_left (by omega), Nat.min_eq_left (by omega), take_getD (d := 0) hi1, catV_push], hnext⟩
    · have hno : ¬ AskOk op l := fun g => hy (g.2 i (by omega))
      simp only [l1, t5, t6, t4, int_el hrow hi1, k_spec_l01In, k_spec_l14Numbers, hno, go_sem, reduceIte, Nat.reduceEqDiff, Nat.reduceAdd, Nat.reduceMul, Nat.reduceLT, Nat.reduceLeDiff, reduceCtorEq, ne_eq, Int.reduceEq, Int.reduceLT, Int.reduceLE, Int.reduceNeg, Int.reduceToNat]
      repeat' (first | (refine w_any (by simp only [l1, t5, t6, t4, int_el hrow hi1, k_spec_l01In, k_spec_l14Numbers, hno, go_sem, reduceIte, Nat.reduceEqDiff, Nat.reduceAdd, Nat.reduceMul, Nat.reduceLT, Nat.reduceLeDiff, reduceCtorEq, ne_eq, Int.reduceEq, Int.reduceLT, Int.reduceLE, Int.reduceNeg, Int.reduceToNat]; rfl) ?_ ?_ <;> intro hc <;> (try simp only [decide_eq_true_eq, decide_eq_false_iff_not, Decidable.not_not, Bool.not_eq_true', Bool.not_eq_false'] at hc) <;> simp only [hc, l1, t5, t6, t4, int_el hrow hi1, k_spec_l01In, k_spec_l14Numbers, hno, go_sem, reduceIte, Nat.reduceEqDiff, Nat.reduceAdd, Nat.reduceMul, Nat.reduceLT, Nat.reduceLeDiff, reduceCtorEq, ne_eq, Int.reduceEq, Int.reduceLT, Int.reduceLE, Int.reduceNeg, Int.reduceToNat]) | (refine so_any (by simp only [l1, t5, t6, t4, int_el hrow hi1, k_spec_l01In, k_spec_l14Numbers, hno, go_sem, reduceIte, Nat.reduceEqDiff, Nat.reduceAdd, Nat.reduceMul, Nat.reduceLT, Nat.reduceLeDiff, reduceCtorEq, ne_eq, Int.reduceEq, Int.reduceLT, Int.reduceLE, Int.reduceNeg, Int.reduceToNat]; rfl) ?_ ?_ <;> intro hc <;> (try simp only [decide_eq_true_eq, decide_eq_false_iff_not, Decidable.not_not, Bool.not_eq_true', Bool.not_eq_false'] at hc) <;> simp only [hc, l1, t5, t6, t4, int_el hrow hi1, k_spec_l01In, k_spec_l14Numbers, hno, go_sem, reduceIte, Nat.reduceEqDiff, Nat.reduceAdd, Nat.reduceMul, Nat.reduceLT, Nat.reduceLeDiff, reduceCtorEq, ne_eq, Int.reduceEq, Int.reduceLT, Int.reduceLE, Int.reduceNeg, Int.reduceToNat]) | (refine so_any' (by simp only [l1, t5, t6, t4, int_el hrow hi1, k_spec_l01In, k_spec_l14Numbers, hno, go_sem, reduceIte, Nat.reduceEqDiff, Nat.reduceAdd, Nat.reduceMul, Nat.reduceLT, Nat.reduceLeDiff, reduceCtorEq, ne_eq, Int.reduceEq, Int.reduceLT, Int.reduceLE, Int.reduceNeg, Int.reduceToNat]; rfl) ?_ ?_ <;> intro hc <;> (try simp only [decide_eq_true_eq, decide_eq_false_iff_not, Decidable.not_not, Bool.not_eq_true', Bool.not_eq_false'] at hc) <;> simp only [hc, l1, t5, t6, t4, int_el hrow hi1, k_spec_l01In, k_spec_l14Numbers, hno, go_sem, reduceIte, Nat.reduceEqDiff, Nat.reduceAdd, Nat.reduceMul, Nat.reduceLT, Nat.reduceLeDiff, reduceCtorEq, ne_eq, Int.reduceEq, Int.reduceLT, Int.reduceLE, Int.reduceNeg, Int.reduceToNat]) | (refine sf_any (by simp only [l1, t5, t6, t4, int_el hrow hi1, k_spec_l01In, k_spec_l14Numbers, hno, go_sem, reduceIte, Nat.reduceEqDiff, Nat.reduceAdd, Nat.reduceMul, Nat.reduceLT, Nat.reduceLeDiff, reduceCtorEq, ne_eq, Int.reduceEq, Int.reduceLT, Int.reduceLE, Int.reduceNeg, Int.reduceToNat]; rfl) ?_ ?_ <;> intro hc <;> (try simp only [decide_eq_true_eq, decide_eq_false_iff_not, Decidable.not_not, Bool.not_eq_true', Bool.not_eq_false'] at hc) <;> simp only [hc, l1, t5, t6, t4, int_el hrow hi1, k_spec_l01In, k_spec_l14Numbers, hno, go_sem, reduceIte, Nat.reduceEqDiff, Nat.reduceAdd, Nat.reduceMul, Nat.reduceLT, Nat.reduceLeDiff, reduceCtorEq, ne_eq, Int.reduceEq, Int.reduceLT, Int.reduceLE, Int.reduceNeg, Int.reduceToNat]) | (refine sf_any' (by simp only [l1, t5, t6, t4, int_el hrow hi1, k_spec_l01In, k_spec_l14Numbers, hno, go_sem, reduceIte, Nat.reduceEqDiff, Nat.reduceAdd, Nat.reduceMul, Nat.reduceLT, Nat.reduceLeDiff, reduceCtorEq, ne_eq, Int.reduceEq, Int.reduceLT, Int.reduceLE, Int.reduceNeg, Int.reduceToNat]; rfl) ?_ ?_ <;> intro hc <;> (try simp only [decide_eq_true_eq, decide_eq_false_iff_not, Decidable.not_not, Bool.not_eq_true', Bool.not_eq_false'] at hc) <;> simp only [hc, l1, t5, t6, t4, int_el hrow hi1, k_spec_l01In, k_spec_l14Numbers, hno, go_sem, reduceIte, Nat.reduceEqDiff, Nat.reduceAdd, Nat.reduceMul, Nat.reduceLT, Nat.reduceLeDiff, reduceCtorEq, ne_eq, Int.reduceEq, Int.reduceLT, Int.reduceLE, Int.reduceNeg, Int.reduceToNat]))
      all_goals first
        | exact finish_flat rfl (List.prefix_append _ _)
        | exact absurd (by simp only [Bool.and_eq_true, decide_eq_true_eq] at *; omega) hy
  · have hy : AskOk op l := ⟨hop, fun j hj => hall j (by omega)⟩
    have hki : min i (numK op) = numK op := by unfold numK; split <;> (try split) <;> omega
    rw [hki] at t4
    simp only [t4, hy, go_sem, reduceIte, Nat.reduceEqDiff, Nat.reduceAdd, Nat.reduceMul, Nat.reduceLT, Nat.reduceLeDiff, reduceCtorEq, ne_eq, Int.reduceEq, Int.reduceLT, Int.reduceLE, Int.reduceNeg, Int.reduceToNat]
    exact finish_flat rfl (List.prefix_append _ _)
end
end Go.Proofs.Ytioogligololoaa.Ab
