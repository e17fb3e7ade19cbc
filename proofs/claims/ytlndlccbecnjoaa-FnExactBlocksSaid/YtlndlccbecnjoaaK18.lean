/- Contracts: lists of numbers compared; the blocking set. No conditions. -/
import Derived.Test.YtlndlccbecnjoaaK16
set_option linter.unusedSimpArgs false
set_option linter.unusedVariables false
set_option linter.unnecessarySimpa false
set_option maxHeartbeats 4000000
namespace Go.Proofs.Ytlndlccbecnjoaa.Ab
open Go.RowKit

/-- One list stands ahead of another. -/
def lessB : List Int → List Int → Bool
  | [], [] => false
  | [], _ :: _ => true
  | _ :: _, [] => false
  | a :: l, b :: m => if a = b then lessB l m else decide (a < b)
theorem lessB_diff : ∀ {i : Nat} {l m : List Int}, i < l.length → i < m.length → (∀ j, j < i → l.getD j 0 = m.getD j 0) → ¬ l.getD i 0 = m.getD i 0 → lessB l m = decide (l.getD i 0 < m.getD i 0)
  | _, [], _, h, _, _, _ => by simp at h
  | _, _, [], _, h, _, _ => by simp at h
  | 0, a :: l, b :: m, _, _, _, h => by
    simp only [List.getD_cons_zero] at h ⊢
    unfold lessB
    rw [if_neg h]
  | i + 1, a :: l, b :: m, h1, h2, h3, h4 => by
    have h0 := h3 0 (by omega)
    simp only [List.getD_cons_zero] at h0
    unfold lessB
    rw [if_pos h0]
    simp only [List.getD_cons_succ] at h4 ⊢
    exact lessB_diff (by simpa using h1) (by simpa using h2) (fun j hj => by have := h3 (j + 1) (by omega); simpa using this) h4
theorem lessB_same : ∀ {l m : List Int}, (∀ j, j < l.length → j < m.length → l.getD j 0 = m.getD j 0) → lessB l m = decide ((l.length : Int) < m.length)
  | [], [], _ => by simp [lessB]
  | [], b :: m, _ => by
    have : (([] : List Int).length : Int) < ((b :: m).length : Int) := by simp only [List.length_cons, List.length_nil]; omega
    rw [decide_eq_true this]; rfl
  | a :: l, [], _ => by
    have : ¬ (((a :: l).length : Int) < (([] : List Int).length : Int)) := by simp only [List.length_cons, List.length_nil]; omega
    rw [decide_eq_false this]; rfl
  | a :: l, b :: m, h => by
    have h0 := h 0 (by simp) (by simp)
    simp only [List.getD_cons_zero] at h0
    have ih := lessB_same (l := l) (m := m) fun j h1 h2 => by have := h (j + 1) (by simpa using h1) (by simpa using h2); simpa using this
    unfold lessB
    rw [if_pos h0, ih]
    congr 1
    simp only [List.length_cons, eq_iff_iff]
    omega

/-- The members of a set that is told by bits. -/
def bitTo (x n : Nat) : List Int := ((List.range n).filter fun v => decide (x / 2 ^ v % 2 = 1)).map fun n : Nat => (n : Int)
theorem bitTo_succ {x n : Nat} : bitTo x (n + 1) = if x / 2 ^ n % 2 = 1 then bitTo x n ++ [(n : Int)] else bitTo x n := by
  unfold bitTo
  rw [List.range_succ, List.filter_append, List.map_append]
  by_cases h : x / 2 ^ n % 2 = 1 <;> simp [h]
theorem bitTo_len {x n : Nat} : (bitTo x n).length ≤ n := by
  unfold bitTo
  rw [List.length_map]
  exact Nat.le_trans (List.length_filter_le _ _) (by simp)
theorem bitTo_zero {n : Nat} : bitTo 0 n = [] := by
  unfold bitTo
  simp
/-- What the next set comes to. -/
noncomputable def setVal (es : List E) (n : Nat) (x : Nat) : Int := (bitTo x n).length - (oddSum (comps es (bitTo x n) n) : Nat)
noncomputable def blkStep (es : List E) (n : Nat) (b : List Int × Int) (x : Nat) : List Int × Int :=
  if setVal es n x < b.2 ∨ (setVal es n x = b.2 ∧ ((bitTo x n).length < b.1.length ∨ ((bitTo x n).length = b.1.length ∧ lessB (bitTo x n) b.1 = true))) then (bitTo x n, setVal es n x) else b
/-- The best of the sets below one. -/
noncomputable def blkTo (es : List E) (n : Nat) : Nat → List Int × Int
  | 0 => ([], 0)
  | 1 => ([], setVal es n 0)
  | x + 2 => blkStep es n (blkTo es n (x + 1)) (x + 1)
theorem setVal_bnd {es : List E} {n x : Nat} : -(n : Int) ≤ setVal es n x ∧ setVal es n x ≤ n := by
  have h1 := bitTo_len (x := x) (n := n)
  have h2 := oddSum_le (ll := comps es (bitTo x n) n)
  have h3 := compsTo_len (es := es) (out := bitTo x n) (n := n) (k := n)
  unfold setVal comps at *
  omega
theorem blkTo_bnd {es : List E} {n : Nat} : ∀ x, (blkTo es n x).1.length ≤ n ∧ -(n : Int) ≤ (blkTo es n x).2 ∧ (blkTo es n x).2 ≤ n
  | 0 => by simp only [blkTo, List.length_nil]; omega
  | 1 => by have := setVal_bnd (es := es) (n := n) (x := 0); simp only [blkTo, List.length_nil]; omega
  | x + 2 => by
    have h1 := blkTo_bnd (es := es) (n := n) (x + 1)
    have h2 := setVal_bnd (es := es) (n := n) (x := x + 1)
    have h3 := bitTo_len (x := x + 1) (n := n)
    simp only [blkTo]
    unfold blkStep
    split
    · exact ⟨h3, h2⟩
    · exact h1
theorem blkTo_next {es : List E} {n x : Nat} (hx : 0 < x) : blkTo es n (x + 1) = blkStep es n (blkTo es n x) x := by
  cases x with
  | zero => omega
  | succ x => rfl
open Classical in
noncomputable def blocksL (es : List E) (size : Int) : List Int := if GOk size es then (blkTo es size.toNat (2 ^ size.toNat)).1 else []
theorem blocksL_len {es : List E} {size : Int} : (blocksL es size).length ≤ 9 := by
  unfold blocksL
  split
  · rename_i g; have := g.1; have := (blkTo_bnd (es := es) (n := size.toNat) (2 ^ size.toNat)).1; omega
  · simp

theorem and1 {x : Nat} (h : x < 4611686018427387904) : andI .i64 (x : Int) 1 = ((x % 2 : Nat) : Int) := by
  show IntKind.i64.wrap ((BitVec.ofInt 64 (x : Int) &&& BitVec.ofInt 64 1).toNat : Int) = ((x % 2 : Nat) : Int)
  have e1 : (BitVec.ofInt 64 (x : Int)) = BitVec.ofNat 64 x := by simp
  have e2 : (BitVec.ofInt 64 1) = BitVec.ofNat 64 1 := by rfl
  rw [e1, e2, BitVec.toNat_and, BitVec.toNat_ofNat, BitVec.toNat_ofNat, Nat.mod_eq_of_lt (by omega), Nat.mod_eq_of_lt (by omega), Nat.and_one_is_mod]
  exact w64 (by omega) (by omega)
theorem shr_nat {x v : Nat} : ((x : Int).fdiv (2 ^ v : Int)) = ((x / 2 ^ v : Nat) : Int) := by
  rw [Int.fdiv_eq_ediv_of_nonneg _ (Int.pow_nonneg (by omega))]
  norm_cast

theorem shl_one {n : Nat} (h : n ≤ 9) : IntKind.i64.wrap (1 * 2 ^ min n 64) = ((2 ^ n : Nat) : Int) := by
  have e : ((2 : Int) ^ n) = ((2 ^ n : Nat) : Int) := by norm_cast
  have hb : 2 ^ n ≤ 512 := Nat.pow_le_pow_right (show 0 < 2 by omega) h
  rw [Nat.min_eq_left (by omega), Int.one_mul, e]
  have key : ∀ p : Nat, p ≤ 512 → IntKind.i64.wrap (p : Int) = p := fun p hp => w64 (by omega) (by omega)
  exact key _ hb

section
variable {X : CallF} {h : Heap} {a b ev : Value} {l m : List Int} {es : List E} {size : Int}

theorem k_impl_listLess (ha : Rows h 1 a (ints l)) (hb : Rows h 1 b (ints m)) (hl : l.length ≤ lim) : C T X n_impl_listLess [a, b] h = some (.bool (lessB l m), h) := by
  unfold lim at hl
  refine C_go t_impl_listLess rfl ?_
  unfold F_impl_listLess
  simp only [go_sem, reduceIte, Nat.reduceEqDiff, Nat.reduceAdd, Nat.reduceMul, Nat.reduceLT, Nat.reduceLeDiff, reduceCtorEq, ne_eq, Int.reduceEq, Int.reduceLT, Int.reduceLE, Int.reduceNeg, Int.reduceToNat]
  refine w_for l.length (fun i t loc h' => h' = h ∧ t 0 = a ∧ t 1 = b ∧ t 5 = .int .i64 i ∧ i ≤ m.length ∧ ∀ j, j < i → l.getD j 0 = m.getD j 0) ⟨rfl, rfl, rfl, rfl, Nat.zero_le _, fun j hj => by omega⟩ ?_
  rintro i t loc h' hi ⟨rfl, t0, t1, t5, him, hall⟩
  by_cases h1 : i < l.length
  · have h1' : (i : Int) < l.length := by omega
    by_cases h2 : i < m.length
    · have h2' : (i : Int) < m.length := by omega
      have hw : IntKind.i64.wrap ((i : Int) + 1) = ((i + 1 : Nat) : Int) := w64 (by omega) (by omega)
      have e1 := int_el ha h1
      have e2 := int_el hb h2
      by_cases e : l.getD i 0 = m.getD i 0
      · simp only [t0, t1, t5, ints_ln ha, ints_ln hb, h1', h2', e1.1, e1.2, e2.1, e2.2, e, hw, go_sem, reduceIte, Nat.reduceEqDiff, Nat.reduceAdd, Nat.reduceMul, Nat.reduceLT, Nat.reduceLeDiff, reduceCtorEq, ne_eq, Int.reduceEq, Int.reduceLT, Int.reduceLE, Int.reduceNeg, Int.reduceToNat]
        exact ⟨h1, h2, below_succ hall e⟩
      · have hd := lessB_diff h1 h2 hall e
        simp only [t0, t1, t5, ints_ln ha, ints_ln hb, h1', h2', e1.1, e1.2, e2.1, e2.2, e, hd, go_sem, reduceIte, Nat.reduceEqDiff, Nat.reduceAdd, Nat.reduceMul, Nat.reduceLT, Nat.reduceLeDiff, reduceCtorEq, ne_eq, Int.reduceEq, Int.reduceLT, Int.reduceLE, Int.reduceNeg, Int.reduceToNat]
    · have h2' : ¬ (i : Int) < m.length := by omega
      have hd := lessB_same (l := l) (m := m) fun j _ h4 => hall j (by omega)
      simp only [t0, t1, t5, ints_ln ha, ints_ln hb, h1', h2', hd, go_sem, reduceIte, Nat.reduceEqDiff, Nat.reduceAdd, Nat.reduceMul, Nat.reduceLT, Nat.reduceLeDiff, reduceCtorEq, ne_eq, Int.reduceEq, Int.reduceLT, Int.reduceLE, Int.reduceNeg, Int.reduceToNat]
  · have h1' : ¬ (i : Int) < l.length := by omega
    have hd := lessB_same (l := l) (m := m) fun j h3 _ => hall j (by omega)
    simp only [t0, t1, t5, ints_ln ha, ints_ln hb, h1', hd, go_sem, reduceIte, Nat.reduceEqDiff, Nat.reduceAdd, Nat.reduceMul, Nat.reduceLT, Nat.reduceLeDiff, reduceCtorEq, ne_eq, Int.reduceEq, Int.reduceLT, Int.reduceLE, Int.reduceNeg, Int.reduceToNat]

theorem k_spec_l10Ahead (ha : Rows h 1 a (ints l)) (hb : Rows h 1 b (ints m)) (hl : l.length ≤ lim) : C T X n_spec_l10Ahead [a, b] h = some (.bool (lessB l m), h) := by
  unfold lim at hl
  refine C_go t_spec_l10Ahead rfl ?_
  unfold F_spec_l10Ahead
  simp only [go_sem, reduceIte, Nat.reduceEqDiff, Nat.reduceAdd, Nat.reduceMul, Nat.reduceLT, Nat.reduceLeDiff, reduceCtorEq, ne_eq, Int.reduceEq, Int.reduceLT, Int.reduceLE, Int.reduceNeg, Int.reduceToNat]
  refine w_for l.length (fun i t loc h' => h' = h ∧ t 0 = a ∧ t 1 = b ∧ t 5 = .int .i64 i ∧ i ≤ m.length ∧ ∀ j, j < i → l.getD j 0 = m.getD j 0) ⟨rfl, rfl, rfl, rfl, Nat.zero_le _, fun j hj => by omega⟩ ?_
  rintro i t loc h' hi ⟨rfl, t0, t1, t5, him, hall⟩
  by_cases h1 : i < l.length
  · have h1' : (i : Int) < l.length := by omega
    by_cases h2 : i < m.length
    · have h2' : (i : Int) < m.length := by omega
      have hw : IntKind.i64.wrap ((i : Int) + 1) = ((i + 1 : Nat) : Int) := w64 (by omega) (by omega)
      have e1 := int_el ha h1
      have e2 := int_el hb h2
      by_cases e : l.getD i 0 = m.getD i 0
      · simp only [t0, t1, t5, ints_ln ha, ints_ln hb, h1', h2', e1.1, e1.2, e2.1, e2.2, e, hw, go_sem, reduceIte, Nat.reduceEqDiff, Nat.reduceAdd, Nat.reduceMul, Nat.reduceLT, Nat.reduceLeDiff, reduceCtorEq, ne_eq, Int.reduceEq, Int.reduceLT, Int.reduceLE, Int.reduceNeg, Int.reduceToNat]
        exact ⟨h1, h2, below_succ hall e⟩
      · have hd := lessB_diff h1 h2 hall e
        simp only [t0, t1, t5, ints_ln ha, ints_ln hb, h1', h2', e1.1, e1.2, e2.1, e2.2, e, hd, go_sem, reduceIte, Nat.reduceEqDiff, Nat.reduceAdd, Nat.reduceMul, Nat.reduceLT, Nat.reduceLeDiff, reduceCtorEq, ne_eq, Int.reduceEq, Int.reduceLT, Int.reduceLE, Int.reduceNeg, Int.reduceToNat]
    · have h2' : ¬ (i : Int) < m.length := by omega
      have hd := lessB_same (l := l) (m := m) fun j _ h4 => hall j (by omega)
      simp only [t0, t1, t5, ints_ln ha, ints_ln hb, h1', h2', hd, go_sem, reduceIte, Nat.reduceEqDiff, Nat.reduceAdd, Nat.reduceMul, Nat.reduceLT, Nat.reduceLeDiff, reduceCtorEq, ne_eq, Int.reduceEq, Int.reduceLT, Int.reduceLE, Int.reduceNeg, Int.reduceToNat]
  · have h1' : ¬ (i : Int) < l.length := by omega
    have hd := lessB_same (l := l) (m := m) fun j h3 _ => hall j (by omega)
    simp only [t0, t1, t5, ints_ln ha, ints_ln hb, h1', hd, go_sem, reduceIte, Nat.reduceEqDiff, Nat.reduceAdd, Nat.reduceMul, Nat.reduceLT, Nat.reduceLeDiff, reduceCtorEq, ne_eq, Int.reduceEq, Int.reduceLT, Int.reduceLE, Int.reduceNeg, Int.reduceToNat]

open Classical in
theorem k_impl_Blocks (he : Rows h 5 ev (edges es)) (hl : es.length ≤ lim) : ∃ v hh, C T X n_impl_Blocks [graphV size ev] h = some (v, hh) ∧ h <+: hh ∧ Own hh h.length hh.length 1 y_int v (ints (blocksL es size)) := by
  have hk := k_impl_GraphOk (X := X) (size := size) he hl
  refine C_ex t_impl_Blocks rfl ?_
  unfold F_impl_Blocks blocksL
  by_cases g : GOk size es
  rotate_left
  · unfold graphV at hk ⊢
    simp only [hk, g, go_sem, reduceIte, Nat.reduceEqDiff, Nat.reduceAdd, Nat.reduceMul, Nat.reduceLT, Nat.reduceLeDiff, reduceCtorEq, ne_eq, Int.reduceEq, Int.reduceLT, Int.reduceLE, Int.reduceNeg, Int.reduceToNat]
    exact ⟨List.prefix_refl _, Own.nil⟩
  have gs := g.1
  obtain ⟨n, rfl⟩ := Int.eq_ofNat_of_zero_le gs.1
  have hn9 : n ≤ 9 := by omega
  rw [Int.toNat_natCast]
  have hsh := shl_one hn9
  have hpw : 2 ^ n ≤ 512 := Nat.pow_le_pow_right (show 0 < 2 by omega) hn9
  have hpos : 0 < 2 ^ n := Nat.two_pow_pos n
  have hneg : ¬ (n : Int) < 0 := by omega
  have hbits : IntKind.i64.bits = 64 := rfl
  unfold graphV at hk ⊢
  simp only [hk, g, Int.toNat_natCast, hneg, hbits, hsh, go_sem, reduceIte, Nat.reduceEqDiff, Nat.reduceAdd, Nat.reduceMul, Nat.reduceLT, Nat.reduceLeDiff, reduceCtorEq, ne_eq, Int.reduceEq, Int.reduceLT, Int.reduceLE, Int.reduceNeg, Int.reduceToNat]
  refine w_for (2 ^ n) (fun x t loc h' => loc 1 = some [.int .i64 n, ev] ∧ t 14 = .int .i64 (2 ^ n : Nat) ∧ t 15 = .int .i64 x ∧ h <+: h' ∧ t 4 = .int .i64 (blkTo es n x).2 ∧ ∃ v, t 3 = v ∧ Own h' h.length h'.length 1 y_int v (ints (blkTo es n x).1)) ⟨rfl, rfl, rfl, List.prefix_refl _, rfl, _, rfl, Own.nil⟩ ?_
  rintro x t loc h1 hx ⟨l1, t14, t15, hp, t4, v, t3, o⟩
  simp only [t14, t15, go_sem, reduceIte, Nat.reduceEqDiff, Nat.reduceAdd, Nat.reduceMul, Nat.reduceLT, Nat.reduceLeDiff, reduceCtorEq, ne_eq, Int.reduceEq, Int.reduceLT, Int.reduceLE, Int.reduceNeg, Int.reduceToNat]
  refine w_open (by simp only [go_sem, reduceIte, Nat.reduceEqDiff, Nat.reduceAdd, Nat.reduceMul, Nat.reduceLT, Nat.reduceLeDiff, reduceCtorEq, ne_eq, Int.reduceEq, Int.reduceLT, Int.reduceLE, Int.reduceNeg, Int.reduceToNat]; rfl) ?_ ?_ <;> intro hc
  · have hx1 : x < 2 ^ n := by omega
    have hw : IntKind.i64.wrap ((x : Int) + 1) = ((x + 1 : Nat) : Int) := w64 (by omega) (by omega)
    simp only [l1, t3, t4, t14, t15, go_sem, reduceIte, Nat.reduceEqDiff, Nat.reduceAdd, Nat.reduceMul, Nat.reduceLT, Nat.reduceLeDiff, reduceCtorEq, ne_eq, Int.reduceEq, Int.reduceLT, Int.reduceLE, Int.reduceNeg, Int.reduceToNat]
    refine w_for n (fun k t loc h' => loc 1 = some [.int .i64 n, ev] ∧ t 3 = v ∧ t 4 = .int .i64 (blkTo es n x).2 ∧ t 5 = .int .i64 x ∧ t 14 = .int .i64 (2 ^ n : Nat) ∧ t 15 = .int .i64 x ∧ t 19 = .int .i64 n ∧ t 20 = .int .i64 k ∧ ∃ w, t 6 = w ∧ Acc h1 1 y_int w (ints (bitTo x k)) h') ⟨rfl, rfl, rfl, rfl, rfl, rfl, rfl, rfl, _, rfl, Acc.nil⟩ ?_
    rintro k t loc h2 hk1 ⟨l1, t3, t4, t5, t14, t15, t19, t20, w, t6, ha⟩
    simp only [t19, t20, go_sem, reduceIte, Nat.reduceEqDiff, Nat.reduceAdd, Nat.reduceMul, Nat.reduceLT, Nat.reduceLeDiff, reduceCtorEq, ne_eq, Int.reduceEq, Int.reduceLT, Int.reduceLE, Int.reduceNeg, Int.reduceToNat]
    refine w_open (by simp only [go_sem, reduceIte, Nat.reduceEqDiff, Nat.reduceAdd, Nat.reduceMul, Nat.reduceLT, Nat.reduceLeDiff, reduceCtorEq, ne_eq, Int.reduceEq, Int.reduceLT, Int.reduceLE, Int.reduceNeg, Int.reduceToNat]; rfl) ?_ ?_ <;> intro hc
    · have hk2 : k < n := by omega
      have hw2 : IntKind.i64.wrap ((k : Int) + 1) = ((k + 1 : Nat) : Int) := w64 (by omega) (by omega)
      have hbl := bitTo_len (x := x) (n := k)
      have hbs := bitTo_succ (x := x) (n := k)
      have hneg2 : ¬ (k : Int) < 0 := by omega
      have hmin : min k IntKind.i64.bits = k := Nat.min_eq_left (by have : IntKind.i64.bits = 64 := rfl; omega)
      have hmin2 : min k 64 = k := Nat.min_eq_left (by omega)
      have hxd : x / 2 ^ k < 4611686018427387904 := Nat.lt_of_le_of_lt (Nat.div_le_self _ _) (by omega)
      by_cases q : x / 2 ^ k % 2 = 1
      · rw [if_pos q] at hbs
        have q' : ((x / 2 ^ k % 2 : Nat) : Int) = 1 := by omega
        obtain ⟨w', h3, c, hb'⟩ := ha.push1 [.int .i64 (k : Int)] rfl (by rw [ints_len]; unfold lim; omega)
        simp only [l1, t3, t4, t5, t6, t14, t15, t19, t20, hneg2, Int.toNat_natCast, hmin, hmin2, shr_nat, and1 hxd, q', c, hw2, go_sem, reduceIte, Nat.reduceEqDiff, Nat.reduceAdd, Nat.reduceMul, Nat.reduceLT, Nat.reduceLeDiff, reduceCtorEq, ne_eq, Int.reduceEq, Int.reduceLT, Int.reduceLE, Int.reduceNeg, Int.reduceToNat]
        refine ⟨hk2, w', rfl, ?_⟩
        rw [hbs]
        simpa [ints] using hb'
      · rw [if_neg q] at hbs
        have q' : ¬ ((x / 2 ^ k % 2 : Nat) : Int) = 1 := by omega
        simp only [l1, t3, t4, t5, t6, t14, t15, t19, t20, hneg2, Int.toNat_natCast, hmin, hmin2, shr_nat, and1 hxd, q', hw2, go_sem, reduceIte, Nat.reduceEqDiff, Nat.reduceAdd, Nat.reduceMul, Nat.reduceLT, Nat.reduceLeDiff, reduceCtorEq, ne_eq, Int.reduceEq, Int.reduceLT, Int.reduceLE, Int.reduceNeg, Int.reduceToNat]
        exact ⟨hk2, w, rfl, by rw [hbs]; exact ha⟩
    · have hkn : k = n := by omega
      subst hkn
      have hbl := bitTo_len (x := x) (n := k)
      have hp2 : h <+: h2 := hp.trans ha.up
      have co := k_impl_OddParts (X := X) (size := (k : Int)) (he.up hp2) ha.rows hl (by unfold lim; omega)
      have hodd : oddN es (bitTo x k) k = ((oddSum (comps es (bitTo x k) k) : Nat) : Int) := by unfold oddN; rw [if_pos g, Int.toNat_natCast]
      rw [hodd] at co
      have hsb := setVal_bnd (es := es) (n := k) (x := x)
      have hwv : IntKind.i64.wrap (((bitTo x k).length : Int) - ((oddSum (comps es (bitTo x k) k) : Nat) : Int)) = setVal es k x := by
        have e : ((bitTo x k).length : Int) - ((oddSum (comps es (bitTo x k) k) : Nat) : Int) = setVal es k x := rfl
        rw [e, w64 (by omega) (by omega)]
      have hbb := (blkTo_bnd (es := es) (n := k) x).1
      have clt := k_impl_listLess (X := X) ha.rows (o.up ha.up).rows (by unfold lim; omega)
      unfold graphV at co
      have onew : Own h2 h.length h2.length 1 y_int w (ints (bitTo x k)) := ha.own.wide (pre_len hp) (Nat.le_refl _)
      have oold : Own h2 h.length h2.length 1 y_int v (ints (blkTo es k x).1) := (o.up ha.up).wide (Nat.le_refl _) (pre_len ha.up)
      rcases Nat.eq_zero_or_pos x with hz | hxp
      · subst hz
        have hz' : ((0 : Nat) : Int) = 0 := rfl
        simp only [l1, t3, t4, t5, t6, t14, t15, ints_ln ha.rows, co, hwv, hz', go_sem, reduceIte, Nat.reduceEqDiff, Nat.reduceAdd, Nat.reduceMul, Nat.reduceLT, Nat.reduceLeDiff, reduceCtorEq, ne_eq, Int.reduceEq, Int.reduceLT, Int.reduceLE, Int.reduceNeg, Int.reduceToNat]
        refine ⟨hx1, by rfl, hp2, rfl, w, rfl, ?_⟩
        rw [bitTo_zero] at onew
        exact onew
      · have hz' : ¬ (x : Int) = 0 := by omega
        have hnx := blkTo_next (es := es) (n := k) hxp
        unfold blkStep at hnx
        by_cases r1 : setVal es k x < (blkTo es k x).2
        · rw [if_pos (.inl r1)] at hnx
          simp only [l1, t3, t4, t5, t6, t14, t15, ints_ln ha.rows, co, hwv, hz', r1, hw, go_sem, reduceIte, Nat.reduceEqDiff, Nat.reduceAdd, Nat.reduceMul, Nat.reduceLT, Nat.reduceLeDiff, reduceCtorEq, ne_eq, Int.reduceEq, Int.reduceLT, Int.reduceLE, Int.reduceNeg, Int.reduceToNat]
          exact ⟨hx1, hp2, by rw [hnx], w, rfl, by rw [hnx]; exact onew⟩
        by_cases r2 : setVal es k x = (blkTo es k x).2
        rotate_left
        · rw [if_neg (by rintro (h | h); exact r1 h; exact r2 h.1)] at hnx
          simp only [l1, t3, t4, t5, t6, t14, t15, ints_ln ha.rows, co, hwv, hz', r1, r2, hw, go_sem, reduceIte, Nat.reduceEqDiff, Nat.reduceAdd, Nat.reduceMul, Nat.reduceLT, Nat.reduceLeDiff, reduceCtorEq, ne_eq, Int.reduceEq, Int.reduceLT, Int.reduceLE, Int.reduceNeg, Int.reduceToNat]
          exact ⟨hx1, hp2, by rw [hnx], v, rfl, by rw [hnx]; exact oold⟩
        have r1' : ¬ (blkTo es k x).2 < (blkTo es k x).2 := by omega
        by_cases r3 : (bitTo x k).length < (blkTo es k x).1.length
        · rw [if_pos (.inr ⟨r2, .inl r3⟩)] at hnx
          have r3' : ((bitTo x k).length : Int) < ((blkTo es k x).1.length : Int) := by omega
          simp only [l1, t3, t4, t5, t6, t14, t15, ints_ln ha.rows, ints_ln oold.rows, co, hwv, hz', r1', r2, r3', hw, go_sem, reduceIte, Nat.reduceEqDiff, Nat.reduceAdd, Nat.reduceMul, Nat.reduceLT, Nat.reduceLeDiff, reduceCtorEq, ne_eq, Int.reduceEq, Int.reduceLT, Int.reduceLE, Int.reduceNeg, Int.reduceToNat]
          exact ⟨hx1, hp2, by rw [hnx, r2], w, rfl, by rw [hnx]; exact onew⟩
        have r3' : ¬ ((bitTo x k).length : Int) < ((blkTo es k x).1.length : Int) := by omega
        by_cases r4 : (bitTo x k).length = (blkTo es k x).1.length
        rotate_left
        · rw [if_neg (by rintro (h | ⟨_, h | h⟩); exact r1 h; exact r3 h; exact r4 h.1)] at hnx
          have r4' : ¬ ((bitTo x k).length : Int) = ((blkTo es k x).1.length : Int) := by omega
          simp only [l1, t3, t4, t5, t6, t14, t15, ints_ln ha.rows, ints_ln oold.rows, co, hwv, hz', r1', r2, r3', r4', hw, go_sem, reduceIte, Nat.reduceEqDiff, Nat.reduceAdd, Nat.reduceMul, Nat.reduceLT, Nat.reduceLeDiff, reduceCtorEq, ne_eq, Int.reduceEq, Int.reduceLT, Int.reduceLE, Int.reduceNeg, Int.reduceToNat]
          exact ⟨hx1, hp2, by rw [hnx], v, rfl, by rw [hnx]; exact oold⟩
        have r4' : ((bitTo x k).length : Int) = ((blkTo es k x).1.length : Int) := by omega
        have hwv2 := hwv
        rw [r4'] at hwv2
        have r3'' : ¬ ((blkTo es k x).1.length : Int) < ((blkTo es k x).1.length : Int) := by omega
        cases r5 : lessB (bitTo x k) (blkTo es k x).1 with
        | true =>
          rw [if_pos (.inr ⟨r2, .inr ⟨r4, r5⟩⟩)] at hnx
          rw [r5] at clt
          simp only [l1, t3, t4, t5, t6, t14, t15, ints_ln ha.rows, ints_ln oold.rows, co, hwv2, hz', r1', r2, r3'', r4', clt, hw, go_sem, reduceIte, Nat.reduceEqDiff, Nat.reduceAdd, Nat.reduceMul, Nat.reduceLT, Nat.reduceLeDiff, reduceCtorEq, ne_eq, Int.reduceEq, Int.reduceLT, Int.reduceLE, Int.reduceNeg, Int.reduceToNat]
          exact ⟨hx1, hp2, by rw [hnx, r2], w, rfl, by rw [hnx]; exact onew⟩
        | false =>
          rw [if_neg (by rintro (h | ⟨_, h | h⟩); exact r1 h; exact r3 h; rw [r5] at h; cases h.2)] at hnx
          rw [r5] at clt
          simp only [l1, t3, t4, t5, t6, t14, t15, ints_ln ha.rows, ints_ln oold.rows, co, hwv2, hz', r1', r2, r3'', r4', clt, hw, go_sem, reduceIte, Nat.reduceEqDiff, Nat.reduceAdd, Nat.reduceMul, Nat.reduceLT, Nat.reduceLeDiff, reduceCtorEq, ne_eq, Int.reduceEq, Int.reduceLT, Int.reduceLE, Int.reduceNeg, Int.reduceToNat]
          exact ⟨hx1, hp2, by rw [hnx], v, rfl, by rw [hnx]; exact oold⟩
  · have hxn : x = 2 ^ n := by omega
    subst hxn
    simp only [t3, go_sem, reduceIte, Nat.reduceEqDiff, Nat.reduceAdd, Nat.reduceMul, Nat.reduceLT, Nat.reduceLeDiff, reduceCtorEq, ne_eq, Int.reduceEq, Int.reduceLT, Int.reduceLE, Int.reduceNeg, Int.reduceToNat]
    exact ⟨o.live, o.fin hp⟩
end
end Go.Proofs.Ytlndlccbecnjoaa.Ab
