/- Contracts: the blocking set, by the reference. No conditions. -/
import Derived.Test.YtlndlccbecnjoaaK18
set_option linter.unusedSimpArgs false
set_option linter.unusedVariables false
set_option linter.unnecessarySimpa false
set_option maxHeartbeats 4000000
namespace Go.Proofs.Ytlndlccbecnjoaa.Ab
open Go.RowKit
theorem w_dbl {k : Nat} (h : k < 9) : IntKind.i64.wrap (2 * ((2 ^ k : Nat) : Int)) = ((2 ^ (k + 1) : Nat) : Int) := by
  have hb : 2 ^ k ≤ 512 := Nat.pow_le_pow_right (show 0 < 2 by omega) (show k ≤ 9 by omega)
  rw [Nat.pow_succ]
  have key : ∀ p : Nat, p ≤ 512 → IntKind.i64.wrap (2 * (p : Int)) = ((p * 2 : Nat) : Int) := fun p hp => by rw [w64 (by omega) (by omega)]; omega
  exact key _ hb
theorem tmod2 (m : Nat) : (m : Int).tmod 2 = ((m % 2 : Nat) : Int) := rfl
theorem tdiv2 (m : Nat) : (m : Int).tdiv 2 = ((m / 2 : Nat) : Int) := rfl
section
variable {X : CallF} {h : Heap} {ev : Value} {es : List E} {size : Int}
open Classical in
theorem k_spec_Blocks (he : Rows h 5 ev (edges es)) (hl : es.length ≤ lim) : ∃ v hh, C T X n_spec_Blocks [graphV size ev] h = some (v, hh) ∧ h <+: hh ∧ Own hh h.length hh.length 1 y_int v (ints (blocksL es size)) := by
  have hk := k_spec_GraphOk (X := X) (size := size) (he.up (List.prefix_append h [⟨[], 1, y_int, true⟩])) hl
  refine C_ex t_spec_Blocks rfl ?_
  unfold F_spec_Blocks blocksL
  by_cases g : GOk size es
  rotate_left
  · unfold graphV at hk ⊢
    simp only [hk, g, zeros, fillAt, go_sem, reduceIte, Nat.reduceEqDiff, Nat.reduceAdd, Nat.reduceMul, Nat.reduceLT, Nat.reduceLeDiff, reduceCtorEq, ne_eq, Int.reduceEq, Int.reduceLT, Int.reduceLE, Int.reduceNeg, Int.reduceToNat]
    exact Own.fin (List.prefix_append _ _) Acc.new.own
  have gs := g.1
  obtain ⟨n, rfl⟩ := Int.eq_ofNat_of_zero_le gs.1
  have hn9 : n ≤ 9 := by omega
  rw [Int.toNat_natCast]
  have hpw : 2 ^ n ≤ 512 := Nat.pow_le_pow_right (show 0 < 2 by omega) hn9
  have hpos : 0 < 2 ^ n := Nat.two_pow_pos n
  have hE : ∀ e ∈ es, EOk n e := fun e he => gok_mem g he
  have c0 := k_spec_l17Odd (X := X) (he.up (List.prefix_append h [⟨[], 1, y_int, true⟩])) (Acc.new (h := h) (sz := 1) (ty := y_int)).own.rows hl (out := []) (Nat.zero_le _) hn9 hE
  have hv0 : IntKind.i64.wrap (0 - ((oddSum (comps es [] n) : Nat) : Int)) = setVal es n 0 := by
    have e : setVal es n 0 = 0 - ((oddSum (comps es [] n) : Nat) : Int) := by unfold setVal; rw [bitTo_zero]; rfl
    have hb := setVal_bnd (es := es) (n := n) (x := 0)
    rw [← e, w64 (by omega) (by omega)]
  unfold graphV at hk c0 ⊢
  simp only [hk, g, c0, hv0, zeros, fillAt, go_sem, reduceIte, Nat.reduceEqDiff, Nat.reduceAdd, Nat.reduceMul, Nat.reduceLT, Nat.reduceLeDiff, reduceCtorEq, ne_eq, Int.reduceEq, Int.reduceLT, Int.reduceLE, Int.reduceNeg, Int.reduceToNat]
  refine w_for n (fun k t loc h' => h' = h ++ [⟨[], 1, y_int, true⟩] ∧ loc 1 = some [.int .i64 n, ev] ∧ t 3 = .slice (some ⟨h.length, 0, none⟩) 0 0 ∧ t 4 = .int .i64 (setVal es n 0) ∧ t 5 = .int .i64 ((2 ^ k : Nat) : Int) ∧ t 6 = .int .i64 k) ⟨rfl, rfl, rfl, rfl, rfl, rfl⟩ ?_
  rintro k t loc h' hk1 ⟨rfl, l1, t3, t4, t5, t6⟩
  simp only [l1, t6, go_sem, reduceIte, Nat.reduceEqDiff, Nat.reduceAdd, Nat.reduceMul, Nat.reduceLT, Nat.reduceLeDiff, reduceCtorEq, ne_eq, Int.reduceEq, Int.reduceLT, Int.reduceLE, Int.reduceNeg, Int.reduceToNat]
  refine w_open (by simp only [go_sem, reduceIte, Nat.reduceEqDiff, Nat.reduceAdd, Nat.reduceMul, Nat.reduceLT, Nat.reduceLeDiff, reduceCtorEq, ne_eq, Int.reduceEq, Int.reduceLT, Int.reduceLE, Int.reduceNeg, Int.reduceToNat]; rfl) ?_ ?_ <;> intro hc
  · have hk2 : k < n := by omega
    have hw : IntKind.i64.wrap ((k : Int) + 1) = ((k + 1 : Nat) : Int) := w64 (by omega) (by omega)
    have hw2 := w_dbl (k := k) (by omega)
    simp only [l1, t3, t4, t5, t6, hw, hw2, go_sem, reduceIte, Nat.reduceEqDiff, Nat.reduceAdd, Nat.reduceMul, Nat.reduceLT, Nat.reduceLeDiff, reduceCtorEq, ne_eq, Int.reduceEq, Int.reduceLT, Int.reduceLE, Int.reduceNeg, Int.reduceToNat]
    exact hk2
  have hkn : k = n := by omega
  subst hkn
  simp only [l1, t3, t4, t5, go_sem, reduceIte, Nat.reduceEqDiff, Nat.reduceAdd, Nat.reduceMul, Nat.reduceLT, Nat.reduceLeDiff, reduceCtorEq, ne_eq, Int.reduceEq, Int.reduceLT, Int.reduceLE, Int.reduceNeg, Int.reduceToNat]
  refine w_for (2 ^ k - 1) (fun y t loc h' => loc 1 = some [.int .i64 k, ev] ∧ t 5 = .int .i64 (2 ^ k : Nat) ∧ t 7 = .int .i64 (y + 1 : Nat) ∧ h <+: h' ∧ t 4 = .int .i64 (blkTo es k (y + 1)).2 ∧ ∃ v, t 3 = v ∧ Own h' h.length h'.length 1 y_int v (ints (blkTo es k (y + 1)).1)) ⟨rfl, rfl, rfl, List.prefix_append _ _, rfl, _, rfl, Acc.new.own⟩ ?_
  rintro y t loc h1 hy ⟨l1, t5, t7, hp, t4, v, t3, o⟩
  obtain ⟨x, hx⟩ : ∃ x, x = y + 1 := ⟨_, rfl⟩
  rw [← hx] at t7 t4 o
  have hxp : 0 < x := by omega
  simp only [t5, t7, go_sem, reduceIte, Nat.reduceEqDiff, Nat.reduceAdd, Nat.reduceMul, Nat.reduceLT, Nat.reduceLeDiff, reduceCtorEq, ne_eq, Int.reduceEq, Int.reduceLT, Int.reduceLE, Int.reduceNeg, Int.reduceToNat]
  refine w_open (by simp only [go_sem, reduceIte, Nat.reduceEqDiff, Nat.reduceAdd, Nat.reduceMul, Nat.reduceLT, Nat.reduceLeDiff, reduceCtorEq, ne_eq, Int.reduceEq, Int.reduceLT, Int.reduceLE, Int.reduceNeg, Int.reduceToNat]; rfl) ?_ ?_ <;> intro hc
  · have hx1 : x < 2 ^ k := by omega
    have hy1 : y < 2 ^ k - 1 := by omega
    have hw : IntKind.i64.wrap ((x : Int) + 1) = ((x + 1 : Nat) : Int) := w64 (by omega) (by omega)
    simp only [l1, t3, t4, t5, t7, zeros, fillAt, go_sem, reduceIte, Nat.reduceEqDiff, Nat.reduceAdd, Nat.reduceMul, Nat.reduceLT, Nat.reduceLeDiff, reduceCtorEq, ne_eq, Int.reduceEq, Int.reduceLT, Int.reduceLE, Int.reduceNeg, Int.reduceToNat]
    refine w_for k (fun j t loc h' => loc 1 = some [.int .i64 k, ev] ∧ t 3 = v ∧ t 4 = .int .i64 (blkTo es k x).2 ∧ t 5 = .int .i64 (2 ^ k : Nat) ∧ t 7 = .int .i64 x ∧ t 9 = .int .i64 (x / 2 ^ j : Nat) ∧ t 10 = .int .i64 j ∧ ∃ w, t 8 = w ∧ Acc h1 1 y_int w (ints (bitTo x j)) h') ⟨rfl, rfl, rfl, rfl, rfl, by simp [upd], rfl, _, rfl, Acc.new⟩ ?_
    rintro j t loc h2 hj1 ⟨l1, t3, t4, t5, t7, t9, t10, w, t8, ha⟩
    simp only [l1, t10, go_sem, reduceIte, Nat.reduceEqDiff, Nat.reduceAdd, Nat.reduceMul, Nat.reduceLT, Nat.reduceLeDiff, reduceCtorEq, ne_eq, Int.reduceEq, Int.reduceLT, Int.reduceLE, Int.reduceNeg, Int.reduceToNat]
    refine w_open (by simp only [go_sem, reduceIte, Nat.reduceEqDiff, Nat.reduceAdd, Nat.reduceMul, Nat.reduceLT, Nat.reduceLeDiff, reduceCtorEq, ne_eq, Int.reduceEq, Int.reduceLT, Int.reduceLE, Int.reduceNeg, Int.reduceToNat]; rfl) ?_ ?_ <;> intro hc
    · have hj2 : j < k := by omega
      have hw2 : IntKind.i64.wrap ((j : Int) + 1) = ((j + 1 : Nat) : Int) := w64 (by omega) (by omega)
      have hbl := bitTo_len (x := x) (n := j)
      have hbs := bitTo_succ (x := x) (n := j)
      have hxd : x / 2 ^ j ≤ 512 := Nat.le_trans (Nat.div_le_self _ _) (by omega)
      have hdd : x / 2 ^ j / 2 = x / 2 ^ (j + 1) := by rw [Nat.div_div_eq_div_mul, Nat.pow_succ]
      have hwd : IntKind.i64.wrap ((x / 2 ^ j / 2 : Nat) : Int) = ((x / 2 ^ (j + 1) : Nat) : Int) := by
        have key : ∀ p : Nat, p ≤ 512 → IntKind.i64.wrap ((p / 2 : Nat) : Int) = ((p / 2 : Nat) : Int) := fun p hp => w64 (by omega) (by omega)
        rw [← hdd]; exact key _ hxd
      by_cases q : x / 2 ^ j % 2 = 1
      · rw [if_pos q] at hbs
        have q' : ((x / 2 ^ j % 2 : Nat) : Int) = 1 := by omega
        obtain ⟨w', h3, c, hb'⟩ := ha.push1 [.int .i64 (j : Int)] rfl (by rw [ints_len]; unfold lim; omega)
        simp only [l1, t3, t4, t5, t7, t8, t9, t10, tmod2, tdiv2, q', hwd, c, hw2, go_sem, reduceIte, Nat.reduceEqDiff, Nat.reduceAdd, Nat.reduceMul, Nat.reduceLT, Nat.reduceLeDiff, reduceCtorEq, ne_eq, Int.reduceEq, Int.reduceLT, Int.reduceLE, Int.reduceNeg, Int.reduceToNat]
        refine ⟨hj2, w', rfl, ?_⟩
        rw [hbs]
        simpa [ints] using hb'
      · rw [if_neg q] at hbs
        have q' : ¬ ((x / 2 ^ j % 2 : Nat) : Int) = 1 := by omega
        simp only [l1, t3, t4, t5, t7, t8, t9, t10, tmod2, tdiv2, q', hwd, hw2, go_sem, reduceIte, Nat.reduceEqDiff, Nat.reduceAdd, Nat.reduceMul, Nat.reduceLT, Nat.reduceLeDiff, reduceCtorEq, ne_eq, Int.reduceEq, Int.reduceLT, Int.reduceLE, Int.reduceNeg, Int.reduceToNat]
        exact ⟨hj2, w, rfl, by rw [hbs]; exact ha⟩
    · have hjk : j = k := by omega
      subst hjk
      have hbl := bitTo_len (x := x) (n := j)
      have hp2 : h <+: h2 := hp.trans ha.up
      have co := k_spec_l17Odd (X := X) (he.up hp2) ha.rows hl (by unfold lim; omega) hn9 hE
      have hsb := setVal_bnd (es := es) (n := j) (x := x)
      have hwv : IntKind.i64.wrap (((bitTo x j).length : Int) - ((oddSum (comps es (bitTo x j) j) : Nat) : Int)) = setVal es j x := by
        have e : ((bitTo x j).length : Int) - ((oddSum (comps es (bitTo x j) j) : Nat) : Int) = setVal es j x := rfl
        rw [e, w64 (by omega) (by omega)]
      have hbb := (blkTo_bnd (es := es) (n := j) x).1
      have clt := k_spec_l10Ahead (X := X) ha.rows (o.up ha.up).rows (by unfold lim; omega)
      unfold graphV at co
      have onew : Own h2 h.length h2.length 1 y_int w (ints (bitTo x j)) := ha.own.wide (pre_len hp) (Nat.le_refl _)
      have oold : Own h2 h.length h2.length 1 y_int v (ints (blkTo es j x).1) := (o.up ha.up).wide (Nat.le_refl _) (pre_len ha.up)
      have hnx := blkTo_next (es := es) (n := j) hxp
      unfold blkStep at hnx
      subst hx
      by_cases r1 : setVal es j (y + 1) < (blkTo es j (y + 1)).2
      · rw [if_pos (.inl r1)] at hnx
        simp only [l1, t3, t4, t5, t7, t8, ints_ln ha.rows, co, hwv, r1, hw, go_sem, reduceIte, Nat.reduceEqDiff, Nat.reduceAdd, Nat.reduceMul, Nat.reduceLT, Nat.reduceLeDiff, reduceCtorEq, ne_eq, Int.reduceEq, Int.reduceLT, Int.reduceLE, Int.reduceNeg, Int.reduceToNat]
        exact ⟨hy1, hp2, by rw [hnx], w, rfl, by rw [hnx]; exact onew⟩
      by_cases r2 : setVal es j (y + 1) = (blkTo es j (y + 1)).2
      rotate_left
      · rw [if_neg (by rintro (h | h); exact r1 h; exact r2 h.1)] at hnx
        simp only [l1, t3, t4, t5, t7, t8, ints_ln ha.rows, co, hwv, r1, r2, hw, go_sem, reduceIte, Nat.reduceEqDiff, Nat.reduceAdd, Nat.reduceMul, Nat.reduceLT, Nat.reduceLeDiff, reduceCtorEq, ne_eq, Int.reduceEq, Int.reduceLT, Int.reduceLE, Int.reduceNeg, Int.reduceToNat]
        exact ⟨hy1, hp2, by rw [hnx], v, rfl, by rw [hnx]; exact oold⟩
      have r1' : ¬ (blkTo es j (y + 1)).2 < (blkTo es j (y + 1)).2 := by omega
      by_cases r3 : (bitTo (y + 1) j).length < (blkTo es j (y + 1)).1.length
      · rw [if_pos (.inr ⟨r2, .inl r3⟩)] at hnx
        have r3' : ((bitTo (y + 1) j).length : Int) < ((blkTo es j (y + 1)).1.length : Int) := by omega
        simp only [l1, t3, t4, t5, t7, t8, ints_ln ha.rows, ints_ln oold.rows, co, hwv, r1', r2, r3', hw, go_sem, reduceIte, Nat.reduceEqDiff, Nat.reduceAdd, Nat.reduceMul, Nat.reduceLT, Nat.reduceLeDiff, reduceCtorEq, ne_eq, Int.reduceEq, Int.reduceLT, Int.reduceLE, Int.reduceNeg, Int.reduceToNat]
        exact ⟨hy1, hp2, by rw [hnx, r2], w, rfl, by rw [hnx]; exact onew⟩
      have r3' : ¬ ((bitTo (y + 1) j).length : Int) < ((blkTo es j (y + 1)).1.length : Int) := by omega
      by_cases r4 : (bitTo (y + 1) j).length = (blkTo es j (y + 1)).1.length
      rotate_left
      · rw [if_neg (by rintro (h | ⟨_, h | h⟩); exact r1 h; exact r3 h; exact r4 h.1)] at hnx
        have r4' : ¬ ((bitTo (y + 1) j).length : Int) = ((blkTo es j (y + 1)).1.length : Int) := by omega
        simp only [l1, t3, t4, t5, t7, t8, ints_ln ha.rows, ints_ln oold.rows, co, hwv, r1', r2, r3', r4', hw, go_sem, reduceIte, Nat.reduceEqDiff, Nat.reduceAdd, Nat.reduceMul, Nat.reduceLT, Nat.reduceLeDiff, reduceCtorEq, ne_eq, Int.reduceEq, Int.reduceLT, Int.reduceLE, Int.reduceNeg, Int.reduceToNat]
        exact ⟨hy1, hp2, by rw [hnx], v, rfl, by rw [hnx]; exact oold⟩
      have r4' : ((bitTo (y + 1) j).length : Int) = ((blkTo es j (y + 1)).1.length : Int) := by omega
      have hwv2 := hwv
      rw [r4'] at hwv2
      have r3'' : ¬ ((blkTo es j (y + 1)).1.length : Int) < ((blkTo es j (y + 1)).1.length : Int) := by omega
      cases r5 : lessB (bitTo (y + 1) j) (blkTo es j (y + 1)).1 with
      | true =>
        rw [if_pos (.inr ⟨r2, .inr ⟨r4, r5⟩⟩)] at hnx
        rw [r5] at clt
        simp only [l1, t3, t4, t5, t7, t8, ints_ln ha.rows, ints_ln oold.rows, co, hwv2, r1', r2, r3'', r4', clt, hw, go_sem, reduceIte, Nat.reduceEqDiff, Nat.reduceAdd, Nat.reduceMul, Nat.reduceLT, Nat.reduceLeDiff, reduceCtorEq, ne_eq, Int.reduceEq, Int.reduceLT, Int.reduceLE, Int.reduceNeg, Int.reduceToNat]
        exact ⟨hy1, hp2, by rw [hnx, r2], w, rfl, by rw [hnx]; exact onew⟩
      | false =>
        rw [if_neg (by rintro (h | ⟨_, h | h⟩); exact r1 h; exact r3 h; rw [r5] at h; cases h.2)] at hnx
        rw [r5] at clt
        simp only [l1, t3, t4, t5, t7, t8, ints_ln ha.rows, ints_ln oold.rows, co, hwv2, r1', r2, r3'', r4', clt, hw, go_sem, reduceIte, Nat.reduceEqDiff, Nat.reduceAdd, Nat.reduceMul, Nat.reduceLT, Nat.reduceLeDiff, reduceCtorEq, ne_eq, Int.reduceEq, Int.reduceLT, Int.reduceLE, Int.reduceNeg, Int.reduceToNat]
        exact ⟨hy1, hp2, by rw [hnx], v, rfl, by rw [hnx]; exact oold⟩
  · have hxn : x = 2 ^ k := by omega
    rw [hxn] at o
    simp only [t3, go_sem, reduceIte, Nat.reduceEqDiff, Nat.reduceAdd, Nat.reduceMul, Nat.reduceLT, Nat.reduceLeDiff, reduceCtorEq, ne_eq, Int.reduceEq, Int.reduceLT, Int.reduceLE, Int.reduceNeg, Int.reduceToNat]
    exact ⟨o.live, o.fin hp⟩
end
end Go.Proofs.Ytlndlccbecnjoaa.Ab
