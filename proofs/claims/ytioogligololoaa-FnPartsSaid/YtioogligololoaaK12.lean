/- Contracts: an ascending list with one more. No conditions. -/
import Derived.Test.YtioogligololoaaK11
set_option linter.unusedSimpArgs false
set_option linter.unusedVariables false
set_option linter.unnecessarySimpa false
set_option maxHeartbeats 4000000
namespace Go.Proofs.Ytioogligololoaa.Ab
open Go.RowKit

section
variable {X : CallF} {h : Heap} {a v : Value} {l : List Int} {n : Int} {lo hi : Nat}

/-- What 'with' comes to, where the number is not there yet. -/
theorem with_tail {i : Nat} (o : Own h lo hi 1 y_int a (ints l)) (hl : l.length < lim) (hi' : i ≤ l.length) :
    ∃ v1 v2 h2 v3 h3 v4 v5 h5, slLV 1 a none (some (.int .i64 (i : Int))) h = some v1 ∧ C T X n_impl_copyInts [v1] h = some (v2, h2) ∧ h <+: h2 ∧ appLW h2 1 y_int 1 v2 (some [.int .i64 n]) = some (v3, h3) ∧ h <+: h3 ∧
      slLV 1 a (some (.int .i64 (i : Int))) none h = some v4 ∧ appW h3 1 y_int v3 v4 = some (v5, h5) ∧ h <+: h5 ∧ Own h5 h.length h5.length 1 y_int v5 (ints (l.take i ++ [n] ++ l.drop i)) := by
  obtain ⟨v1, e1, r1⟩ := o.rows.sub (i := 0) (k := i) (lo := none) (hi := some (.int .i64 (i : Int))) (Nat.zero_le _) (by rw [ints_len]; exact hi') (by omega) rfl rfl
  obtain ⟨v4, e4, r4⟩ := o.rows.sub (i := i) (k := l.length) (lo := some (.int .i64 (i : Int))) (hi := none) hi' (by rw [ints_len]; exact Nat.le_refl _) (by omega) rfl (by rw [ints_len]; rfl)
  rw [List.drop_zero, Nat.sub_zero, ints_take] at r1
  rw [ints_drop, ints_take, List.take_of_length_le (by simp)] at r4
  unfold lim at hl
  obtain ⟨v2, h2, c2, p2, o2⟩ := k_impl_copyInts (X := X) r1 (by unfold lim; simp; omega)
  obtain ⟨v3, h3, e3, g3, b3, o3⟩ := o2.push1 (pre_len p2) [.int .i64 n] rfl (by rw [ints_len]; unfold lim; simp; omega)
  have p3 : h <+: h3 := pre_push p2 (Nat.le_refl _) g3 b3
  obtain ⟨v5, h5, e5, g5, b5, o5⟩ := o3.app (pre_len p3) (r4.up p3) (by simp [ints_len]; unfold lim; omega)
  have p5 : h <+: h5 := pre_push p3 (Nat.le_refl _) g5 b5
  refine ⟨v1, v2, h2, v3, h3, v4, v5, h5, e1, c2, p2, e3, p3, e4, e5, p5, ?_⟩
  have : ints (l.take i ++ [n] ++ l.drop i) = ints (l.take i) ++ [[.int .i64 n]] ++ ints (l.drop i) := by simp [ints]
  rw [this]
  exact o5.wide (Nat.le_refl _) (by omega)

theorem k_impl_with (o : Own h lo hi 1 y_int a (ints l)) (hlo : lo ≤ h.length) (hl : l.length < lim) :
    ∃ v hh, C T X n_impl_with [a, .int .i64 n] h = some (v, hh) ∧ h <+: hh ∧ Own hh lo (max hi hh.length) 1 y_int v (ints (withL l n)) := by
  have hlm := hl
  unfold lim at hlm
  refine C_ex t_impl_with rfl ?_
  unfold F_impl_with
  simp only [go_sem, reduceIte, Nat.reduceEqDiff, Nat.reduceAdd, Nat.reduceMul, Nat.reduceLT, Nat.reduceLeDiff, reduceCtorEq, ne_eq, Int.reduceEq, Int.reduceLT, Int.reduceLE, Int.reduceNeg, Int.reduceToNat]
  refine w_for l.length (fun i t loc h' => h' = h ∧ t 0 = a ∧ t 1 = .int .i64 n ∧ t 5 = .int .i64 i ∧ ∀ j, j < i → l.getD j 0 < n) ⟨rfl, rfl, rfl, rfl, fun j hj => by omega⟩ ?_
  rintro i t loc h' hi ⟨rfl, t0, t1, t5, hall⟩
  obtain ⟨v1, v2, h2, v3, h3, v4, v5, h5, e1, c2, p2, e3, p3, e4, e5, p5, o5⟩ := with_tail (X := X) (n := n) o hl hi
  have hfin := o5.fin p5
  by_cases hi1 : i < l.length
  · have hi1' : (i : Int) < l.length := by omega
    have hel := int_el o.rows hi1
    have hw : IntKind.i64.wrap ((i : Int) + 1) = ((i + 1 : Nat) : Int) := w64 (by omega) (by omega)
    by_cases e : l.getD i 0 < n
    · simp only [t0, t1, t5, ints_ln o.rows, hi1', hel.1, hel.2, e, hw, go_sem, reduceIte, Nat.reduceEqDiff, Nat.reduceAdd, Nat.reduceMul, Nat.reduceLT, Nat.reduceLeDiff, reduceCtorEq, ne_eq, Int.reduceEq, Int.reduceLT, Int.reduceLE, Int.reduceNeg, Int.reduceToNat]
      exact ⟨hi1, below_succ hall e⟩
    · have hwl := withL_at hi hall (fun _ => e)
      by_cases e2 : l.getD i 0 = n
      · have e' : ¬ n < n := by omega
        rw [if_pos ⟨hi1, e2⟩] at hwl
        simp only [t0, t1, t5, ints_ln o.rows, hi1', hel.1, hel.2, e', e2, go_sem, reduceIte, Nat.reduceEqDiff, Nat.reduceAdd, Nat.reduceMul, Nat.reduceLT, Nat.reduceLeDiff, reduceCtorEq, ne_eq, Int.reduceEq, Int.reduceLT, Int.reduceLE, Int.reduceNeg, Int.reduceToNat]
        rw [hwl]
        exact ⟨o.live, List.prefix_refl _, o.wide (Nat.le_refl _) (Nat.le_max_left _ _)⟩
      · rw [if_neg (by simp [hi1, e2]; intro h; exact e2 (by simpa [hi1] using h))] at hwl
        simp only [t0, t1, t5, ints_ln o.rows, hi1', hel.1, hel.2, e, e2, e1, c2, p2, e3, p3, e4, e5, p5, go_sem, reduceIte, Nat.reduceEqDiff, Nat.reduceAdd, Nat.reduceMul, Nat.reduceLT, Nat.reduceLeDiff, reduceCtorEq, ne_eq, Int.reduceEq, Int.reduceLT, Int.reduceLE, Int.reduceNeg, Int.reduceToNat]
        rw [hwl]
        exact ⟨o5.live, hfin.1, hfin.2.wide hlo (Nat.le_max_right _ _)⟩
  · have hi1' : ¬ (i : Int) < l.length := by omega
    have hwl := withL_at hi hall (fun h => absurd h hi1)
    rw [if_neg (by simp [hi1])] at hwl
    simp only [t0, t1, t5, ints_ln o.rows, hi1', e1, c2, p2, e3, p3, e4, e5, p5, go_sem, reduceIte, Nat.reduceEqDiff, Nat.reduceAdd, Nat.reduceMul, Nat.reduceLT, Nat.reduceLeDiff, reduceCtorEq, ne_eq, Int.reduceEq, Int.reduceLT, Int.reduceLE, Int.reduceNeg, Int.reduceToNat]
    rw [hwl]
    exact ⟨o5.live, hfin.1, hfin.2.wide hlo (Nat.le_max_right _ _)⟩
end
end Go.Proofs.Ytioogligololoaa.Ab
