/- Contracts of the laws' helpers for lists of lists. No conditions. -/
import Derived.Test.YtlndlccbecnjoaaH0
import Derived.Test.YtlndlccbecnjoaaR6
set_option linter.unusedSimpArgs false
set_option linter.unusedVariables false
set_option linter.unnecessarySimpa false
set_option maxHeartbeats 4000000
namespace Go.Proofs.Ytlndlccbecnjoaa.Ab
open Go.RowKit
section
variable {X : CallF} {h : Heap} {a b v : Value} {ll : List (List Int)}

theorem mkInt_ints {k n : Nat} : mkRows mkInt k 1 n = ints ((List.range n).map fun j => ((k + j : Nat) : Int)) := by simp [mkRows, mkInt, ints]

theorem k_laws_eqIntSS (ha : RowsLL h a ll) (hb : RowsLL h b ll) (hl : ll.length ≤ lim) (hm : ∀ l ∈ ll, l.length ≤ lim) : C T X n_laws_eqIntSS [a, b] h = some (.bool true, h) := by
  unfold lim at hl
  refine C_go t_laws_eqIntSS rfl ?_
  unfold F_laws_eqIntSS
  simp only [ha.ln, hb.ln, go_sem, reduceIte, Nat.reduceEqDiff, Nat.reduceAdd, Nat.reduceMul, Nat.reduceLT, Nat.reduceLeDiff, reduceCtorEq, ne_eq, Int.reduceEq, Int.reduceLT, Int.reduceLE, Int.reduceNeg, Int.reduceToNat]
  refine w_for ll.length (fun i t loc h' => h' = h ∧ t 0 = a ∧ t 1 = b ∧ t 5 = .int .i64 i) ⟨rfl, rfl, rfl, rfl⟩ ?_
  rintro i t loc h' hi ⟨rfl, t0, t1, t5⟩
  simp only [t0, t5, ha.ln, go_sem, reduceIte, Nat.reduceEqDiff, Nat.reduceAdd, Nat.reduceMul, Nat.reduceLT, Nat.reduceLeDiff, reduceCtorEq, ne_eq, Int.reduceEq, Int.reduceLT, Int.reduceLE, Int.reduceNeg, Int.reduceToNat]
  refine w_open (by simp only [go_sem, reduceIte, Nat.reduceEqDiff, Nat.reduceAdd, Nat.reduceMul, Nat.reduceLT, Nat.reduceLeDiff, reduceCtorEq, ne_eq, Int.reduceEq, Int.reduceLT, Int.reduceLE, Int.reduceNeg, Int.reduceToNat]; rfl) ?_ ?_ <;> intro hc
  · have hi1 : i < ll.length := by omega
    have hw : IntKind.i64.wrap ((i : Int) + 1) = ((i + 1 : Nat) : Int) := w64 (by omega) (by omega)
    obtain ⟨x, e1, e2, e3⟩ := ha.el hi1
    obtain ⟨y, f1, f2, f3⟩ := hb.el hi1
    have hc := k_eqIntS (X := X) e3 f3 (hm _ (getD_mem hi1))
    simp only [t0, t1, t5, e1, e2, f1, f2, hc, hw, List.prefix_refl, go_sem, reduceIte, Nat.reduceEqDiff, Nat.reduceAdd, Nat.reduceMul, Nat.reduceLT, Nat.reduceLeDiff, reduceCtorEq, ne_eq, Int.reduceEq, Int.reduceLT, Int.reduceLE, Int.reduceNeg, Int.reduceToNat]
    exact hi1
  · simp only [go_sem, reduceIte, Nat.reduceEqDiff, Nat.reduceAdd, Nat.reduceMul, Nat.reduceLT, Nat.reduceLeDiff, reduceCtorEq, ne_eq, Int.reduceEq, Int.reduceLT, Int.reduceLE, Int.reduceNeg, Int.reduceToNat]

theorem k_laws_markIntSS {lo hi : Nat} (o : OwnLL h lo hi y_ints y_int v ll) (hl : ll.length ≤ 1048576) (hm : ∀ l ∈ ll, l.length ≤ lim) {k : Nat} (hk : k ≤ 1048576) (ht : totLL ll ≤ 1152921504606846976) :
    ∃ h', C T X n_laws_markIntSS [v, .int .i64 (k : Int)] h = some (.int .i64 ((k + totLL ll : Nat) : Int), h') ∧ Same lo hi h h' ∧ OwnLL h' lo hi y_ints y_int v (mkLL k ll) := by
  obtain ⟨vs, h1, h2, h3, h4, h5⟩ := o
  refine C_exH t_laws_markIntSS rfl ?_
  unfold F_laws_markIntSS
  simp only [go_sem, reduceIte, Nat.reduceEqDiff, Nat.reduceAdd, Nat.reduceMul, Nat.reduceLT, Nat.reduceLeDiff, reduceCtorEq, ne_eq, Int.reduceEq, Int.reduceLT, Int.reduceLE, Int.reduceNeg, Int.reduceToNat]
  refine w_for ll.length (fun i t loc h' => t 0 = v ∧ t 1 = .int .i64 ((k + totLL (ll.take i) : Nat) : Int) ∧ t 5 = .int .i64 i ∧ Same lo hi h h' ∧ Own h' lo hi 1 y_ints v (vs.map fun x => [x]) ∧ ∀ j, j < ll.length → Own h' lo hi 1 y_int (vs.getD j nilV) (ints (if j < i then (mkLL k ll).getD j [] else ll.getD j [])))
    ⟨rfl, by simp [upd, totLL], rfl, Same.refl, h2, fun j hj => by simpa using h3 j hj⟩ ?_
  rintro i t loc h' hi ⟨t0, t1, t5, hs, ho, hj⟩
  have hln := ho.ln
  rw [List.length_map, h1] at hln
  have hle : ∀ i, i ≤ ll.length → totLL (ll.take i) ≤ totLL ll := by
    intro i hi
    have : ∀ {a b : List (List Int)}, totLL (a ++ b) = totLL a + totLL b := by
      intro a b
      induction a with
      | nil => simp [totLL]
      | cons x a ih => simp only [List.cons_append, totLL, ih]; omega
    have h6 : totLL (ll.take i ++ ll.drop i) = _ := this
    rw [List.take_append_drop] at h6
    omega
  simp only [t0, t5, hln, go_sem, reduceIte, Nat.reduceEqDiff, Nat.reduceAdd, Nat.reduceMul, Nat.reduceLT, Nat.reduceLeDiff, reduceCtorEq, ne_eq, Int.reduceEq, Int.reduceLT, Int.reduceLE, Int.reduceNeg, Int.reduceToNat]
  refine w_open (by simp only [go_sem, reduceIte, Nat.reduceEqDiff, Nat.reduceAdd, Nat.reduceMul, Nat.reduceLT, Nat.reduceLeDiff, reduceCtorEq, ne_eq, Int.reduceEq, Int.reduceLT, Int.reduceLE, Int.reduceNeg, Int.reduceToNat]; rfl) ?_ ?_ <;> intro hc
  · have hi1 : i < ll.length := by omega
    have hw : IntKind.i64.wrap ((i : Int) + 1) = ((i + 1 : Nat) : Int) := w64 (by omega) (by omega)
    have hel := ho.rows.el (f := fun x => [x]) nilV (i := i) (by omega)
    have oi := hj i hi1
    rw [if_neg (Nat.lt_irrefl _)] at oi
    have hll := hle i hi
    have hl2 := hm _ (getD_mem (d := []) hi1)
    obtain ⟨h6, c, s, o6⟩ := k_markIntS (X := X) oi.tight (by rw [ints_len]; exact hl2) (k := k + totLL (ll.take i)) (by omega)
    rw [ints_len, mkInt_ints] at o6
    rw [ints_len] at c
    have htk := totLL_take hi1
    simp only [t0, t1, t5, hel.1, hel.2.2, c, hw, go_sem, reduceIte, Nat.reduceEqDiff, Nat.reduceAdd, Nat.reduceMul, Nat.reduceLT, Nat.reduceLeDiff, reduceCtorEq, ne_eq, Int.reduceEq, Int.reduceLT, Int.reduceLE, Int.reduceNeg, Int.reduceToNat]
    refine ⟨hi1, by rw [htk]; omega, hs.trans (oi.wider s), ho.apart s (h4 i hi1), fun j hj1 => ?_⟩
    rcases Nat.lt_trichotomy j i with hlt | heq | hgt
    · have oj := hj j hj1
      rw [if_pos hlt] at oj
      rw [if_pos (by omega)]
      exact oj.apart s (h5 j i hlt hi1)
    · subst heq
      rw [if_pos (by omega), mkLL_get hj1]
      exact oi.loose o6
    · have oj := hj j hj1
      rw [if_neg (by omega)] at oj
      rw [if_neg (by omega)]
      exact oj.apart s (h5 i j hgt hj1).symm
  · have hil : i = ll.length := by omega
    subst hil
    rw [List.take_length] at t1
    simp only [t1, finish_room hs.len, go_sem, reduceIte, Nat.reduceEqDiff, Nat.reduceAdd, Nat.reduceMul, Nat.reduceLT, Nat.reduceLeDiff, reduceCtorEq, ne_eq, Int.reduceEq, Int.reduceLT, Int.reduceLE, Int.reduceNeg, Int.reduceToNat]
    refine ⟨hs, vs, by rw [mkLL_len, h1], ho, fun j hj1 => ?_, fun j hj1 => h4 j (by rwa [mkLL_len] at hj1), fun i j hij hj1 => h5 i j hij (by rwa [mkLL_len] at hj1)⟩
    rw [mkLL_len] at hj1
    have := hj j hj1
    rwa [if_pos hj1] at this

theorem k_laws_heldIntSS {k : Nat} (ha : RowsLL h a (mkLL k ll)) (hl : ll.length ≤ 1048576) (hm : ∀ l ∈ ll, l.length ≤ lim) (hk : k ≤ 1048576) (ht : totLL ll ≤ 1152921504606846976) : C T X n_laws_heldIntSS [a, .int .i64 (k : Int)] h = some (.int .i64 ((k + totLL ll : Nat) : Int), h) := by
  refine C_go t_laws_heldIntSS rfl ?_
  unfold F_laws_heldIntSS
  have hln := ha.ln
  rw [mkLL_len] at hln
  simp only [go_sem, reduceIte, Nat.reduceEqDiff, Nat.reduceAdd, Nat.reduceMul, Nat.reduceLT, Nat.reduceLeDiff, reduceCtorEq, ne_eq, Int.reduceEq, Int.reduceLT, Int.reduceLE, Int.reduceNeg, Int.reduceToNat]
  refine w_for ll.length (fun i t loc h' => h' = h ∧ t 0 = a ∧ t 1 = .int .i64 ((k + totLL (ll.take i) : Nat) : Int) ∧ t 5 = .int .i64 i) ⟨rfl, rfl, by simp [upd, totLL], rfl⟩ ?_
  rintro i t loc h' hi ⟨rfl, t0, t1, t5⟩
  have hle : totLL (ll.take i) ≤ totLL ll := by
    have : ∀ {a b : List (List Int)}, totLL (a ++ b) = totLL a + totLL b := by
      intro a b
      induction a with
      | nil => simp [totLL]
      | cons x a ih => simp only [List.cons_append, totLL, ih]; omega
    have h6 : totLL (ll.take i ++ ll.drop i) = _ := this
    rw [List.take_append_drop] at h6
    omega
  simp only [t0, t5, hln, go_sem, reduceIte, Nat.reduceEqDiff, Nat.reduceAdd, Nat.reduceMul, Nat.reduceLT, Nat.reduceLeDiff, reduceCtorEq, ne_eq, Int.reduceEq, Int.reduceLT, Int.reduceLE, Int.reduceNeg, Int.reduceToNat]
  refine w_open (by simp only [go_sem, reduceIte, Nat.reduceEqDiff, Nat.reduceAdd, Nat.reduceMul, Nat.reduceLT, Nat.reduceLeDiff, reduceCtorEq, ne_eq, Int.reduceEq, Int.reduceLT, Int.reduceLE, Int.reduceNeg, Int.reduceToNat]; rfl) ?_ ?_ <;> intro hc
  · have hi1 : i < ll.length := by omega
    have hw : IntKind.i64.wrap ((i : Int) + 1) = ((i + 1 : Nat) : Int) := w64 (by omega) (by omega)
    obtain ⟨x, e1, e2, e3⟩ := ha.el (i := i) (by rw [mkLL_len]; exact hi1)
    rw [mkLL_get hi1, ← mkInt_ints] at e3
    have c := k_heldIntS (X := X) e3 (hm _ (getD_mem hi1)) (by omega)
    have htk := totLL_take hi1
    have hneg : ¬ (((k + totLL (ll.take i) + (ll.getD i []).length * 1 : Nat) : Int) < 0) := by omega
    simp only [t0, t1, t5, e1, e2, c, hneg, hw, go_sem, reduceIte, Nat.reduceEqDiff, Nat.reduceAdd, Nat.reduceMul, Nat.reduceLT, Nat.reduceLeDiff, reduceCtorEq, ne_eq, Int.reduceEq, Int.reduceLT, Int.reduceLE, Int.reduceNeg, Int.reduceToNat]
    exact ⟨hi1, by rw [htk]; omega⟩
  · have hil : i = ll.length := by omega
    subst hil
    rw [List.take_length] at t1
    simp only [t1, go_sem, reduceIte, Nat.reduceEqDiff, Nat.reduceAdd, Nat.reduceMul, Nat.reduceLT, Nat.reduceLeDiff, reduceCtorEq, ne_eq, Int.reduceEq, Int.reduceLT, Int.reduceLE, Int.reduceNeg, Int.reduceToNat]
end
end Go.Proofs.Ytlndlccbecnjoaa.Ab
