/- Contracts of the lists of numbers. No conditions. -/
import Derived.Test.YtlndlccbecnjoaaFT
import Derived.Test.YtlndlccbecnjoaaR0
namespace Go.Proofs.Ytlndlccbecnjoaa.Ab
set_option linter.unusedSimpArgs false
set_option linter.unusedVariables false
set_option linter.unnecessarySimpa false
open Go.RowKit
section
variable {X : CallF} {h : Heap} {a b : Value} {l m : List Int}

theorem k_eqIntS (ha : Rows h 1 a (ints l)) (hb : Rows h 1 b (ints m)) (hl : l.length ≤ lim) : C T X n_laws_eqIntS [a, b] h = some (.bool (decide (l = m)), h) := by
  unfold lim at hl
  refine C_intro T X t_laws_eqIntS rfl ?_
  unfold F_laws_eqIntS start
  simp only [ints_ln ha, ints_ln hb, go_sem, reduceIte, Nat.reduceEqDiff, Nat.reduceAdd, Nat.reduceMul, Nat.reduceLT, Nat.reduceLeDiff, reduceCtorEq]
  refine w_open (by simp only [*, go_sem, reduceIte, Nat.reduceEqDiff, Nat.reduceAdd, Nat.reduceMul, Nat.reduceLT, Nat.reduceLeDiff, reduceCtorEq]; rfl) ?_ ?_ <;> intro hc
  · simp only [go_sem, reduceIte, Nat.reduceEqDiff, Nat.reduceAdd, Nat.reduceMul, Nat.reduceLT, Nat.reduceLeDiff, reduceCtorEq]
    refine rets_slot rfl (.inl rfl) rfl ?_
    have : ¬ l = m := fun e => hc (by rw [e])
    simp only [this, go_sem, reduceIte, Nat.reduceEqDiff, Nat.reduceAdd, Nat.reduceMul, Nat.reduceLT, Nat.reduceLeDiff, reduceCtorEq, finish_same]
  · have hlm : l.length = m.length := by omega
    simp only [go_sem, reduceIte, Nat.reduceEqDiff, Nat.reduceAdd, Nat.reduceMul, Nat.reduceLT, Nat.reduceLeDiff, reduceCtorEq]
    refine w_while (fun n s => ∃ (i : Nat) (t : Nat → Value) (loc : Nat → Option (List Value)), s = ⟨t, loc, fun _ => none, h⟩ ∧ t 0 = a ∧ t 1 = b ∧ t 5 = .int .i64 i ∧ i ≤ l.length ∧ n = l.length - i ∧ l.take i = m.take i) l.length ⟨0, _, _, rfl, rfl, rfl, rfl, Nat.zero_le _, rfl, rfl⟩ ?_
    rintro n s ⟨i, t, loc, rfl, t0, t1, t5, hi, rfl, hlt⟩
    simp only [t0, t1, t5, ints_ln ha, ints_ln hb, go_sem, reduceIte, Nat.reduceEqDiff, Nat.reduceAdd, Nat.reduceMul, Nat.reduceLT, Nat.reduceLeDiff, reduceCtorEq]
    refine w_open (by simp only [*, go_sem, reduceIte, Nat.reduceEqDiff, Nat.reduceAdd, Nat.reduceMul, Nat.reduceLT, Nat.reduceLeDiff, reduceCtorEq]; rfl) ?_ ?_ <;> intro hc
    · have hi1 : i < l.length := by omega
      have hi2 : i < m.length := by omega
      simp only [ints_ia ha (i := (i : Int)) (by omega) (by omega), ints_ia hb (i := (i : Int)) (by omega) (by omega), Int.toNat_natCast, ints_ld ha hi1, ints_ld hb hi2, t0, t1, t5, go_sem, reduceIte, Nat.reduceEqDiff, Nat.reduceAdd, Nat.reduceMul, Nat.reduceLT, Nat.reduceLeDiff, reduceCtorEq]
      refine w_open (by simp only [*, go_sem, reduceIte, Nat.reduceEqDiff, Nat.reduceAdd, Nat.reduceMul, Nat.reduceLT, Nat.reduceLeDiff, reduceCtorEq]; rfl) ?_ ?_ <;> intro hc2
      · simp only [go_sem, reduceIte, Nat.reduceEqDiff, Nat.reduceAdd, Nat.reduceMul, Nat.reduceLT, Nat.reduceLeDiff, reduceCtorEq]
        refine rets_slot rfl (.inl rfl) rfl ?_
        have : ¬ l = m := fun e => hc2 (by subst e; rfl)
        simp only [this, go_sem, reduceIte, Nat.reduceEqDiff, Nat.reduceAdd, Nat.reduceMul, Nat.reduceLT, Nat.reduceLeDiff, reduceCtorEq, finish_same]
      · simp only [t5, go_sem, reduceIte, Nat.reduceEqDiff, Nat.reduceAdd, Nat.reduceMul, Nat.reduceLT, Nat.reduceLeDiff, reduceCtorEq]
        rw [w64 (by omega) (by omega)]
        refine ⟨l.length - (i + 1), by omega, i + 1, _, _, rfl, t0, t1, rfl, by omega, rfl, ?_⟩
        rw [List.take_succ_eq_append_getElem hi1, List.take_succ_eq_append_getElem hi2, hlt]
        have : l[i] = m[i] := Decidable.of_not_not hc2
        rw [this]
    · simp only [go_sem, reduceIte, Nat.reduceEqDiff, Nat.reduceAdd, Nat.reduceMul, Nat.reduceLT, Nat.reduceLeDiff, reduceCtorEq]
      refine rets_slot rfl (.inl rfl) rfl ?_
      have hil : i = l.length := by omega
      subst hil
      have : l = m := by
        rw [List.take_length] at hlt
        rw [hlm, List.take_length] at hlt
        exact hlt
      simp only [this, go_sem, reduceIte, Nat.reduceEqDiff, Nat.reduceAdd, Nat.reduceMul, Nat.reduceLT, Nat.reduceLeDiff, reduceCtorEq, finish_same]

end
end Go.Proofs.Ytlndlccbecnjoaa.Ab
