/- The law FnExactReadAsk, of arguments as they are shown. No conditions. -/
import Derived.Test.YtlndlccbecnjoaaK9
import Derived.Test.YtlndlccbecnjoaaH0
import Derived.Test.YtlndlccbecnjoaaH5
import Derived.Test.YtlndlccbecnjoaaOp3
set_option linter.unusedSimpArgs false
set_option linter.unusedVariables false
set_option linter.unnecessarySimpa false
set_option maxHeartbeats 4000000
namespace Go.Proofs.Ytlndlccbecnjoaa.Ab
open Go.RowKit
section
variable {X : CallF} {h : Heap} {sv0 : ByteArray}

open Classical in
theorem l_ReadAsk (ht0 : sv0.size ≤ maxLen) : C T X n_laws_FnExactReadAsk [.string sv0] h = some (.bool true, h) := by
  refine C_go t_laws_FnExactReadAsk rfl ?_
  unfold F_laws_FnExactReadAsk
  by_cases lc0 : (1048576 : Int) < sv0.size
  · unfold aqR at *
    simp only [lc0, go_sem, reduceIte, Nat.reduceEqDiff, Nat.reduceAdd, Nat.reduceMul, Nat.reduceLT, Nat.reduceLeDiff, reduceCtorEq, ne_eq, Int.reduceEq, Int.reduceLT, Int.reduceLE, Int.reduceNeg, Int.reduceToNat]
  have bs0 : sv0.size ≤ 1048576 := by omega
  have q0 : h <+: h := List.prefix_refl h
  have c2 := k_spec_ReadAsk (X := X) (h := h) (s := sv0) (by unfold lim; omega)
  have c4 := k_impl_ReadAsk (X := X) (h := h) (s := sv0) (by unfold lim; omega)
  obtain ⟨x, b, hx⟩ := askR_form sv0
  rw [hx] at c2 c4
  have ce := k_eqAsk (X := X) (h := h) (l := x)
  unfold aqR at *
  simp only [lc0, c2, c4, ce, List.prefix_refl, BEq.rfl, List.prefix_refl, go_sem, reduceIte, Nat.reduceEqDiff, Nat.reduceAdd, Nat.reduceMul, Nat.reduceLT, Nat.reduceLeDiff, reduceCtorEq, ne_eq, Int.reduceEq, Int.reduceLT, Int.reduceLE, Int.reduceNeg, Int.reduceToNat]
end

def ps_FnExactReadAsk : List (Bool × List CK) := [(false, [.str])]
theorem law_FnExactReadAsk (h : Heap) (avs : List Value) (ha : All2 (ArgOk h) ps_FnExactReadAsk avs) : C T noX n_laws_FnExactReadAsk avs h = some (.bool true, h) := by
  obtain ⟨v0, r, rfl, k0, ha⟩ := ha.cons_inv
  obtain rfl := ha.nil_inv
  obtain ⟨sv0, rfl, ht0⟩ := k0.cell.str_inv
  exact l_ReadAsk ht0
end Go.Proofs.Ytlndlccbecnjoaa.Ab
