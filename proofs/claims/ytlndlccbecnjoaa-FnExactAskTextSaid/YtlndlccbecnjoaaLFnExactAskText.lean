/- The law FnExactAskText, of arguments as they are shown. No conditions. -/
import Derived.Test.YtlndlccbecnjoaaK6
import Derived.Test.YtlndlccbecnjoaaH0
import Derived.Test.YtlndlccbecnjoaaH5
import Derived.Test.YtlndlccbecnjoaaOp3
set_option linter.unusedSimpArgs false
set_option linter.unusedVariables false
set_option linter.unnecessarySimpa false
set_option maxHeartbeats 4000000
namespace Go.Proofs.Ytlndlccbecnjoaa.Ab
open Go.RowKit
section
variable {X : CallF} {h : Heap} {aq0 : Aq}

open Classical in
theorem l_AskText (ha0 : AqOk aq0) : C T X n_laws_FnExactAskText [.agg ⟨aqR aq0⟩] h = some (.bool true, h) := by
  refine C_go t_laws_FnExactAskText rfl ?_
  unfold F_laws_FnExactAskText
  have q0 : h <+: h := List.prefix_refl h
  have c1 := k_toAsk (X := X) (l := aq0) (h := h)
  have c2 := k_spec_AskText (X := X) (h := h) (op := aq0.op) (a := aq0.a) (b := aq0.b) (w1 := aq0.w1) (w2 := aq0.w2) (w3 := aq0.w3)
  have c3 := k_toAsk (X := X) (l := aq0) (h := h)
  have c4 := k_impl_AskText (X := X) (h := h) (op := aq0.op) (a := aq0.a) (b := aq0.b) (w1 := aq0.w1) (w2 := aq0.w2) (w3 := aq0.w3)
  unfold aqR askV at *
  simp only [c1, c2, c3, c4, List.prefix_refl, BEq.rfl, List.prefix_refl, go_sem, reduceIte, Nat.reduceEqDiff, Nat.reduceAdd, Nat.reduceMul, Nat.reduceLT, Nat.reduceLeDiff, reduceCtorEq, ne_eq, Int.reduceEq, Int.reduceLT, Int.reduceLE, Int.reduceNeg, Int.reduceToNat]
end

def ps_FnExactAskText : List (Bool × List CK) := [(true, [.int .i64, .int .i64, .int .i64, .int .i64, .int .i64, .int .i64])]
theorem law_FnExactAskText (h : Heap) (avs : List Value) (ha : All2 (ArgOk h) ps_FnExactAskText avs) : C T noX n_laws_FnExactAskText avs h = some (.bool true, h) := by
  obtain ⟨v0, r, rfl, k0, ha⟩ := ha.cons_inv
  obtain rfl := ha.nil_inv
  obtain ⟨aq0, rfl, ha0⟩ := k0.ask
  exact l_AskText ha0
end Go.Proofs.Ytlndlccbecnjoaa.Ab
