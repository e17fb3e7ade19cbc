/- The law of a deed, of arguments as they are shown. No conditions. -/
import Derived.Test.YtlndlccbecnjoaaK2
import Derived.Test.YtlndlccbecnjoaaOp2
namespace Go.Proofs.Ytlndlccbecnjoaa.Ab
set_option linter.unusedSimpArgs false
set_option linter.unusedVariables false
set_option linter.unnecessarySimpa false
open Go.RowKit

def ps_FnExactDeedOk : List (Bool × List CK) := [(true, [.str, .bool, .int .i64, .sl [.int .i64], .int .i64, .int .i64])]
theorem law_FnExactDeedOk (h : Heap) (avs : List Value) (ha : All2 (ArgOk h) ps_FnExactDeedOk avs) : C T noX n_laws_FnExactDeedOk avs h = some (.bool true, h) := by
  obtain ⟨v, r, rfl, a, ha⟩ := ha.cons_inv
  obtain rfl := ha.nil_inv
  obtain ⟨acs, k, rfl⟩ := a.row
  obtain ⟨v0, r, rfl, k0, k⟩ := k.cons_inv
  obtain ⟨v1, r, rfl, k1, k⟩ := k.cons_inv
  obtain ⟨v2, r, rfl, k2, k⟩ := k.cons_inv
  obtain ⟨v3, r, rfl, k3, k⟩ := k.cons_inv
  obtain ⟨v4, r, rfl, k4, k⟩ := k.cons_inv
  obtain ⟨v5, r, rfl, k5, k⟩ := k.cons_inv
  obtain rfl := k.nil_inv
  obtain ⟨s, rfl, hs⟩ := k0.str_inv
  obtain ⟨c, rfl⟩ := k1.bool_inv
  obtain ⟨st, rfl, _⟩ := k2.int_inv
  obtain ⟨l, hl, hm, _⟩ := k3.ints_inv
  obtain ⟨to, rfl, _⟩ := k4.int_inv
  obtain ⟨pa, rfl, _⟩ := k5.int_inv
  exact l_DeedOk hl hm hs
end Go.Proofs.Ytlndlccbecnjoaa.Ab
