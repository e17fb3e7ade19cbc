/- One operation that is taken, whatever it is; one that is not. No conditions. -/
import Derived.Test.YtlndlccbecnjoaaAb12
namespace Go.Proofs.Ytlndlccbecnjoaa.Ab
set_option linter.unusedSimpArgs false
set_option linter.unusedVariables false
set_option linter.unnecessarySimpa false
open Go.RowKit
section
variable {P : Program} {N : Nat} {D : List Nat} {E L : List (Nat × Nat)} {μ0 : Map} {h0 : Heap} {w0 : World} {lam : Nat → Nat} {μ : Map} {s s' : St} {a : Act} {w : World} {o : Oper} {v : Value} {h' : Heap} {call : FuncId → List Value → Heap → Option (Value × Heap)} {Q : Exit → Act → World → Prop}

theorem inv_newL {z : List Value} (hc : compIns P D E L o = some (.newL z)) : ∃ t n agg, o.op = .alloc t ∧ rowOf P t = some (n, agg) ∧ zeroOf P t = some z ∧ n = z.length ∧ 0 < n := by
  unfold compIns at hc
  split at hc <;> (repeat' split at hc) <;> simp only [Option.map_eq_some_iff, Option.some.injEq, reduceCtorEq, MI.newL.injEq, and_false, exists_false] at hc
  all_goals (subst hc; rename_i h1 h2 h3 h4 h5; exact ⟨_, _, _, by assumption, by assumption, by assumption, h4.1, h4.2⟩)

theorem inv_boxL {n : Nat} {y : Opd} (hc : compIns P D E L o = some (.boxL n y)) : ∃ t x agg, o.op = .box t x ∧ rowOf P t = some (n, agg) ∧ opd x = some y ∧ 0 < n := by
  unfold compIns at hc
  split at hc <;> (repeat' split at hc) <;> simp only [Option.map_eq_some_iff, Option.some.injEq, reduceCtorEq, MI.boxL.injEq, and_false, exists_false] at hc
  all_goals (obtain ⟨rfl, rfl⟩ := hc; exact ⟨_, _, _, by assumption, by assumption, by assumption, by assumption⟩)

theorem inv_faB {off d : Nat} (hc : compIns P D E L o = some (.faB off d)) : ∃ t f n agg, o.op = .fieldAddr t (.tmp d) f ∧ fieldOf P t f = some (off, n, agg) ∧ D.contains d = true := by
  unfold compIns at hc
  split at hc <;> (repeat' split at hc) <;> simp only [Option.map_eq_some_iff, Option.some.injEq, reduceCtorEq, MI.faB.injEq, and_false, exists_false] at hc
  all_goals (obtain ⟨rfl, rfl⟩ := hc; exact ⟨_, _, _, _, by assumption, by assumption, by assumption⟩)

theorem inv_faE {off d e : Nat} (hc : compIns P D E L o = some (.faE off d e)) : ∃ t f n agg, o.op = .fieldAddr t (.tmp e) f ∧ fieldOf P t f = some (off, n, agg) ∧ E.lookup e = some d := by
  unfold compIns at hc
  split at hc <;> (repeat' split at hc) <;> simp only [Option.map_eq_some_iff, Option.some.injEq, reduceCtorEq, MI.faE.injEq, and_false, exists_false] at hc
  all_goals (obtain ⟨rfl, rfl, rfl⟩ := hc; exact ⟨_, _, _, _, by assumption, by assumption, by assumption⟩)

theorem inv_stB {n d : Nat} {y : Opd} (hc : compIns P D E L o = some (.stB n d y)) : ∃ t x agg i, o.op = .store t (.tmp d) x ∧ rowOf P t = some (n, agg) ∧ P.info? t = some i ∧ i.size = n ∧ opd x = some y ∧ D.contains d = true := by
  unfold compIns at hc
  split at hc <;> (repeat' split at hc) <;> simp only [Option.map_eq_some_iff, Option.some.injEq, reduceCtorEq, MI.stB.injEq, and_false, exists_false] at hc
  all_goals (obtain ⟨rfl, rfl, rfl⟩ := hc; exact ⟨_, _, _, _, by assumption, by assumption, by assumption, by assumption, by assumption, by assumption⟩)

theorem inv_stE {n d e : Nat} {y : Opd} (hc : compIns P D E L o = some (.stE n d e y)) : ∃ t x agg i, o.op = .store t (.tmp e) x ∧ rowOf P t = some (n, agg) ∧ P.info? t = some i ∧ i.size = n ∧ opd x = some y ∧ E.lookup e = some d := by
  unfold compIns at hc
  split at hc <;> (repeat' split at hc) <;> simp only [Option.map_eq_some_iff, Option.some.injEq, reduceCtorEq, MI.stE.injEq, and_false, exists_false] at hc
  all_goals (obtain ⟨rfl, rfl, rfl, rfl⟩ := hc; exact ⟨_, _, _, _, by assumption, by assumption, by assumption, by assumption, by assumption, by assumption⟩)

theorem inv_st {n : Nat} {x' y : Opd} (hc : compIns P D E L o = some (.st n x' y)) : ∃ t z x agg i, o.op = .store t (.tmp z) x ∧ x' = .t z ∧ rowOf P t = some (n, agg) ∧ P.info? t = some i ∧ i.size = n ∧ opd x = some y := by
  unfold compIns at hc
  split at hc <;> (repeat' split at hc) <;> simp only [Option.map_eq_some_iff, Option.some.injEq, reduceCtorEq, MI.st.injEq, and_false, exists_false] at hc
  all_goals (obtain ⟨rfl, rfl, rfl⟩ := hc; exact ⟨_, _, _, _, _, by assumption, rfl, by assumption, by assumption, by assumption, by assumption⟩)

theorem inv_litL {n sz : Nat} {z : List Value} {ps : List (Nat × Opd)} (hc : compIns P D E L o = some (.litL n sz z ps)) : ∃ t parts e b xs d, o.op = .buildSlice t n parts ∧ elemOf P t = some (e, sz, b, z) ∧ opds (parts.toList.map (·.2)) = some xs ∧ ps = (parts.toList.map (·.1)).zip xs ∧ n * sz ≤ 16777216 ∧ 0 < n ∧ o.dst = some d ∧ L.lookup d = some n := by
  unfold compIns at hc
  split at hc <;> (repeat' split at hc) <;> simp only [Option.map_eq_some_iff, Option.some.injEq, reduceCtorEq, MI.litL.injEq, and_false, exists_false] at hc
  all_goals (obtain ⟨rfl, rfl, rfl, rfl⟩ := hc; rename_i h1; obtain ⟨rfl, h1⟩ := h1; exact ⟨_, _, _, _, _, _, by assumption, by assumption, by assumption, rfl, by assumption, h1, by assumption, by assumption⟩)

theorem inv_call {f : FuncId} {l : List Opd} (hc : compIns P D E L o = some (.call f l)) : ∃ args ts, o.op = .call { callee := .value (.func f), args := args, argTypes := ts } ∧ opds args.toList = some l := by
  unfold compIns at hc
  split at hc <;> (repeat' split at hc) <;> simp only [Option.map_eq_some_iff, Option.some.injEq, reduceCtorEq, MI.call.injEq, and_false, exists_false] at hc
  all_goals (obtain ⟨_, h, rfl, rfl⟩ := hc; exact ⟨_, _, by assumption, h⟩)

theorem inv_callV {f : Opd} {l : List Opd} (hc : compIns P D E L o = some (.callV f l)) : ∃ ft args ts, f = .t ft ∧ o.op = .call { callee := .value (.tmp ft), args := args, argTypes := ts } ∧ opds args.toList = some l := by
  unfold compIns at hc
  split at hc <;> (repeat' split at hc) <;> simp only [Option.map_eq_some_iff, Option.some.injEq, reduceCtorEq, MI.callV.injEq, and_false, exists_false] at hc
  all_goals (obtain ⟨_, h, rfl, rfl⟩ := hc; exact ⟨_, _, _, rfl, by assumption, h⟩)

end
end Go.Proofs.Ytlndlccbecnjoaa.Ab
