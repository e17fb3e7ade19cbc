/- What the machine does at an operation is what the small language says: values. No conditions. -/
import Derived.Test.YtlndlccbecnjoaaAb3b
import Derived.Laws.Rows
import Derived.Laws.Strings
import Derived.WalkKit
namespace Go.Proofs.Ytlndlccbecnjoaa.Ab
set_option linter.unusedSimpArgs false
set_option linter.unusedVariables false
set_option linter.unnecessarySimpa false
open Go.RowKit

/-- The slots' part of the relation. -/
structure RelT (N : Nat) (μ : Map) (s : St) (a : Act) : Prop where
  size : a.tmps.size = N
  t : ∀ i, VR μ s.h (s.t i) (a.tmps.getD i undef)

section
variable {P : Program} {N : Nat} {D E : List Nat} {μ : Map} {s : St} {a : Act} {w : World} {o : Oper}

theorem constOk_prim {v : Value} (h : constOk v = true) : prim v = true := by
  unfold constOk at h
  split at h <;> first | rfl | cases h

theorem VR.of_prim {h : Heap} {v : Value} (hp : prim v = true) : VR μ h v v := .val _ _ (.one _ _ (.base _ _ (.prim _ hp)))

theorem VR.of_hollow {h : Heap} (A : Addr) : VR μ h (.slice none 0 0) (.slice (some A) 0 0) := .val _ _ (.one _ _ (.base _ _ (.hollow A)))

theorem eval_opd {x : Operand} {y : Opd} (R : RelT N μ s a) (h : opd x = some y) : VR μ s.h (s.val y) (a.eval x) := by
  cases x with
  | tmp t => simp [opd] at h; subst h; exact R.t t
  | const v =>
    simp only [opd] at h
    split at h
    · rename_i hc; cases h; exact VR.of_prim (constOk_prim hc)
    · cases h
  | global g => simp [opd] at h
  | func f => simp [opd] at h; subst h; exact .val _ _ (.one _ _ (.fn (.func f) [] [] All2.nil))

theorem VR.bool {h : Heap} {b : Bool} {v : Value} (k : VR μ h (.bool b) v) : v = .bool b := by
  cases k with
  | val _ _ k => cases k with
    | one _ _ k => cases k with
      | base _ _ k => cases k with
        | prim => rfl
theorem VR.int {h : Heap} {k' : IntKind} {n : Int} {v : Value} (k : VR μ h (.int k' n) v) : v = .int k' n := by
  cases k with
  | val _ _ k => cases k with
    | one _ _ k => cases k with
      | base _ _ k => cases k with
        | prim => rfl
theorem VR.string {h : Heap} {b : ByteArray} {v : Value} (k : VR μ h (.string b) v) : v = .string b := by
  cases k with
  | val _ _ k => cases k with
    | one _ _ k => cases k with
      | base _ _ k => cases k with
        | prim => rfl
theorem VR.agg' {h : Heap} {xs : List Value} {v : Value} (k : VR μ h (.agg ⟨xs⟩) v) : ∃ ys, v = .agg ⟨ys⟩ ∧ All2 (VR1 μ h) xs ys := by
  cases k with
  | val _ _ k => cases k with
    | one _ _ k => cases k with
      | base _ _ k => cases k with
        | prim _ hp => simp [Ab.prim] at hp
    | agg _ ys k => exact ⟨ys, rfl, k⟩
theorem VR.tup' {h : Heap} {xs : List Value} {v : Value} (k : VR μ h (.tuple ⟨xs⟩) v) : xs = [] ∨ ∃ ys, v = .tuple ⟨ys⟩ ∧ All2 (VRA μ h) xs ys := by
  generalize e : (Value.tuple ⟨xs⟩) = u at k
  cases k with
  | dead => unfold undef at e; injection e with e; exact .inl (by simpa using congrArg Array.toList e)
  | gone => cases e
  | val _ _ k => subst e; cases k with
    | one _ _ k => cases k with
      | base _ _ k => cases k with
        | prim _ hp => simp [Ab.prim] at hp
  | tup xs' ys k => injection e with e; have e' : xs = xs' := by simpa using congrArg Array.toList e
                    subst e'; exact .inr ⟨ys, rfl, k⟩
theorem VR.sliceNil {h : Heap} {v : Value} (k : VR μ h (.slice none 0 0) v) : v = .slice none 0 0 ∨ ∃ A, v = .slice (some A) 0 0 := by
  cases k with
  | val _ _ k => cases k with
    | one _ _ k => cases k with
      | base _ _ k => cases k with
        | prim => exact .inl rfl
        | hollow A => exact .inr ⟨A, rfl⟩
theorem VR.slice' {h : Heap} {b off len cap : Nat} {v : Value} {blk : Blk} (k : VR μ h (.slice (some ⟨b, off, none⟩) len cap) v) (hb : h[b]? = some blk) :
    len ≤ cap ∧ off + cap * blk.sz ≤ blk.cells.length ∧ (off + cap * blk.sz = blk.cells.length → SlOk (μ b) blk off len v) := by
  cases k with
  | val _ _ k => cases k with
    | one _ _ k => cases k with
      | base _ _ k => cases k with
        | prim _ hp => simp [Ab.prim] at hp
        | sl _ _ _ _ _ blk' hb' hle hc hv => rw [hb] at hb'; cases hb'; exact ⟨hle, hc, hv⟩
theorem VR.ptr' {h : Heap} {b off L : Nat} {v : Value} {blk : Blk} (k : VR μ h (.pointer (some ⟨b, off, some L⟩)) v) (hb : h[b]? = some blk) (hL : L = blk.cells.length) :
    v = .pointer (some ⟨(μ b).g, (μ b).o + off, none⟩) := by
  cases k with
  | val _ _ k => cases k with
    | one _ _ k => cases k with
      | base _ _ k => cases k with
        | prim _ hp => simp [Ab.prim] at hp
        | ptr _ _ _ _ blk' hb' hc hv => rw [hb] at hb'; cases hb'; exact hv hL

/-- The cells of a value, and of the machine's. -/
theorem VR.cells {h : Heap} {v v' : Value} {xs : List Value} (k : VR μ h v v') (hc : cellsOf v = some xs) : ∃ ys, v'.cells = ⟨ys⟩ ∧ All2 (VR1 μ h) xs ys := by
  cases k with
  | dead => simp [cellsOf, undef] at hc
  | gone => simp [cellsOf] at hc
  | tup => simp [cellsOf] at hc
  | val _ _ k => cases k with
    | agg xs' ys k => simp [cellsOf] at hc; subst hc; exact ⟨ys, rfl, k⟩
    | one _ _ k =>
      have h1 := k.oneCell
      have : xs = [v] := by
        cases k with
        | fn => simp [cellsOf] at hc; exact hc.symm
        | base _ _ k => cases k with
          | prim _ hp => cases v <;> first | (simp [Ab.prim] at hp; done) | (simp [cellsOf] at hc; exact hc.symm)
          | hollow => simp [cellsOf] at hc; exact hc.symm
          | sl => simp [cellsOf] at hc; exact hc.symm
          | ptr => simp [cellsOf] at hc; exact hc.symm
      subst this
      refine ⟨[v'], ?_, All2.cons k All2.nil⟩
      cases v' <;> first | rfl | (simp [Value.oneCell'] at h1)

/-- .. and back. -/
theorem VR.ofCells {h : Heap} {agg : Bool} {xs ys : List Value} {v : Value} (k : All2 (VR1 μ h) xs ys) (hc : ofCells agg xs = some v) :
    (agg = true ∧ VR μ h v (.agg ⟨ys⟩)) ∨ (agg = false ∧ ∃ y, ys = [y] ∧ VR μ h v y) := by
  unfold Ab.ofCells at hc
  cases agg with
  | true => simp only [if_true] at hc; cases hc; exact .inl ⟨rfl, .val _ _ (.agg _ _ k)⟩
  | false =>
    simp only [Bool.false_eq_true, if_false] at hc
    split at hc
    · cases hc
      rename_i u
      obtain ⟨y, hy, hk⟩ := k.get (i := 0) rfl
      have hl := k.1
      match ys, hl, hy with
      | [z], _, hy => simp at hy; subst hy; exact .inr ⟨rfl, z, rfl, .val _ _ (.one _ _ hk)⟩
    · cases hc

end
end Go.Proofs.Ytlndlccbecnjoaa.Ab
