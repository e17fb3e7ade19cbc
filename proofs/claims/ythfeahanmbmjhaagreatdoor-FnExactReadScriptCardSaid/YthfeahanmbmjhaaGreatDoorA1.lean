/- The small language is sound: values, stores, frames. No conditions. -/
import Derived.Test.YthfeahanmbmjhaaGreatDoorA0
import Derived.Laws.Rows
import Derived.Laws.Strings
import Derived.WalkKit
import Derived.Laws.Small
import Derived.Laws.StructEq
import Derived.Deep.Slices
import Derived.Laws.Tables
import Derived.Great.BuildSlice
import Derived.Laws.MakeOwn
set_option linter.unusedSimpArgs false
set_option linter.unusedVariables false
set_option linter.unnecessarySimpa false
set_option maxHeartbeats 4000000
/- What the machine does at an operation is what the small language says: values. No conditions. -/
namespace Go.Proofs.YthfeahanmbmjhaaGreatDoor.Ab
open Go.RowKit
/-- The slots' part of the relation. -/
structure RelT (N : Nat) (μ : Map) (s : St) (a : Act) : Prop where
  size : a.tmps.size = N
  t : ∀ i, VR μ s.h (s.t i) (a.tmps.getD i undef)
section
variable {P : Program} {N : Nat} {D E : List Nat} {μ : Map} {s : St} {a : Act} {w : World} {o : Oper}
theorem constOk_prim {v : Value} (h : constOk v = true) : prim v = true := by
  unfold constOk at h
  split at h <;> first | rfl | cases h
theorem VR.of_prim {h : Heap} {v : Value} (hp : prim v = true) : VR μ h v v := .val _ _ (.one _ _ (.base _ _ (.prim _ hp)))
theorem VR.of_hollow {h : Heap} (A : Addr) : VR μ h (.slice none 0 0) (.slice (some A) 0 0) := .val _ _ (.one _ _ (.base _ _ (.hollow A)))
theorem eval_opd {x : Operand} {y : Opd} (R : RelT N μ s a) (h : opd x = some y) : VR μ s.h (s.val y) (a.eval x) := by
  cases x with
  | tmp t => simp [opd] at h; subst h; exact R.t t
  | const v =>
    simp only [opd] at h
    split at h
    · rename_i hc; cases h; exact VR.of_prim (constOk_prim hc)
    · cases h
  | global g => simp [opd] at h
  | func f => simp [opd] at h; subst h; exact .val _ _ (.one _ _ (.fn (.func f) [] [] All2.nil))
theorem VR.bool {h : Heap} {b : Bool} {v : Value} (k : VR μ h (.bool b) v) : v = .bool b := by
  cases k with
  | val _ _ k => cases k with
    | one _ _ k => cases k with
      | base _ _ k => cases k with
        | prim => rfl
theorem VR.int {h : Heap} {k' : IntKind} {n : Int} {v : Value} (k : VR μ h (.int k' n) v) : v = .int k' n := by
  cases k with
  | val _ _ k => cases k with
    | one _ _ k => cases k with
      | base _ _ k => cases k with
        | prim => rfl
theorem VR.string {h : Heap} {b : ByteArray} {v : Value} (k : VR μ h (.string b) v) : v = .string b := by
  cases k with
  | val _ _ k => cases k with
    | one _ _ k => cases k with
      | base _ _ k => cases k with
        | prim => rfl
theorem VR.agg' {h : Heap} {xs : List Value} {v : Value} (k : VR μ h (.agg ⟨xs⟩) v) : ∃ ys, v = .agg ⟨ys⟩ ∧ All2 (VR1 μ h) xs ys := by
  cases k with
  | val _ _ k => cases k with
    | one _ _ k => cases k with
      | base _ _ k => cases k with
        | prim _ hp => simp [Ab.prim] at hp
    | agg _ ys k => exact ⟨ys, rfl, k⟩
theorem VR.tup' {h : Heap} {xs : List Value} {v : Value} (k : VR μ h (.tuple ⟨xs⟩) v) : xs = [] ∨ ∃ ys, v = .tuple ⟨ys⟩ ∧ All2 (VRA μ h) xs ys := by
  generalize e : (Value.tuple ⟨xs⟩) = u at k
  cases k with
  | dead => unfold undef at e; injection e with e; exact .inl (by simpa using congrArg Array.toList e)
  | gone => cases e
  | val _ _ k => subst e; cases k with
    | one _ _ k => cases k with
      | base _ _ k => cases k with
        | prim _ hp => simp [Ab.prim] at hp
  | tup xs' ys k => injection e with e; have e' : xs = xs' := by simpa using congrArg Array.toList e
                    subst e'; exact .inr ⟨ys, rfl, k⟩
theorem VR.sliceNil {h : Heap} {v : Value} (k : VR μ h (.slice none 0 0) v) : v = .slice none 0 0 ∨ ∃ A, v = .slice (some A) 0 0 := by
  cases k with
  | val _ _ k => cases k with
    | one _ _ k => cases k with
      | base _ _ k => cases k with
        | prim => exact .inl rfl
        | hollow A => exact .inr ⟨A, rfl⟩
theorem VR.slice' {h : Heap} {b off len cap : Nat} {v : Value} {blk : Blk} (k : VR μ h (.slice (some ⟨b, off, none⟩) len cap) v) (hb : h[b]? = some blk) :
    len ≤ cap ∧ off + cap * blk.sz ≤ blk.cells.length ∧ (off + cap * blk.sz = blk.cells.length → SlOk (μ b) blk off len v) := by
  cases k with
  | val _ _ k => cases k with
    | one _ _ k => cases k with
      | base _ _ k => cases k with
        | prim _ hp => simp [Ab.prim] at hp
        | sl _ _ _ _ _ blk' hb' hle hc hv => rw [hb] at hb'; cases hb'; exact ⟨hle, hc, hv⟩
theorem VR.ptr' {h : Heap} {b off L : Nat} {v : Value} {blk : Blk} (k : VR μ h (.pointer (some ⟨b, off, some L⟩)) v) (hb : h[b]? = some blk) (hL : L = blk.cells.length) :
    v = .pointer (some ⟨(μ b).g, (μ b).o + off, none⟩) := by
  cases k with
  | val _ _ k => cases k with
    | one _ _ k => cases k with
      | base _ _ k => cases k with
        | prim _ hp => simp [Ab.prim] at hp
        | ptr _ _ _ _ blk' hb' hc hv => rw [hb] at hb'; cases hb'; exact hv hL
/-- The cells of a value, and of the machine's. -/
theorem VR.cells {h : Heap} {v v' : Value} {xs : List Value} (k : VR μ h v v') (hc : cellsOf v = some xs) : ∃ ys, v'.cells = ⟨ys⟩ ∧ All2 (VR1 μ h) xs ys := by
  cases k with
  | dead => simp [cellsOf, undef] at hc
  | gone => simp [cellsOf] at hc
  | tup => simp [cellsOf] at hc
  | val _ _ k => cases k with
    | agg xs' ys k => simp [cellsOf] at hc; subst hc; exact ⟨ys, rfl, k⟩
    | one _ _ k =>
      have h1 := k.oneCell
      have : xs = [v] := by
        cases k with
        | fn => simp [cellsOf] at hc; exact hc.symm
        | base _ _ k => cases k with
          | prim _ hp => cases v <;> first | (simp [Ab.prim] at hp; done) | (simp [cellsOf] at hc; exact hc.symm)
          | hollow => simp [cellsOf] at hc; exact hc.symm
          | sl => simp [cellsOf] at hc; exact hc.symm
          | ptr => simp [cellsOf] at hc; exact hc.symm
      subst this
      refine ⟨[v'], ?_, All2.cons k All2.nil⟩
      cases v' <;> first | rfl | (simp [Value.oneCell'] at h1)
/-- .. and back. -/
theorem VR.ofCells {h : Heap} {agg : Bool} {xs ys : List Value} {v : Value} (k : All2 (VR1 μ h) xs ys) (hc : ofCells agg xs = some v) :
    (agg = true ∧ VR μ h v (.agg ⟨ys⟩)) ∨ (agg = false ∧ ∃ y, ys = [y] ∧ VR μ h v y) := by
  unfold Ab.ofCells at hc
  cases agg with
  | true => simp only [if_true] at hc; cases hc; exact .inl ⟨rfl, .val _ _ (.agg _ _ k)⟩
  | false =>
    simp only [Bool.false_eq_true, if_false] at hc
    split at hc
    · cases hc
      rename_i u
      obtain ⟨y, hy, hk⟩ := k.get (i := 0) rfl
      have hl := k.1
      match ys, hl, hy with
      | [z], _, hy => simp at hy; subst hy; exact .inr ⟨rfl, z, rfl, .val _ _ (.one _ _ hk)⟩
    · cases hc
end
end Go.Proofs.YthfeahanmbmjhaaGreatDoor.Ab
/- What the machine does at an operation is what the small language says: operations that only reckon or read. No conditions. -/
namespace Go.Proofs.YthfeahanmbmjhaaGreatDoor.Ab
open Go.RowKit
/-- The machine's answer to a value operation fits. -/
def Out (P : Program) (μ : Map) (h : Heap) (w : World) (o : Oper) (a : Act) (v : Value) (h' : Heap) : Prop :=
  ∃ v' w' μ', (execOp a.eval o).run P w = .ok (.value v') w' ∧ VR μ' h' v v' ∧ HRel μ' h' w' ∧ To μ h w μ' h' w'
section
variable {P : Program} {N : Nat} {D E : List Nat} {μ : Map} {s : St} {a : Act} {w : World} {o : Oper} {v : Value} {h' : Heap}
theorem Out.pure {v' : Value} (hr : (execOp a.eval o).run P w = .ok (.value v') w) (k : VR μ s.h v v') (H : HRel μ s.h w) : Out P μ s.h w o a v s.h := ⟨v', w, μ, hr, k, H, To.refl _ _ _⟩
theorem VR.mk_bool {h : Heap} {b : Bool} : VR μ h (.bool b) (.bool b) := VR.of_prim rfl
theorem VR.mk_int {h : Heap} {k : IntKind} {n : Int} : VR μ h (.int k n) (.int k n) := VR.of_prim rfl
theorem VR.mk_string {h : Heap} {b : ByteArray} : VR μ h (.string b) (.string b) := VR.of_prim rfl
theorem ok_move {x : Operand} {y : Opd} (R : RelT N μ s a) (H : HRel μ s.h w) (ho : o.op = .move x ∨ o.op = .assign x) (hx : opd x = some y) (hr : (MI.mov y).run s = some (v, h')) : Out P μ s.h w o a v h' := by
  simp only [MI.run, Option.some.injEq, Prod.mk.injEq] at hr
  obtain ⟨rfl, rfl⟩ := hr
  refine Out.pure (v' := a.eval x) ?_ (eval_opd R hx) H
  rcases ho with ho | ho <;> simp [execOp, ho]
theorem ok_pick {c x y : Operand} {c' x' y' : Opd} (R : RelT N μ s a) (H : HRel μ s.h w) (ho : o.op = .pick c x y) (hc : opd c = some c') (hx : opd x = some x') (hy : opd y = some y') (hr : (MI.pick c' x' y').run s = some (v, h')) : Out P μ s.h w o a v h' := by
  simp only [MI.run] at hr
  split at hr
  · rename_i b hb
    simp only [Option.some.injEq, Prod.mk.injEq] at hr
    obtain ⟨rfl, rfl⟩ := hr
    have hcv := eval_opd R hc
    rw [hb] at hcv
    refine Out.pure (v' := if b = true then a.eval x else a.eval y) ?_ ?_ H
    · simp [execOp, ho, hcv.bool, asBool]
    · cases b
      · exact eval_opd R hy
      · exact eval_opd R hx
  · cases hr
theorem ok_conv {x : Operand} {y : Opd} {t t' : TypeId} {k k0 : IntKind} (R : RelT N μ s a) (H : HRel μ s.h w) (ho : o.op = .convert t t' x) (ht : P.underlying t = some (.int k0)) (ht' : P.underlying t' = some (.int k)) (hx : opd x = some y) (hr : (MI.conv k y).run s = some (v, h')) : Out P μ s.h w o a v h' := by
  simp only [MI.run] at hr
  split at hr
  · rename_i k1 n hb
    simp only [Option.some.injEq, Prod.mk.injEq] at hr
    obtain ⟨rfl, rfl⟩ := hr
    have hcv := eval_opd R hx
    rw [hb] at hcv
    refine Out.pure (v' := .int k (k.wrap n)) ?_ VR.mk_int H
    simp [execOp, ho, hcv.int, convert, run_underlying ht, run_underlying ht', Conv.intToInt]
  · cases hr
theorem ok_convS {x : Operand} {y : Opd} {t t' : TypeId} (R : RelT N μ s a) (H : HRel μ s.h w) (ho : o.op = .convert t t' x) (ht : P.underlying t = some .string) (ht' : P.underlying t' = some .string) (hx : opd x = some y) (hs : ∃ b, s.val y = .string b) (hr : (MI.mov y).run s = some (v, h')) : Out P μ s.h w o a v h' := by
  simp only [MI.run, Option.some.injEq, Prod.mk.injEq] at hr
  obtain ⟨rfl, rfl⟩ := hr
  obtain ⟨b, hb⟩ := hs
  have hcv := eval_opd R hx
  rw [hb] at hcv ⊢
  refine Out.pure (v' := .string b) ?_ VR.mk_string H
  simp [execOp, ho, hcv.string, convert, run_underlying ht, run_underlying ht']
theorem ok_un {x : Operand} {y : Opd} {op : UnOp} {t : TypeId} (R : RelT N μ s a) (H : HRel μ s.h w) (ho : o.op = .unOp op t x) (hx : opd x = some y) (hr : (MI.un op y).run s = some (v, h')) : Out P μ s.h w o a v h' := by
  simp only [MI.run, Option.map_eq_some_iff, Prod.mk.injEq] at hr
  obtain ⟨u, hu, rfl, rfl⟩ := hr
  have hcv := eval_opd R hx
  unfold unV at hu
  split at hu
  · rename_i b hb
    cases hu
    rw [hb] at hcv
    exact Out.pure (v' := .bool !b) (by simp [execOp, ho, hcv.bool, Op.unary]) VR.mk_bool H
  · rename_i k n hb
    cases hu
    rw [hb] at hcv
    exact Out.pure (v' := .int k (k.wrap (0 - n))) (by simp [execOp, ho, hcv.int, Op.unary, Op.intArith]) VR.mk_int H
  · cases hu
theorem ok_ext {x : Operand} {y : Opd} {i : Nat} (R : RelT N μ s a) (H : HRel μ s.h w) (ho : o.op = .extract x i) (hx : opd x = some y) (hr : (MI.ext i y).run s = some (v, h')) : Out P μ s.h w o a v h' := by
  simp only [MI.run] at hr
  split at hr
  · rename_i xs hb
    simp only [Option.map_eq_some_iff, Prod.mk.injEq] at hr
    obtain ⟨u, hu, rfl, rfl⟩ := hr
    have hcv := eval_opd R hx
    rw [hb] at hcv
    rcases hcv.tup' with rfl | ⟨ys, hy, k⟩
    · simp at hu
    · obtain ⟨z, hz, kz⟩ := k.get (by simpa using hu)
      refine Out.pure (v' := z) ?_ (.val _ _ kz) H
      simp [execOp, ho, hy, Instr.extract, hz]
  · cases hr
theorem ldC_some {h : Heap} {p : Value} {n : Nat} {cs : List Value} (hr : ldC h p n = some cs) : ∃ b off blk, p = .pointer (some ⟨b, off, some blk.cells.length⟩) ∧ h[b]? = some blk ∧ off + n ≤ blk.cells.length ∧ cs = (blk.cells.drop off).take n := by
  unfold ldC at hr
  split at hr
  · rename_i b off L
    split at hr
    · rename_i blk hb
      split at hr
      · rename_i hc
        obtain ⟨rfl, hc⟩ := hc
        cases hr
        exact ⟨b, off, blk, rfl, hb, hc, rfl⟩
      · cases hr
    · cases hr
  · cases hr
theorem ok_chk {x : Operand} {y : Opd} (R : RelT N μ s a) (H : HRel μ s.h w) (ho : o.op = .nilCheck x) (hx : opd x = some y) (hr : (MI.chk y).run s = some (v, h')) : Out P μ s.h w o a v h' := by
  simp only [MI.run, Option.map_eq_some_iff, Prod.mk.injEq] at hr
  obtain ⟨u, hu, rfl, rfl⟩ := hr
  obtain ⟨b, off, blk, hp, hb, _, _⟩ := ldC_some hu
  have hcv := eval_opd R hx
  have hcv' := hcv
  rw [hp] at hcv'
  have e := hcv'.ptr' hb rfl
  refine Out.pure (v' := a.eval x) ?_ hcv H
  simp [execOp, ho, e]
theorem ok_mm {x y : Operand} {x' y' : Opd} {ts : Array TypeId} {isMax : Bool} (R : RelT N μ s a) (H : HRel μ s.h w)
    (ho : o.op = .call { callee := .builtin (if isMax = true then .max else .min), args := #[x, y], argTypes := ts }) (hx : opd x = some x') (hy : opd y = some y') (hr : (MI.mm isMax x' y').run s = some (v, h')) : Out P μ s.h w o a v h' := by
  simp only [MI.run] at hr
  split at hr
  · rename_i k p k' q hb hq
    simp only [Option.some.injEq, Prod.mk.injEq] at hr
    obtain ⟨rfl, rfl⟩ := hr
    have h1 := eval_opd R hx
    have h2 := eval_opd R hy
    rw [hb] at h1
    rw [hq] at h2
    cases isMax with
    | true =>
      refine Out.pure (v' := .int k (if q > p then q else p)) ?_ VR.mk_int H
      simp only [if_true] at ho
      simp [execOp, ho, resolve, invoke, builtin, h1.int, h2.int, Builtin.max_, Builtin.max2]
    | false =>
      refine Out.pure (v' := .int k (if q < p then q else p)) ?_ VR.mk_int H
      simp only [Bool.false_eq_true, if_false] at ho
      simp [execOp, ho, resolve, invoke, builtin, h1.int, h2.int, Builtin.min_, Builtin.min2]
  · cases hr
theorem ok_lenS {x : Operand} {y : Opd} {t : TypeId} (R : RelT N μ s a) (H : HRel μ s.h w) (ho : o.op = .call { callee := .builtin .len, args := #[x], argTypes := #[t] }) (hx : opd x = some y)
    (ht : P.underlying t = some .string) (hr : (MI.lnS y).run s = some (v, h')) : Out P μ s.h w o a v h' := by
  simp only [MI.run] at hr
  have hcv := eval_opd R hx
  split at hr
  · rename_i b hb
    simp only [Option.some.injEq, Prod.mk.injEq] at hr
    obtain ⟨rfl, rfl⟩ := hr
    rw [hb] at hcv
    refine Out.pure (v' := .int .i64 b.size) ?_ VR.mk_int H
    simp [execOp, ho, resolve, invoke, builtin, hcv.string, Builtin.len_, run_underlying ht, goInt]
  · cases hr
theorem ok_len {x : Operand} {y : Opd} {t e : TypeId} (R : RelT N μ s a) (H : HRel μ s.h w) (ho : o.op = .call { callee := .builtin .len, args := #[x], argTypes := #[t] }) (hx : opd x = some y)
    (ht : P.underlying t = some (.slice e)) (hr : (MI.ln y).run s = some (v, h')) : Out P μ s.h w o a v h' := by
  simp only [MI.run, Option.map_eq_some_iff, Prod.mk.injEq] at hr
  obtain ⟨u, hu, rfl, rfl⟩ := hr
  have hcv := eval_opd R hx
  unfold lnV at hu
  split at hu
  · rename_i hb
    cases hu
    rw [hb] at hcv
    refine Out.pure (v' := .int .i64 0) ?_ VR.mk_int H
    rcases hcv.sliceNil with hv | ⟨A, hv⟩ <;> simp [execOp, ho, resolve, invoke, builtin, hv, Builtin.len_, run_underlying ht, goInt]
  · rename_i b off n cap hb
    split at hu
    · rename_i blk hblk
      split at hu
      · rename_i hval
        cases hu
        rw [hb] at hcv
        obtain ⟨A, c, hA, _⟩ := (hcv.slice' hblk).2.2 hval
        refine Out.pure (v' := .int .i64 n) ?_ VR.mk_int H
        simp [execOp, ho, resolve, invoke, builtin, hA, Builtin.len_, run_underlying ht, goInt]
      · cases hu
    · cases hu
  · cases hu
theorem ok_bin {x y : Operand} {x' y' : Opd} {op : BinOp} {t t' : TypeId} (R : RelT N μ s a) (H : HRel μ s.h w) (ho : o.op = .binOp op t x y t') (hx : opd x = some x') (hy : opd y = some y') (hr : (MI.bin op x' y').run s = some (v, h')) : Out P μ s.h w o a v h' := by
  simp only [MI.run, Option.map_eq_some_iff, Prod.mk.injEq] at hr
  obtain ⟨u, hu, rfl, rfl⟩ := hr
  have h1 := eval_opd R hx
  have h2 := eval_opd R hy
  unfold binV at hu
  split at hu
  · rename_i k p k' q hb hq
    rw [hb] at h1
    rw [hq] at h2
    have g1 := h1.int
    have g2 := h2.int
    cases op <;> simp only [Option.ite_none_left_eq_some, Option.ite_none_right_eq_some, Option.some.injEq, reduceCtorEq] at hu
    all_goals first
      | (obtain ⟨hc, rfl⟩ := hu; exact Out.pure (by simp [execOp, ho, g1, g2, eqGuard, binOp, hc, Op.shift, Op.intArith, Op.intDiv, Op.intBits, Op.intCmp]; try rfl) (VR.of_prim rfl) H)
      | skip
  · rename_i p q hb hq
    rw [hb] at h1
    rw [hq] at h2
    have g1 := h1.string
    have g2 := h2.string
    cases op <;> simp only [Option.ite_none_left_eq_some, Option.ite_none_right_eq_some, Option.some.injEq, reduceCtorEq] at hu
    all_goals first
      | (subst hu; exact Out.pure (by simp [execOp, ho, g1, g2, eqGuard, binOp, Op.stringOp]; try rfl) (VR.of_prim rfl) H)
      | skip
    obtain ⟨hc, rfl⟩ := hu
    refine Out.pure (v' := .string (p ++ q)) ?_ (VR.of_prim rfl) H
    have hle : ¬ ((p.size + q.size : Nat) : Int) > IntKind.i64.max := by simp [IntKind.max, IntKind.signed, IntKind.bits]; omega
    simp only [execOp, ho, g1, g2, binOp, Op.stringOp, if_neg hle]
    simp [eqGuard]
  · cases hu
theorem ok_binB {x y : Operand} {x' y' : Opd} {op : BinOp} {t t' : TypeId} (R : RelT N μ s a) (H : HRel μ s.h w) (ho : o.op = .binOp op t x y t') (ht : P.underlying t = some .bool) (hx : opd x = some x') (hy : opd y = some y') (hr : (MI.binB op x' y').run s = some (v, h')) : Out P μ s.h w o a v h' := by
  simp only [MI.run, Option.map_eq_some_iff, Prod.mk.injEq] at hr
  obtain ⟨u, hu, rfl, rfl⟩ := hr
  have h1 := eval_opd R hx
  have h2 := eval_opd R hy
  unfold binBV at hu
  split at hu
  · rename_i p q hb hq
    rw [hb] at h1
    rw [hq] at h2
    have g1 := h1.bool
    have g2 := h2.bool
    cases op <;> simp only [Option.some.injEq, reduceCtorEq] at hu
    all_goals (subst hu; exact Out.pure (by simp [execOp, ho, g1, g2, eqGuard, run_eql_bool, run_neq_bool, ht]) (VR.of_prim rfl) H)
  · cases hu
/-! Reads of memory. -/
theorem All2.of_cells {b : Nat} {blk : Blk} (H : HRel μ s.h w) (hb : s.h[b]? = some blk) {off n : Nat} (hn : off + n ≤ blk.cells.length) :
    ∃ ys : List Value, All2 (VR1 μ s.h) ((blk.cells.drop off).take n) ys ∧ ∀ j v', ys[j]? = some v' → w.cell? ((⟨(μ b).g, (μ b).o + off, none⟩ : Addr).add j) = some v' := by
  have each : ∀ j, j < n → ∃ v', w.cell? ⟨(μ b).g, (μ b).o + (off + j), none⟩ = some v' ∧ ∀ x, blk.cells[off + j]? = some x → VR1 μ s.h x v' := by
    intro j hj
    obtain ⟨v', h1, h2⟩ := H.cell b blk hb (off + j) _ (List.getElem?_eq_getElem (by omega))
    exact ⟨v', h1, fun x hx => by rw [List.getElem?_eq_getElem (by omega)] at hx; cases hx; exact h2⟩
  refine ⟨(List.range n).map fun j => if hj : j < n then Classical.choose (each j hj) else undef, ⟨by simp; omega, fun i x y hx hy => ?_⟩, fun j v' hv => ?_⟩
  · rw [List.getElem?_take, List.getElem?_drop] at hx
    split at hx
    · rename_i hi
      simp only [List.getElem?_map, List.getElem?_range hi, Option.map_some, dif_pos hi, Option.some.injEq] at hy
      subst hy
      exact (Classical.choose_spec (each i hi)).2 x hx
    · cases hx
  · have hj : j < n := by
      have := (List.getElem?_eq_some_iff.1 hv).1
      simpa using this
    simp only [List.getElem?_map, List.getElem?_range hj, Option.map_some, dif_pos hj, Option.some.injEq] at hv
    subst hv
    have := (Classical.choose_spec (each j hj)).1
    rw [Addr.add_lit, Nat.add_assoc]
    exact this
/-- What a type's row is in the machine. -/
theorem rowOf_spec {t : TypeId} {n : Nat} {agg : Bool} (h : rowOf P t = some (n, agg)) : ∃ d i, P.underlying t = some d ∧ P.info? t = some i ∧ i.size = n ∧
    ((agg = true ∧ ∃ fs, d = .struct fs) ∨ (agg = false ∧ n = 1 ∧ (∀ fs, d ≠ .struct fs) ∧ ∀ k e, d ≠ .array k e)) := by
  unfold rowOf at h
  split at h
  · rename_i d hd
    split at h
    · rename_i i ha hi
      cases h
      refine ⟨d, i, hd, hi, rfl, .inl ⟨rfl, ?_⟩⟩
      cases d <;> simp [descAgg] at ha
      exact ⟨_, rfl⟩
    · rename_i i ha hi
      split at h
      · rename_i h1
        cases h
        refine ⟨d, i, hd, hi, h1, .inr ⟨rfl, rfl, ?_, ?_⟩⟩
        · rintro fs rfl; simp [descAgg] at ha
        · rintro k e rfl; simp [descAgg] at ha
      · cases h
    · cases h
  · cases h
theorem run_isAgg {t : TypeId} {n : Nat} {agg : Bool} (h : rowOf P t = some (n, agg)) (w : World) : (isAgg t).run P w = .ok agg w := by
  obtain ⟨d, i, hd, hi, hn, h | ⟨rfl, _, h1, h2⟩⟩ := rowOf_spec h
  · obtain ⟨rfl, fs, rfl⟩ := h
    simp [isAgg, run_underlying hd]
  · simp only [isAgg, Sem.run_bind, run_underlying hd, Result.andThen_ok]
    rfl
theorem run_sizeOf {t : TypeId} {i : TypeInfo} (h : P.info? t = some i) (w : World) : (sizeOf t).run P w = .ok i.size w := by simp [sizeOf, typeInfo, h]
/-- A load, from cells that are there. -/
theorem run_loadVar {t : TypeId} {n : Nat} {agg : Bool} (h : rowOf P t = some (n, agg)) (A : Addr) {xs ys : List Value} {u : Value} (hl : xs.length = n) (k : All2 (VR1 μ s.h) xs ys) (hc : ∀ j v', ys[j]? = some v' → w.cell? (A.add j) = some v') (hu : ofCells agg xs = some u) :
    ∃ u', (loadVar t A).run P w = .ok u' w ∧ VR μ s.h u u' := by
  obtain ⟨d, i, hd, hi, hn, _⟩ := rowOf_spec h
  rcases VR.ofCells k hu with ⟨rfl, hv⟩ | ⟨rfl, y, rfl, hv⟩
  · refine ⟨_, ?_, hv⟩
    have hy : ys.length = i.size := by rw [← k.1, hl, hn]
    have := run_loadCells_list (P := P) w A ys hc
    rw [hy] at this
    simp only [loadVar, Sem.run_bind, run_isAgg h, Result.andThen_ok, if_true, run_sizeOf hi, this, Sem.run_pure]
  · refine ⟨y, ?_, hv⟩
    have hA : w.cell? A = some y := by
      have := hc 0 y rfl
      simpa [Addr.add] using this
    simp only [loadVar, Sem.run_bind, run_isAgg h, Result.andThen_ok, Bool.false_eq_true, if_false]
    simp [load, Sem.run, hA]
theorem ok_ld {x : Operand} {y : Opd} {t : TypeId} {n : Nat} {agg : Bool} (R : RelT N μ s a) (H : HRel μ s.h w) (ho : o.op = .load t x) (hx : opd x = some y) (ht : rowOf P t = some (n, agg)) (hr : (MI.ld n agg y).run s = some (v, h')) : Out P μ s.h w o a v h' := by
  simp only [MI.run, Option.map_eq_some_iff, Option.bind_eq_some_iff, Prod.mk.injEq] at hr
  obtain ⟨u, ⟨cs, hcs, hu⟩, rfl, rfl⟩ := hr
  obtain ⟨b, off, blk, hp, hb, hn, rfl⟩ := ldC_some hcs
  have hcv := eval_opd R hx
  rw [hp] at hcv
  have e := hcv.ptr' hb rfl
  obtain ⟨ys, k, hc⟩ := All2.of_cells H hb hn
  obtain ⟨u', h1, h2⟩ := run_loadVar (P := P) (w := w) ht _ (by simp; omega) k hc hu
  refine Out.pure (v' := u') ?_ h2 H
  simp [execOp, ho, Instr.loadAt, Instr.sureAddr, e, h1]
theorem fieldOf_spec {t : TypeId} {f off n : Nat} {agg : Bool} (h : fieldOf P t f = some (off, n, agg)) : ∃ fs fd i, P.underlying t = some (.struct fs) ∧ fs[f]? = some fd ∧ fd.offset = off ∧ rowOf P fd.type = some (n, agg) ∧ P.info? fd.type = some i ∧ i.size = n ∧ n ≠ 0 := by
  unfold fieldOf at h
  split at h
  · rename_i fs hfs
    split at h
    · rename_i fd hfd
      split at h
      · rename_i n' agg' i hro hi
        split at h
        · cases h
        · rename_i hc
          cases h
          refine ⟨fs, fd, i, hfs, hfd, rfl, hro, hi, ?_, ?_⟩
          · exact Classical.byContradiction fun e => hc (.inr e)
          · exact fun e => hc (.inl e)
      · cases h
    · cases h
  · cases h
theorem ok_fa {x : Operand} {y : Opd} {t : TypeId} {f off n : Nat} {agg : Bool} (R : RelT N μ s a) (H : HRel μ s.h w) (ho : o.op = .fieldAddr t x f) (hx : opd x = some y) (ht : fieldOf P t f = some (off, n, agg)) (hr : (MI.fa off y).run s = some (v, h')) : Out P μ s.h w o a v h' := by
  simp only [MI.run, Option.map_eq_some_iff, Prod.mk.injEq] at hr
  obtain ⟨u, hu, rfl, rfl⟩ := hr
  have hcv := eval_opd R hx
  obtain ⟨fs, fd, i, h1, h2, h3, h4, h5, h6, h7⟩ := fieldOf_spec ht
  unfold faV at hu
  split at hu
  · rename_i b o' L hb
    split at hu
    · rename_i blk hblk
      split at hu
      · rename_i hL
        cases hu
        rw [hb] at hcv
        have e := hcv.ptr' hblk hL
        refine Out.pure (v' := .pointer (some ⟨(μ b).g, (μ b).o + (o' + off), none⟩)) ?_ (.val _ _ (.one _ _ (.base _ _ (.ptr b (o' + off) L _ blk hblk (Nat.le_of_eq hL) (fun _ => rfl) rfl)))) H
        have h8 : ¬ i.size = 0 := by omega
        simp [execOp, ho, Instr.fieldAt, run_underlying h1, h2, Instr.sureAddr, e, fieldPlace, run_sizeOf h5, h8, h3, Addr.add_lit, Nat.add_assoc]
      · cases hu
    · cases hu
  · cases hu
theorem elemOf_spec {t e : TypeId} {sz bytes : Nat} {z : List Value} (h : elemOf P t = some (e, sz, bytes, z)) : ∃ i, P.underlying t = some (.slice e) ∧ P.info? e = some i ∧ i.size = sz ∧ i.bytes = bytes ∧ 0 < sz ∧ 0 < bytes ∧ bytes ≤ 96 ∧ zeroOf P e = some z := by
  unfold elemOf at h
  split at h
  · rename_i e' he
    split at h
    · rename_i i z' hi hz
      split at h
      · rename_i hc
        cases h
        exact ⟨i, he, hi, rfl, rfl, hc.1, hc.2.2, hc.2.1, hz⟩
      · cases h
    · cases h
  · cases h
theorem ok_ia {x i : Operand} {x' i' : Opd} {t e : TypeId} {sz bytes : Nat} {z : List Value} (R : RelT N μ s a) (H : HRel μ s.h w) (ho : o.op = .indexAddr t x i) (hx : opd x = some x') (hi : opd i = some i') (ht : elemOf P t = some (e, sz, bytes, z)) (hr : (MI.ia sz x' i').run s = some (v, h')) : Out P μ s.h w o a v h' := by
  simp only [MI.run, Option.map_eq_some_iff, Prod.mk.injEq] at hr
  obtain ⟨u, hu, rfl, rfl⟩ := hr
  have h1 := eval_opd R hx
  have h2 := eval_opd R hi
  obtain ⟨inf, e1, e2, e3, _⟩ := elemOf_spec ht
  unfold iaV at hu
  split at hu
  · rename_i b off len cap k j hb hj
    split at hu
    · rename_i blk hblk
      split at hu
      · rename_i hc
        obtain ⟨c0, c1, c2, c3⟩ := hc
        cases hu
        rw [hb] at h1
        rw [hj] at h2
        subst c2
        obtain ⟨A, c, hA, hlc, _, hA2, _⟩ := (h1.slice' hblk).2.2 c3
        have hlen : ¬ len = 0 := by omega
        obtain rfl : A = ⟨(μ b).g, (μ b).o + off, none⟩ := by
          rcases hA2 with ⟨h, _⟩ | h
          · exact absurd h hlen
          · exact h
        refine Out.pure (v' := .pointer (some ⟨(μ b).g, (μ b).o + (off + j.toNat * blk.sz), none⟩)) ?_ (.val _ _ (.one _ _ (.base _ _ (.ptr b (off + j.toNat * blk.sz) blk.cells.length _ blk hblk (Nat.le_refl _) (fun _ => rfl) rfl)))) H
        simp [execOp, ho, Instr.indexAt, asIntOf, h2.int, run_underlying e1, hA, c0, c1, run_sizeOf e2, e3, Addr.add_lit, Nat.add_assoc]
      · cases hu
    · cases hu
  · cases hu
theorem ok_ix {x i : Operand} {x' i' : Opd} {t : TypeId} (R : RelT N μ s a) (H : HRel μ s.h w) (ho : o.op = .index t x i) (hx : opd x = some x') (hi : opd i = some i') (ht : P.underlying t = some .string) (hr : (MI.ix x' i').run s = some (v, h')) : Out P μ s.h w o a v h' := by
  simp only [MI.run, Option.map_eq_some_iff, Prod.mk.injEq] at hr
  obtain ⟨u, hu, rfl, rfl⟩ := hr
  have h1 := eval_opd R hx
  have h2 := eval_opd R hi
  unfold ixV at hu
  split at hu
  · rename_i b k j hb hj
    split at hu
    · rename_i hc
      cases hu
      rw [hb] at h1
      rw [hj] at h2
      refine Out.pure (v' := .int .u8 (b.data.toList.getD j.toNat 0).toNat) ?_ VR.mk_int H
      have hlt : j.toNat < b.size := by omega
      have hg : b.data.toList.getD j.toNat 0 = b[j.toNat] := by
        rw [List.getD_eq_getElem?_getD, List.getElem?_eq_getElem (by simpa using hlt), Option.getD_some]
        rfl
      rw [hg]
      simp [execOp, ho, Instr.index, asIntOf, h1.string, h2.int, run_underlying ht, hc.1, hlt]
    · cases hu
  · cases hu
theorem ok_fl {x : Operand} {y : Opd} {t : TypeId} {f off n : Nat} {agg : Bool} (R : RelT N μ s a) (H : HRel μ s.h w) (ho : o.op = .field t x f) (hx : opd x = some y) (ht : fieldOf P t f = some (off, n, agg)) (hr : (MI.fl off n agg y).run s = some (v, h')) : Out P μ s.h w o a v h' := by
  simp only [MI.run] at hr
  split at hr
  · rename_i xs hxs
    split at hr
    · rename_i hle
      simp only [Option.map_eq_some_iff, Prod.mk.injEq] at hr
      obtain ⟨u, hu, rfl, rfl⟩ := hr
      have hcv := eval_opd R hx
      rw [hxs] at hcv
      obtain ⟨ys, hy, k⟩ := hcv.agg'
      obtain ⟨fs, fd, i, h1, h2, h3, h4, h5, h6, h7⟩ := fieldOf_spec ht
      have k' := (k.drop off).take n
      rcases VR.ofCells k' hu with ⟨rfl, hv⟩ | ⟨rfl, z, hz, hv⟩
      · refine Out.pure (v' := .agg ⟨(ys.drop off).take n⟩) ?_ hv H
        have : (⟨ys⟩ : Array Value).extract off (off + n) = ⟨(ys.drop off).take n⟩ := by
          apply Array.ext'
          simp [List.take_drop]
        simp [execOp, ho, Instr.field, run_underlying h1, h2, hy, asAgg, part, run_isAgg h4, run_sizeOf h5, h6, h3, this]
      · refine Out.pure (v' := z) ?_ hv H
        obtain ⟨rfl⟩ : n = 1 := by
          obtain ⟨_, _, _, _, _, h | h⟩ := rowOf_spec h4
          · cases h.1
          · exact h.2.1
        have hz' : ys[off]? = some z := by
          have : ((ys.drop off).take 1)[0]? = some z := by rw [hz]; rfl
          rw [List.getElem?_take, if_pos (by omega), List.getElem?_drop, Nat.add_zero] at this
          exact this
        simp [execOp, ho, Instr.field, run_underlying h1, h2, hy, asAgg, part, run_isAgg h4, h3, hz']
    · cases hr
  · cases hr
end
end Go.Proofs.YthfeahanmbmjhaaGreatDoor.Ab
/- What the machine does at an operation is what the small language says: cuts, texts, structs compared and built. No conditions. -/
namespace Go.Proofs.YthfeahanmbmjhaaGreatDoor.Ab
open Go.RowKit
section
variable {P : Program} {N : Nat} {D E : List Nat} {μ : Map} {s : St} {a : Act} {w : World} {o : Oper} {v : Value} {h' : Heap}
theorem oopd_some {x : Option Operand} {y : Option Opd} (h : oopd x = some y) : (x = none ∧ y = none) ∨ ∃ x' y', x = some x' ∧ y = some y' ∧ opd x' = some y' := by
  cases x with
  | none => simp [oopd] at h; exact .inl ⟨rfl, h.symm⟩
  | some x' => simp only [oopd, Option.map_eq_some_iff] at h; obtain ⟨y', h1, h2⟩ := h; exact .inr ⟨x', y', rfl, h2.symm, h1⟩
/-- A bound of a cut. -/
theorem bnd_some {x : Option Operand} {y : Option Opd} {d l : Int} (R : RelT N μ s a) (h : oopd x = some y) (hb : bnd d (y.map s.val) = some l) :
    (x = none ∧ l = d) ∨ ∃ x' k, x = some x' ∧ a.eval x' = .int k l := by
  rcases oopd_some h with ⟨rfl, rfl⟩ | ⟨x', y', rfl, rfl, h'⟩
  · simp [bnd] at hb; exact .inl ⟨rfl, hb.symm⟩
  · have hv := eval_opd R h'
    simp only [Option.map_some] at hb
    unfold bnd at hb
    split at hb
    · rename_i e; cases e
    · rename_i k i e
      cases hb
      injection e with e
      rw [e] at hv
      exact .inr ⟨x', k, rfl, hv.int⟩
    · cases hb
theorem run_bounds {isSlice : Bool} {len cap : Nat} {lo hi : Option Operand} {l r : Int} (hlo : (lo = none ∧ l = 0) ∨ ∃ x k, lo = some x ∧ a.eval x = .int k l) (hhi : (hi = none ∧ r = len) ∨ ∃ x k, hi = some x ∧ a.eval x = .int k r)
    (h0 : 0 ≤ l) (h1 : l ≤ r) (h2 : r ≤ (cap : Int)) (w : World) : (Instr.sliceBounds isSlice len cap (lo.map a.eval) (hi.map a.eval) none).run P w = .ok (l.toNat, r.toNat, cap) w := by
  have h3 : max r 0 = r := by omega
  have h4 : (0 : Int) ≤ l ∧ l ≤ r := ⟨h0, h1⟩
  have h5 : (0 : Int) ≤ r ∧ r ≤ (cap : Int) := ⟨by omega, h2⟩
  rcases hhi with ⟨rfl, rfl⟩ | ⟨x, k, rfl, hx⟩
  · rcases hlo with ⟨rfl, rfl⟩ | ⟨y, k', rfl, hy⟩
    · simp [Instr.sliceBounds]
    · simp [Instr.sliceBounds, Instr.sliceBound, asIntOf, hy, h4]
  · rcases hlo with ⟨rfl, rfl⟩ | ⟨y, k', rfl, hy⟩
    · simp [Instr.sliceBounds, Instr.sliceBound, asIntOf, hx, h5]
    · simp [Instr.sliceBounds, Instr.sliceBound, asIntOf, hx, hy, h5, h4, h3]
theorem ok_slS {x : Operand} {y : Opd} {lo hi : Option Operand} {lo' hi' : Option Opd} {t : TypeId} (R : RelT N μ s a) (H : HRel μ s.h w) (ho : o.op = .slice t x lo hi none) (hx : opd x = some y) (hlo : oopd lo = some lo') (hhi : oopd hi = some hi')
    (ht : P.underlying t = some .string) (hr : (MI.slS y lo' hi').run s = some (v, h')) : Out P μ s.h w o a v h' := by
  simp only [MI.run, Option.map_eq_some_iff, Prod.mk.injEq] at hr
  obtain ⟨u, hu, rfl, rfl⟩ := hr
  have hcv := eval_opd R hx
  unfold slSV at hu
  split at hu
  · rename_i b hb
    split at hu
    · rename_i l r hl hr
      split at hu
      · rename_i hc
        cases hu
        rw [hb] at hcv
        refine Out.pure (v' := .string (b.extract l.toNat r.toNat)) ?_ VR.mk_string H
        have := run_bounds (P := P) (isSlice := false) (len := b.size) (cap := b.size) (bnd_some R hlo hl) (bnd_some R hhi hr) hc.1 hc.2.1 hc.2.2 w
        simp [execOp, ho, Instr.sliceAt, Instr.slice, run_underlying ht, hcv.string, this]
      · cases hu
    · cases hu
  · cases hu
theorem ok_slL {x : Operand} {y : Opd} {lo hi : Option Operand} {lo' hi' : Option Opd} {t e : TypeId} {sz bytes : Nat} {z : List Value} (R : RelT N μ s a) (H : HRel μ s.h w) (ho : o.op = .slice t x lo hi none) (hx : opd x = some y) (hlo : oopd lo = some lo') (hhi : oopd hi = some hi')
    (ht : elemOf P t = some (e, sz, bytes, z)) (hr : (MI.slL sz y lo' hi').run s = some (v, h')) : Out P μ s.h w o a v h' := by
  simp only [MI.run, Option.map_eq_some_iff, Prod.mk.injEq] at hr
  obtain ⟨u, hu, rfl, rfl⟩ := hr
  have hcv := eval_opd R hx
  obtain ⟨inf, e1, e2, e3, _, hpos, _⟩ := elemOf_spec ht
  unfold slLV at hu
  split at hu
  · rename_i hb
    split at hu
    · rename_i hl hr
      cases hu
      rw [hb] at hcv ⊢
      have := run_bounds (P := P) (isSlice := true) (len := 0) (cap := 0) (bnd_some R hlo hl) (bnd_some R hhi hr) (Int.le_refl _) (Int.le_refl _) (Int.le_refl _) w
      rcases hcv.sliceNil with hv | ⟨A, hv⟩
      · refine Out.pure (v' := .slice none 0 0) ?_ (VR.of_prim rfl) H
        simp [execOp, ho, Instr.sliceAt, Instr.slice, run_underlying e1, hv, this, run_sizeOf e2]
      · refine Out.pure (v' := .slice (some A) 0 0) ?_ (VR.of_hollow A) H
        simp [execOp, ho, Instr.sliceAt, Instr.slice, run_underlying e1, hv, this, run_sizeOf e2]
    · cases hu
  · rename_i b off len cap hb
    split at hu
    · rename_i blk hblk
      split at hu
      · rename_i l r hl hr
        split at hu
        · rename_i hc
          obtain ⟨c0, c1, c2, c3, c4⟩ := hc
          cases hu
          subst c3
          rw [hb] at hcv
          obtain ⟨hlc, hcc, hsl⟩ := hcv.slice' hblk
          obtain ⟨A, c, hA, g1, g2, g3, g4⟩ := hsl c4
          have hrun := run_bounds (P := P) (isSlice := true) (len := len) (cap := c) (bnd_some R hlo hl) (bnd_some R hhi hr) c0 c1 (by omega) w
          have hmul : (cap - l.toNat) * blk.sz + l.toNat * blk.sz = cap * blk.sz := by rw [← Nat.add_mul]; congr 1; omega
          refine Out.pure (v' := .slice (some (if c = l.toNat then A else A.add (l.toNat * blk.sz))) (r.toNat - l.toNat) (c - l.toNat)) ?_
            (.val _ _ (.one _ _ (.base _ _ (.sl b (off + l.toNat * blk.sz) (r - l).toNat (cap - l.toNat) _ blk hblk (by omega) (by omega) (fun _ => ?_) rfl)))) H
          · simp [execOp, ho, Instr.sliceAt, Instr.slice, run_underlying e1, hA, hrun, run_sizeOf e2, e3]
            split <;> rfl
          · have hrl : (r - l).toNat = r.toNat - l.toNat := by omega
            refine ⟨_, _, by rw [hrl], by omega, by omega, ?_, fun ho' hz => ?_⟩
            · rcases g3 with ⟨z1, z2⟩ | rfl
              · exact .inl ⟨by omega, by omega⟩
              · by_cases hcl : c = l.toNat
                · by_cases hl0 : l.toNat = 0
                  · rw [if_pos hcl, hl0, Nat.zero_mul, Nat.add_zero]; exact .inr rfl
                  · refine .inl ⟨by omega, ?_⟩
                    have : 0 < l.toNat * blk.sz := Nat.mul_pos (by omega) hpos
                    omega
                · rw [if_neg hcl, Addr.add_lit, Nat.add_assoc]; exact .inr rfl
            · have h0 : l.toNat * blk.sz = 0 := by omega
              have hl0 : l.toNat = 0 := by
                rcases Nat.mul_eq_zero.1 h0 with h | h
                · exact h
                · omega
              rw [hl0, Nat.sub_zero]
              exact g4 ho' (by omega)
        · cases hu
      · cases hu
    · cases hu
  · cases hu
theorem ints8_map : ∀ {cs : List Value} {ns : List Int}, ints8 cs = some ns → cs = ns.map (Value.int .u8)
  | [], ns, h => by simp [ints8] at h; subst h; rfl
  | c :: cs, ns, h => by
    simp only [ints8] at h
    split at h
    · rename_i n ns' h1 h2
      cases h
      rw [List.map_cons, ints8_map h2]
      congr 1
      unfold isInt8 at h1
      split at h1
      · cases h1; rfl
      · cases h1
    · cases h
theorem ok_str {x : Operand} {y : Opd} {t t' e : TypeId} (R : RelT N μ s a) (H : HRel μ s.h w) (ho : o.op = .convert t t' x) (ht : P.underlying t = some (.slice e)) (he : P.underlying e = some (.int .u8)) (ht' : P.underlying t' = some .string) (hx : opd x = some y) (hr : (MI.str y).run s = some (v, h')) : Out P μ s.h w o a v h' := by
  simp only [MI.run, Option.map_eq_some_iff, Prod.mk.injEq] at hr
  obtain ⟨u, hu, rfl, rfl⟩ := hr
  have hcv := eval_opd R hx
  unfold strV at hu
  split at hu
  · rename_i cs hcs
    simp only [Option.map_eq_some_iff] at hu
    obtain ⟨ns, hns, rfl⟩ := hu
    have hcells := ints8_map hns
    subst hcells
    unfold rowC at hcs
    split at hcs
    · rename_i hb
      cases hns' : ns with
      | cons n ns' => rw [hns'] at hcs; simp at hcs
      | nil =>
        rw [hb] at hcv
        refine Out.pure (v' := .string (strOfNums [])) ?_ VR.mk_string H
        rcases hcv.sliceNil with hv | ⟨A, hv⟩
        · have := run_convert_bytes_nil (P := P) w t e ht he 0 0 t' ht'
          simp [execOp, ho, hv, this]
          rfl
        · have h1 : (Conv.bytesToString (.slice (some A) 0 0)).run P w = .ok (.string ByteArray.empty) w := by simp [Conv.bytesToString, loadCells, loadCellsFrom]
          simp [execOp, ho, hv, run_convert_bytes_string w t t' e _ 0 0 ht he ht', h1]
          rfl
    · rename_i b off len cap hb
      split at hcs
      · rename_i blk hblk
        split at hcs
        · rename_i hc
          rw [hb] at hcv
          obtain ⟨hlc, hcc, hsl⟩ := hcv.slice' hblk
          rw [hc.1, Nat.mul_one] at hcc
          obtain ⟨A, c, hA, g1, g2, g3, g4⟩ := hsl (by rw [hc.1]; exact hc.2)
          have hcs' := Option.some.inj hcs
          rw [Nat.mul_one] at hcs'
          have hlen : ns.length = len := by
            have := congrArg List.length hcs'
            simp only [List.length_take, List.length_drop, List.length_map] at this
            omega
          refine Out.pure (v' := .string (strOfNums ns)) ?_ VR.mk_string H
          have hrun : (convert t t' (.slice (some A) len c)).run P w = .ok (.string (strOfNums ns)) w := by
            have hsp : A = ⟨A.block, A.off, none⟩ ∨ len = 0 := by
              rcases g3 with ⟨z, _⟩ | rfl
              · exact .inr z
              · exact .inl rfl
            rw [run_convert_bytes_string w t t' e _ len c ht he ht']
            have hl : (loadCells A len).run P w = .ok (ns.map (Value.int .u8)).toArray w := by
              have := run_loadCells_list (P := P) w A (ns.map (Value.int .u8)) (fun j v hj => by
                have hj' : j < len := by
                  have := (List.getElem?_eq_some_iff.1 hj).1
                  simpa [hlen] using this
                rcases g3 with ⟨z, _⟩ | rfl
                · omega
                · have hcell : blk.cells[off + j]? = some v := by
                    rw [← hcs', List.getElem?_take, if_pos hj', List.getElem?_drop] at hj
                    exact hj
                  obtain ⟨v', h1, h2⟩ := H.cell b blk hblk _ _ hcell
                  have hv : v' = v := by
                    simp only [List.getElem?_map, Option.map_eq_some_iff] at hj
                    obtain ⟨n, _, rfl⟩ := hj
                    exact (VR.val _ _ (.one _ _ h2)).int
                  rw [Addr.add_lit, Nat.add_assoc, h1, hv])
              simpa [hlen] using this
            rw [run_bytesToString w A len c ns hl, foldl_push_bytes]
            simp [strOfNums, ByteArray.empty, ByteArray.emptyWithCapacity]
            rfl
          simp [execOp, ho, hA, hrun]
        · cases hcs
      · cases hcs
    · cases hcs
  · cases hu
end
end Go.Proofs.YthfeahanmbmjhaaGreatDoor.Ab
/- What the machine does at an operation is what the small language says: structs compared, structs built, memory made. No conditions. -/
namespace Go.Proofs.YthfeahanmbmjhaaGreatDoor.Ab
open Go.RowKit
section
variable {P : Program} {N : Nat} {D E : List Nat} {μ : Map} {s : St} {a : Act} {w : World} {o : Oper} {v : Value} {h' : Heap}
/-- What a field's kind says of its type. -/
def KindOf (P : Program) (t : TypeId) (k : Nat) : Prop := match k with
  | 0 => ∃ k, P.underlying t = some (.int k)
  | 1 => P.underlying t = some .string
  | _ => P.underlying t = some .bool
theorem eqCell_run {x y x' y' : Value} {b : Bool} {d k : Nat} {t : TypeId} (ht : KindOf P t k) (hx : VR1 μ s.h x x') (hy : VR1 μ s.h y y') (h : eqCell k x y = some b) : (Op.equalIn (d + 1) t x' y').run P w = .ok b w := by
  have hx' := VR.val _ _ (.one _ _ hx)
  have hy' := VR.val _ _ (.one _ _ hy)
  unfold eqCell at h
  split at h
  · split at h
    · rename_i e
      cases h
      subst e
      obtain ⟨k2, ht⟩ := ht
      rw [hx'.int, hy'.int]
      exact run_equalIn_int w d t _ k2 _ _ ht
    · cases h
  · cases h
    rw [hx'.string, hy'.string]
    exact run_equalIn_string w d t _ _ ht
  · cases h
    rw [hx'.bool, hy'.bool]
    exact run_equalIn_bool w d t _ _ ht
  · cases h
theorem eqKinds_cons {i : Nat} {f : Field} {fs : List Field} {ks : List Nat} (h : eqKinds P i (f :: fs) = some ks) : ∃ k ks', ks = k :: ks' ∧ eqKinds P (i + 1) fs = some ks' ∧ f.name ≠ "_" ∧ f.offset = i ∧ KindOf P f.type k := by
  simp only [eqKinds] at h
  split at h
  · rename_i k ks' hk hks
    cases h
    split at hk
    · cases hk
    · rename_i hc
      have hc1 : f.name ≠ "_" := fun e => hc (.inl e)
      have hc2 : f.offset = i := Classical.byContradiction fun e => hc (.inr e)
      refine ⟨k, ks', rfl, hks, hc1, hc2, ?_⟩
      split at hk <;> first | (cases hk; rename_i hu; exact ⟨_, hu⟩) | (cases hk; rename_i hu; exact hu) | cases hk
  · cases h
theorem part_run {t : TypeId} {k : Nat} (ht : KindOf P t k) {xs : List Value} {i : Nat} {x : Value} (hx : xs[i]? = some x) (w : World) : (part t ⟨xs⟩ i).run P w = .ok x w := by
  have ha : (isAgg t).run P w = .ok false w := by
    unfold KindOf at ht
    split at ht
    · obtain ⟨k, ht⟩ := ht; simp [isAgg, run_underlying ht]
    · simp [isAgg, run_underlying ht]
    · simp [isAgg, run_underlying ht]
  simp [part, ha, hx]
theorem eqFields_run (d : Nat) {xs ys xs' ys' : List Value} (kx : All2 (VR1 μ s.h) xs xs') (ky : All2 (VR1 μ s.h) ys ys') : ∀ (fs : List Field) (i : Nat) (ks : List Nat) (b : Bool), eqKinds P i fs = some ks → eqCells ks (xs.drop i) (ys.drop i) = some b →
    (Op.eqFields (d + 1) ⟨xs'⟩ ⟨ys'⟩ fs).run P w = .ok b w
  | [], i, ks, b, hk, h => by
    simp [eqKinds] at hk
    subst hk
    simp [eqCells] at h
    subst h
    simp [Op.eqFields]
  | f :: fs, i, ks, b, hk, h => by
    obtain ⟨k, ks', rfl, hks, h1, h2, h3⟩ := eqKinds_cons hk
    cases hxd : xs.drop i with
    | nil => rw [hxd] at h; simp [eqCells] at h
    | cons x xr =>
      cases hyd : ys.drop i with
      | nil => rw [hxd, hyd] at h; simp [eqCells] at h
      | cons y yr =>
        rw [hxd, hyd] at h
        have hx : xs[i]? = some x := by have := congrArg (fun l => l[0]?) hxd; simpa using this
        have hy : ys[i]? = some y := by have := congrArg (fun l => l[0]?) hyd; simpa using this
        obtain ⟨x', hx', kx'⟩ := kx.get hx
        obtain ⟨y', hy', ky'⟩ := ky.get hy
        have hxr : xr = xs.drop (i + 1) := by have := congrArg List.tail hxd; simpa using this.symm
        have hyr : yr = ys.drop (i + 1) := by have := congrArg List.tail hyd; simpa using this.symm
        simp only [eqCells] at h
        have p1 := part_run (P := P) h3 hx' w
        have p2 := part_run (P := P) h3 hy' w
        split at h
        · rename_i e
          rw [hxr, hyr] at h
          have ih := eqFields_run d kx ky fs (i + 1) ks' b hks h
          have e1 := eqCell_run (w := w) (d := d) h3 kx' ky' e
          simp [Op.eqFields, h1, h2, p1, p2, e1, ih]
        · rename_i e
          cases h
          have e1 := eqCell_run (w := w) (d := d) h3 kx' ky' e
          simp [Op.eqFields, h1, h2, p1, p2, e1]
        · cases h
theorem ok_eqS {x y : Operand} {x' y' : Opd} {t t' : TypeId} {fs : Array Field} {ks : List Nat} {neg : Bool} (R : RelT N μ s a) (H : HRel μ s.h w) (ho : o.op = .binOp (if neg = true then .neq else .eql) t x y t') (hx : opd x = some x') (hy : opd y = some y')
    (ht : P.underlying t = some (.struct fs)) (hok : eqOk P t = true) (hk : eqKinds P 0 fs.toList = some ks) (hr : (MI.eqS ks neg x' y').run s = some (v, h')) : Out P μ s.h w o a v h' := by
  simp only [MI.run] at hr
  split at hr
  · rename_i xs ys hxs hys
    simp only [Option.map_eq_some_iff, Prod.mk.injEq] at hr
    obtain ⟨b, hb, rfl, rfl⟩ := hr
    have h1 := eval_opd R hx
    have h2 := eval_opd R hy
    rw [hxs] at h1
    rw [hys] at h2
    obtain ⟨xs', e1, k1⟩ := h1.agg'
    obtain ⟨ys', e2, k2⟩ := h2.agg'
    simp only [eqOk, Bool.and_eq_true, Bool.not_eq_true'] at hok
    have hf : P.fieldsOf t = fs := by simp [Program.fieldsOf, ht]
    have hrun := eqFields_run (w := w) 9998 k1 k2 fs.toList 0 ks b hk (by simpa using hb)
    have hq : (Op.equalIn 10000 t (.agg ⟨xs'⟩) (.agg ⟨ys'⟩)).run P w = .ok b w := by
      rw [run_equalIn_struct w 9999 t _ _ (by rw [hf]; exact ht) hok.1, hf]
      exact hrun
    refine Out.pure (v' := .bool (if neg = true then !b else b)) ?_ VR.mk_bool H
    cases neg with
    | true =>
      simp only [if_true] at ho
      simp only [execOp, ho, e1, e2, Sem.run_bind, run_eqGuard_agg w _ t _ _ _ _ hok.2, Result.andThen_ok, run_neq_struct, hq, Sem.run_pure, if_true]
    | false =>
      simp only [Bool.false_eq_true, if_false] at ho
      simp only [execOp, ho, e1, e2, Sem.run_bind, run_eqGuard_agg w _ t _ _ _ _ hok.2, Result.andThen_ok, run_eql_struct, hq, Sem.run_pure, Bool.false_eq_true, if_false]
  · cases hr
/-! Structs and slices built: 'fill'. -/
theorem foldl_put (off : Nat) : ∀ (vs : List Value) (i : Nat) (cells : List Value), off + i + vs.length ≤ cells.length →
    ((vs.zipIdx i).foldl (fun (cs : Array Value) (p : Value × Nat) => cs.setIfInBounds (off + p.2) p.1) ⟨cells⟩) = ⟨cells.take (off + i) ++ vs ++ cells.drop (off + i + vs.length)⟩
  | [], i, cells, h => by simp
  | v :: vs, i, cells, h => by
    simp only [List.length_cons] at h
    rw [List.zipIdx_cons, List.foldl_cons]
    have e : (⟨cells⟩ : Array Value).setIfInBounds (off + i) v = ⟨cells.set (off + i) v⟩ := by simp
    rw [e, foldl_put off vs (i + 1) (cells.set (off + i) v) (by rw [List.length_set]; omega)]
    have hA : (cells.take (off + i)).length = off + i := by rw [List.length_take]; omega
    rw [List.set_eq_take_append_cons_drop, if_pos (by omega)]
    have t1 : (cells.take (off + i) ++ v :: cells.drop (off + i + 1)).take (off + (i + 1)) = cells.take (off + i) ++ [v] := by
      rw [List.take_append, hA, List.take_of_length_le (by omega), show off + (i + 1) - (off + i) = 1 by omega]
      rfl
    have t2 : (cells.take (off + i) ++ v :: cells.drop (off + i + 1)).drop (off + (i + 1) + vs.length) = cells.drop (off + i + (vs.length + 1)) := by
      rw [List.drop_append, hA, List.drop_of_length_le (by omega), show off + (i + 1) + vs.length - (off + i) = vs.length + 1 by omega, List.nil_append, List.drop_succ_cons, List.drop_drop]
      congr 1
      omega
    rw [t1, t2, List.length_cons]
    simp
theorem All2.putAt {R : Value → Value → Prop} {xs ys us vs : List Value} (k : All2 R xs ys) (q : All2 R us vs) (off : Nat) : All2 R (putAt xs off us) (Ab.putAt ys off vs) := by
  unfold Ab.putAt
  rw [← q.1]
  exact ((k.take off).append q).append (k.drop _)
theorem fill_off {place : Nat → Option (Nat × Nat)} : ∀ {cells cells' : List Value} {ps : List (Nat × Nat × Value)} {qs : List (Nat × Value)} {cs : List Value}, All2 (VR1 μ s.h) cells cells' →
    All2 (fun (p : Nat × Nat × Value) (q : Nat × Value) => place q.1 = some (p.1, p.2.1) ∧ VR μ s.h p.2.2 q.2) ps qs → fillOff cells ps = some cs → ∃ cs', Instr.fill place ⟨cells'⟩ qs = some ⟨cs'⟩ ∧ All2 (VR1 μ s.h) cs cs'
  | cells, cells', [], qs, cs, k, hq, hf => by
    have : qs = [] := List.eq_nil_of_length_eq_zero hq.1.symm
    subst this
    simp only [fillOff, Option.some.injEq] at hf
    subst hf
    exact ⟨cells', rfl, k⟩
  | cells, cells', (off, n, v) :: ps, [], cs, k, hq, hf => by have := hq.1; simp at this
  | cells, cells', (off, n, v) :: ps, (i, v') :: qs, cs, k, hq, hf => by
    obtain ⟨hp, hv⟩ := hq.2 0 _ _ rfl rfl
    have hq' : All2 (fun (p : Nat × Nat × Value) (q : Nat × Value) => place q.1 = some (p.1, p.2.1) ∧ VR μ s.h p.2.2 q.2) ps qs :=
      ⟨by have := hq.1; simpa using this, fun j x y hx hy => hq.2 (j + 1) x y (by simpa using hx) (by simpa using hy)⟩
    simp only [fillOff] at hf
    split at hf
    · rename_i vs hvs
      split at hf
      · rename_i hc
        obtain ⟨ys, hys, ky⟩ := VR.cells hv hvs
        have hl : ys.length = n := by rw [← ky.1, hc.1]
        have hl' : cells'.length = cells.length := k.1.symm
        obtain ⟨cs', h1, h2⟩ := fill_off (k.putAt ky off) hq' hf
        refine ⟨cs', ?_, h2⟩
        have hfold := foldl_put off ys 0 cells' (by omega)
        have hfold' : (⟨ys⟩ : Array Value).zipIdx.foldl (fun (cs : Array Value) (p : Value × Nat) => cs.setIfInBounds (off + p.2) p.1) ⟨cells'⟩ = ⟨Ab.putAt cells' off ys⟩ := by
          rw [← Array.foldl_toList]
          simpa [Ab.putAt] using hfold
        simp only [Instr.fill, hp, hys]
        have hn1 : ¬ ((⟨ys⟩ : Array Value).size ≠ n || decide (off + (⟨ys⟩ : Array Value).size > (⟨cells'⟩ : Array Value).size)) = true := by
          simp [hl]
          omega
        rw [if_neg hn1]
        rw [← h1]
        congr 1
      · cases hf
    · cases hf
end
end Go.Proofs.YthfeahanmbmjhaaGreatDoor.Ab
/- What the machine does at an operation is what the small language says: memory made, and grown. No conditions. -/
namespace Go.Proofs.YthfeahanmbmjhaaGreatDoor.Ab
open Go.RowKit
section
variable {P : Program} {N : Nat} {D E : List Nat} {μ : Map} {s : St} {a : Act} {w : World} {o : Oper} {v : Value} {h' : Heap}
theorem zeroOf_spec {t : TypeId} {z : List Value} (h : zeroOf P t = some z) : ∃ i zv, P.info? t = some i ∧ i.zero = some zv ∧ zv.cells = ⟨z⟩ ∧ z.length = i.size ∧ (∀ x ∈ z, prim x = true) := by
  unfold zeroOf at h
  split at h
  · rename_i i hi
    split at h
    · rename_i zv hz
      split at h
      · rename_i cs hcs
        split at h
        · rename_i hc
          cases h
          refine ⟨i, zv, hi, hz, ?_, hc.1, by simpa using hc.2⟩
          unfold cellsOf at hcs
          split at hcs
          · cases hcs; rfl
          · cases hcs
          · cases hcs
          · cases hcs
            rename_i h1 h2 h3
            cases zv <;> first | rfl | exact absurd rfl (h1 _) | exact absurd rfl (h2 _) | exact absurd rfl (h3 _)
        · cases h
      · cases h
    · cases h
  · cases h
theorem All2.prims {h : Heap} {xs : List Value} (hp : ∀ x ∈ xs, prim x = true) : All2 (VR1 μ h) xs xs :=
  ⟨rfl, fun i x y hx hy => by rw [hx] at hy; cases hy; exact .base _ _ (.prim _ (hp x (List.mem_of_getElem? hx)))⟩
theorem zeros_len (z : List Value) : ∀ n, (zeros z n).length = n * z.length
  | 0 => by simp [zeros]
  | n + 1 => by rw [zeros, List.length_append, zeros_len z n, Nat.add_mul, Nat.one_mul, Nat.add_comm]
theorem zeros_prim {z : List Value} (hp : ∀ x ∈ z, prim x = true) : ∀ n, ∀ x ∈ zeros z n, prim x = true
  | 0, x, hx => by simp [zeros] at hx
  | n + 1, x, hx => by
    rw [zeros, List.mem_append] at hx
    rcases hx with h | h
    · exact hp x h
    · exact zeros_prim hp n x h
theorem zeros_get {z : List Value} (hz : 0 < z.length) : ∀ (n i : Nat), i < n * z.length → (zeros z n)[i]? = z[i % z.length]?
  | 0, i, h => by simp at h
  | n + 1, i, h => by
    rw [zeros]
    by_cases hi : i < z.length
    · rw [List.getElem?_append_left hi, Nat.mod_eq_of_lt hi]
    · rw [List.getElem?_append_right (by omega), zeros_get hz n (i - z.length) (by rw [Nat.add_mul] at h; omega), ← Nat.mod_eq_sub_mod (by omega)]
theorem made_zeros {z : List Value} (hz : 0 < z.length) (n : Nat) : madeCells ⟨z⟩ (n * z.length) = ⟨zeros z n⟩ := by
  apply Array.ext'
  apply List.ext_getElem?
  intro i
  unfold madeCells
  by_cases hi : i < n * z.length
  · rw [zeros_get hz n i hi]
    have hm : i % z.length < z.length := Nat.mod_lt _ hz
    have hm' : i % (⟨z⟩ : Array Value).size < (⟨z⟩ : Array Value).size := hm
    rw [Array.getElem?_toList, Array.getElem?_map, Array.getElem?_range, if_pos hi]
    simp only [Option.map_some]
    have : (⟨z⟩ : Array Value)[i % (⟨z⟩ : Array Value).size]! = z[i % z.length] := getElem!_pos (⟨z⟩ : Array Value) _ hm'
    rw [this, List.getElem?_eq_getElem hm]
  · rw [List.getElem?_eq_none (by simp; omega), List.getElem?_eq_none (by rw [zeros_len]; omega)]
/-- A new block. -/
theorem Out.made {cells : List Value} {sz : Nat} {ty : TypeId} {new : Array Value} {vv vv' : Value} {n : Nat} (H : HRel μ s.h w) (hp : 0 < sz) (hle : cells.length ≤ new.size)
    (hc : ∀ (i : Nat) (x : Value), cells[i]? = some x → ∃ x', new[i]? = some x' ∧ VR1 μ s.h x x') (hr : (execOp a.eval o).run P w = .ok (.value vv') ({ w with drawn := n }.alloc (.cells new ty)))
    (hv : VR (μ.to s.h.length ⟨w.heap.size, 0, new.size⟩) (s.h ++ [⟨cells, sz, ty, true⟩]) vv vv') : Out P μ s.h w o a vv (s.h ++ [⟨cells, sz, ty, true⟩]) := by
  obtain ⟨h1, h2⟩ := H.push (blk := ⟨cells, sz, ty, true⟩) (new := new) (w' := { w with drawn := n }.alloc (.cells new ty)) rfl hp hle hc (heap_alloc_new { w with drawn := n } _) (fun j hj => heap_alloc_old { w with drawn := n } _ hj) (by show (w.heap.push _).size = _; simp) rfl rfl rfl
  exact ⟨_, _, _, hr, hv, h1, h2⟩
theorem alloc_count (w : World) (x : Obj) : w.alloc x = ({ w with drawn := w.drawn } : World).alloc x := rfl
/-- A slice of a new block. -/
theorem VR.newSlice {h : Heap} {cells : List Value} {sz n c : Nat} {ty : TypeId} {l : Loc} (hn : n * sz = cells.length) (hc : n ≤ c) (hm : c ≤ maxLen) (ho : l.o = 0) (hcs : c * sz = l.c) :
    VR (μ.to h.length l) (h ++ [⟨cells, sz, ty, true⟩]) (.slice (some ⟨h.length, 0, none⟩) n n) (.slice (some ⟨l.g, 0, none⟩) n c) := by
  refine .val _ _ (.one _ _ (.base _ _ (.sl h.length 0 n n _ ⟨cells, sz, ty, true⟩ (by simp) (Nat.le_refl _) (by simp only; omega) (fun _ => ⟨⟨l.g, 0, none⟩, c, rfl, hc, hm, .inr ?_, fun _ _ => ?_⟩) rfl)))
  · rw [Map.to_same, ho]
  · rw [Map.to_same]; exact hcs
theorem VR.newPtr {h : Heap} {cells : List Value} {sz n : Nat} {ty : TypeId} {l : Loc} (hn : n = cells.length) (ho : l.o = 0) :
    VR (μ.to h.length l) (h ++ [⟨cells, sz, ty, true⟩]) (.pointer (some ⟨h.length, 0, some n⟩)) (.pointer (some ⟨l.g, 0, none⟩)) := by
  refine .val _ _ (.one _ _ (.base _ _ (.ptr h.length 0 n _ ⟨cells, sz, ty, true⟩ (by simp) (Nat.le_of_eq hn) (fun _ => ?_) rfl)))
  rw [Map.to_same, ho]
theorem ok_nw {t : TypeId} {n : Nat} {agg : Bool} {z : List Value} (H : HRel μ s.h w) (ho : o.op = .alloc t) (ht : rowOf P t = some (n, agg)) (hz : zeroOf P t = some z) (hn : n = z.length) (h0 : 0 < n) (hr : (MI.nw t z).run s = some (v, h')) : Out P μ s.h w o a v h' := by
  simp only [MI.run, Option.some.injEq, Prod.mk.injEq] at hr
  obtain ⟨rfl, rfl⟩ := hr
  obtain ⟨i, zv, h1, h2, h3, h4, h5⟩ := zeroOf_spec hz
  refine Out.made (new := ⟨z⟩) (n := w.drawn) H (by omega) (Nat.le_refl _) (fun i x hx => ⟨x, by simpa using hx, .base _ _ (.prim _ (h5 x (List.mem_of_getElem? hx)))⟩) (vv' := .pointer (some ⟨w.heap.size, 0, none⟩)) ?_ (VR.newPtr rfl rfl)
  simp [execOp, ho, Instr.alloc, zeroValue, typeInfo, h1, h2, newVar, newRow, h3]
theorem ok_bx {x : Operand} {y : Opd} {t : TypeId} {n : Nat} {agg : Bool} (R : RelT N μ s a) (H : HRel μ s.h w) (ho : o.op = .box t x) (hx : opd x = some y) (ht : rowOf P t = some (n, agg)) (h0 : 0 < n) (hr : (MI.bx t n y).run s = some (v, h')) : Out P μ s.h w o a v h' := by
  simp only [MI.run] at hr
  split at hr
  · rename_i cs hcs
    split at hr
    · rename_i hl
      simp only [Option.some.injEq, Prod.mk.injEq] at hr
      obtain ⟨rfl, rfl⟩ := hr
      obtain ⟨ys, e, k⟩ := (eval_opd R hx).cells hcs
      refine Out.made (new := ⟨ys⟩) (n := w.drawn) H h0 (by rw [k.1]; exact Nat.le_refl _) (fun i x hx => ?_) (vv' := .pointer (some ⟨w.heap.size, 0, none⟩)) ?_ (VR.newPtr hl.symm rfl)
      · obtain ⟨x', h1, h2⟩ := k.get hx
        exact ⟨x', by simpa using h1, h2⟩
      · simp [execOp, ho, Instr.box, newVar, newRow, e]
    · cases hr
  · cases hr
/-- A block is laid: what it is here, and there. -/
def Laid (P : Program) (μ : Map) (s : St) (w : World) (o : Oper) (a : Act) (v : Value) (h' : Heap) : Prop :=
  ∃ (n : Nat) (cells : List Value) (sz : Nat) (ty : TypeId) (new : Array Value) (k : Nat), v = .slice (some ⟨s.h.length, 0, none⟩) n n ∧ h' = s.h ++ [⟨cells, sz, ty, true⟩] ∧ 0 < sz ∧ n * sz = cells.length ∧ n ≤ maxLen ∧ All2 (VR1 μ s.h) cells new.toList ∧
    (execOp a.eval o).run P w = .ok (.value (.slice (some ⟨w.heap.size, 0, none⟩) n n)) ({ w with drawn := k }.alloc (.cells new ty))
theorem Laid.out (H : HRel μ s.h w) (l : Laid P μ s w o a v h') : Out P μ s.h w o a v h' := by
  obtain ⟨n, cells, sz, ty, new, k, rfl, rfl, hp, hn, hm, hc, hr⟩ := l
  have hl : cells.length = new.size := by rw [hc.1, Array.length_toList]
  refine Out.made (new := new) (n := k) H hp (Nat.le_of_eq hl) (fun i x hx => ?_) hr (VR.newSlice hn (Nat.le_refl _) hm rfl (hn.trans hl))
  obtain ⟨x', k1, k2⟩ := hc.get hx
  exact ⟨x', by simpa using k1, k2⟩
theorem laid_mk {x : Operand} {y : Opd} {t e : TypeId} {sz bytes : Nat} {z : List Value} (R : RelT N μ s a) (H : HRel μ s.h w) (ho : o.op = .makeSlice t x x) (hx : opd x = some y) (ht : elemOf P t = some (e, sz, bytes, z)) (hr : (MI.mk sz e bytes z y).run s = some (v, h')) : Laid P μ s w o a v h' := by
  simp only [MI.run] at hr
  split at hr
  · rename_i n hn
    split at hr
    · rename_i hc
      simp only [Option.some.injEq, Prod.mk.injEq] at hr
      obtain ⟨rfl, rfl⟩ := hr
      obtain ⟨i, e1, e2, e3, e4, e5, e6, e7, e8⟩ := elemOf_spec ht
      obtain ⟨i', zv, h1, h2, h3, h4, h5⟩ := zeroOf_spec e8
      rw [e2] at h1
      cases h1
      have hv := eval_opd R hx
      rw [hn] at hv
      have hlim : n ≤ 1099511627776 := hc.2
      have hb : (i.bytes : Int) * n ≤ 281474976710656 := by
        have : (i.bytes : Int) * n ≤ 96 * 1099511627776 := Int.mul_le_mul (by omega) hlim hc.1 (by omega)
        omega
      have hrun := run_make (P := P) w t e i zv e1 e2 h2 .i64 .i64 n n hc.1 (Int.le_refl _) hb (by omega)
      have hzl : z.length = sz := by rw [h4, e3]
      rw [h3, ← h4, made_zeros (by omega)] at hrun
      refine ⟨n.toNat, _, sz, e, ⟨zeros z n.toNat⟩, w.drawn, rfl, rfl, e5, by rw [zeros_len, hzl], by simp [maxLen]; omega, All2.prims (zeros_prim h5 _), ?_⟩
      simp [execOp, ho, hv.int, hrun]
    · cases hr
  · cases hr
theorem ok_mk {x : Operand} {y : Opd} {t e : TypeId} {sz bytes : Nat} {z : List Value} (R : RelT N μ s a) (H : HRel μ s.h w) (ho : o.op = .makeSlice t x x) (hx : opd x = some y) (ht : elemOf P t = some (e, sz, bytes, z)) (hr : (MI.mk sz e bytes z y).run s = some (v, h')) : Out P μ s.h w o a v h' := (laid_mk R H ho hx ht hr).out H
theorem opds_cons {x : Operand} {xs : List Operand} {l : List Opd} (h : opds (x :: xs) = some l) : ∃ y ys, l = y :: ys ∧ opd x = some y ∧ opds xs = some ys := by
  simp only [opds] at h
  split at h
  · rename_i y ys h1 h2
    cases h
    exact ⟨y, ys, rfl, h1, h2⟩
  · cases h
theorem opds_all {xs : List Operand} {l : List Opd} (R : RelT N μ s a) (h : opds xs = some l) : All2 (VR μ s.h) (l.map s.val) (xs.map a.eval) := by
  induction xs generalizing l with
  | nil => simp [opds] at h; subst h; exact All2.nil
  | cons x xs ih =>
    obtain ⟨y, ys, rfl, h1, h2⟩ := opds_cons h
    exact All2.cons (eval_opd R h1) (ih h2)
theorem parts_rel {xs : List (Nat × Operand)} {l : List Opd} {place : Nat → Option (Nat × Nat)} {ps : List (Nat × Nat)} (R : RelT N μ s a) (h : opds (xs.map (·.2)) = some l) (hp : ∀ (j i : Nat), (xs.map (·.1))[j]? = some i → ∃ p, ps[j]? = some p ∧ place i = some p) (hl : ps.length = xs.length) :
    All2 (fun (p : Nat × Nat × Value) (q : Nat × Value) => place q.1 = some (p.1, p.2.1) ∧ VR μ s.h p.2.2 q.2) ((ps.zip l).map fun p => (p.1.1, p.1.2, s.val p.2)) (xs.map fun p => (p.1, a.eval p.2)) := by
  have hv := opds_all R h
  have hll : l.length = xs.length := by have := hv.1; simpa using this
  refine ⟨by simp [hl, hll], fun j x y hx hy => ?_⟩
  simp only [List.getElem?_map, Option.map_eq_some_iff] at hx hy
  obtain ⟨q, hq, rfl⟩ := hy
  obtain ⟨p, hp', rfl⟩ := hx
  obtain ⟨hp1, hp2⟩ := List.getElem?_zip_eq_some.1 hp'
  obtain ⟨p2, h1, h2⟩ := hp j q.1 (by simp [hq])
  rw [h1] at hp1
  cases hp1
  refine ⟨h2, ?_⟩
  exact hv.2 j _ _ (by simp [hp2]) (by simp [hq])
theorem placesOf_get {fs : List (Nat × Nat)} : ∀ {is : List Nat} {ps : List (Nat × Nat)}, placesOf fs is = some ps → ps.length = is.length ∧ ∀ (j i : Nat), is[j]? = some i → ∃ p, ps[j]? = some p ∧ fs[i]? = some p
  | [], ps, h => by simp [placesOf] at h; subst h; exact ⟨rfl, fun j i hj => by simp at hj⟩
  | i :: is, ps, h => by
    simp only [placesOf] at h
    split at h
    · rename_i p ps' h1 h2
      cases h
      obtain ⟨g1, g2⟩ := placesOf_get h2
      refine ⟨by simp [g1], fun j i' hj => ?_⟩
      cases j with
      | zero => simp at hj; subst hj; exact ⟨p, rfl, h1⟩
      | succ j => simp at hj; obtain ⟨p', h3, h4⟩ := g2 j i' hj; exact ⟨p', by simpa using h3, h4⟩
    · cases h
theorem ok_bld {t : TypeId} {parts : Array (Nat × Operand)} {z : List Value} {fs ps : List (Nat × Nat)} {xs : List Opd} (R : RelT N μ s a) (H : HRel μ s.h w) (ho : o.op = .build t parts) (hz : zeroOf P t = some z) (hf : fieldsOf P t = some fs) (hx : opds (parts.toList.map (·.2)) = some xs)
    (hp : placesOf fs (parts.toList.map (·.1)) = some ps) (hr : (MI.bld z ((ps.zip xs).map fun p => (p.1.1, p.1.2, p.2))).run s = some (v, h')) : Out P μ s.h w o a v h' := by
  simp only [MI.run, Option.map_eq_some_iff, Prod.mk.injEq, List.map_map] at hr
  obtain ⟨cs, hcs, rfl, rfl⟩ := hr
  obtain ⟨i, zv, h1, h2, h3, h4, h5⟩ := zeroOf_spec hz
  obtain ⟨g1, g2⟩ := placesOf_get hp
  unfold fieldsOf at hf
  split at hf
  · rename_i fields hu
    have hrel := parts_rel (place := (fs.toArray[·]?)) R hx (fun j i hj => by obtain ⟨p, a1, a2⟩ := g2 j i hj; exact ⟨p, a1, by simpa using a2⟩) (by simpa using g1)
    obtain ⟨cs', e1, e2⟩ := fill_off (All2.prims h5) hrel hcs
    refine Out.pure (v' := .agg ⟨cs'⟩) ?_ (.val _ _ (.agg _ _ e2)) H
    have hb : P.built t (parts.map fun p => (p.1, a.eval p.2)).toList = some ⟨cs'⟩ := by
      unfold Program.built
      simp only [h1, hu, h2, hf, h3, Array.toList_map]
      exact e1
    have := run_build (P := P) w t (parts.map fun p => (p.1, a.eval p.2)) ⟨cs'⟩ hb
    simp [execOp, ho, this]
  · cases hf
theorem fillAt_off {sz : Nat} : ∀ {cells cs : List Value} {ps : List (Nat × Value)}, fillAt sz cells ps = some cs → fillOff cells (ps.map fun p => (p.1 * sz, sz, p.2)) = some cs
  | cells, cs, [], h => by simpa [fillAt, fillOff] using h
  | cells, cs, (i, v) :: ps, h => by
    simp only [fillAt] at h
    simp only [List.map_cons, fillOff]
    split at h
    · rename_i vs hvs
      split at h
      · rename_i hc
        rw [if_pos ⟨hc.1, hc.2⟩]
        exact fillAt_off h
      · cases h
    · cases h
theorem fillOff_len : ∀ {cells cs : List Value} {ps : List (Nat × Nat × Value)}, fillOff cells ps = some cs → cs.length = cells.length
  | cells, cs, [], h => by simp [fillOff] at h; rw [h]
  | cells, cs, (off, n, v) :: ps, h => by
    simp only [fillOff] at h
    split at h
    · rename_i vs hvs
      split at h
      · rename_i hc
        have := fillOff_len h
        rw [this]
        unfold Ab.putAt
        simp only [List.length_append, List.length_take, List.length_drop]
        omega
      · cases h
    · cases h
theorem run_lit {t e : TypeId} {n sz bytes : Nat} {parts : Array (Nat × Operand)} {z : List Value} {xs : List Opd} {cs : List Value} (R : RelT N μ s a) (ht : elemOf P t = some (e, sz, bytes, z)) (hx : opds (parts.toList.map (·.2)) = some xs)
    (hn : n * sz ≤ 16777216) (hn0 : 0 < n) (hcs : fillAt sz (zeros z n) (((parts.toList.map (·.1)).zip xs).map fun p => (p.1, s.val p.2)) = some cs) :
    ∃ cs' : List Value, All2 (VR1 μ s.h) cs cs' ∧ (Instr.buildSlice t n (parts.map fun p => (p.1, a.eval p.2))).run P w = .ok (.slice (some ⟨w.heap.size, 0, none⟩) n n) (w.alloc (.cells ⟨cs'⟩ e)) := by
  obtain ⟨i, e1, e2, e3, e4, e5, e6, e7, e8⟩ := elemOf_spec ht
  obtain ⟨i', zv, h1, h2, h3, h4, h5⟩ := zeroOf_spec e8
  rw [e2] at h1
  cases h1
  have hzl : z.length = sz := by rw [h4, e3]
  have hfo := fillAt_off hcs
  have hps : (((parts.toList.map (·.1)).zip xs).map fun p => (p.1, s.val p.2)).map (fun p => (p.1 * sz, sz, p.2)) = (((parts.toList.map fun p => (p.1 * sz, sz)).zip xs).map fun p => (p.1.1, p.1.2, s.val p.2)) := by
    rw [List.map_map]
    have : (parts.toList.map fun p => (p.1 * sz, sz)) = (parts.toList.map (·.1)).map fun i => (i * sz, sz) := by rw [List.map_map]; rfl
    rw [this]
    generalize parts.toList.map (·.1) = is
    rw [List.zip_map_left, List.map_map]
    rfl
  rw [hps] at hfo
  have hrel := parts_rel (place := fun i => some (i * sz, sz)) (ps := parts.toList.map fun p => (p.1 * sz, sz)) R hx (fun j i hj => by
    simp only [List.getElem?_map, Option.map_eq_some_iff] at hj
    obtain ⟨q, hq, rfl⟩ := hj
    exact ⟨_, by simp [hq], rfl⟩) (by simp)
  obtain ⟨cs', g1, g2⟩ := fill_off (place := fun i => some (i * sz, sz)) (All2.prims (zeros_prim h5 n)) hrel hfo
  refine ⟨cs', g2, ?_⟩
  have h0 : ¬ n * sz = 0 := by
    have : 0 < n * sz := Nat.mul_pos hn0 e5
    omega
  refine run_buildSlice w t e n _ ⟨cs'⟩ i zv e1 e2 h2 (by rw [e3]; omega) (by rw [e3]; exact h0) ?_
  have := made_zeros (z := z) (by omega) n
  rw [hzl] at this
  unfold madeCells at this
  rw [e3, h3, this, Array.toList_map]
  exact g1
theorem laid_lit {t e : TypeId} {n sz bytes : Nat} {parts : Array (Nat × Operand)} {z : List Value} {xs : List Opd} (R : RelT N μ s a) (H : HRel μ s.h w) (ho : o.op = .buildSlice t n parts) (ht : elemOf P t = some (e, sz, bytes, z)) (hx : opds (parts.toList.map (·.2)) = some xs)
    (hn : n * sz ≤ 16777216) (hr : (MI.lit n sz e z ((parts.toList.map (·.1)).zip xs)).run s = some (v, h')) : Laid P μ s w o a v h' := by
  simp only [MI.run, Option.map_eq_some_iff, Prod.mk.injEq] at hr
  obtain ⟨cs, hcs, rfl, rfl⟩ := hr
  obtain ⟨i, e1, e2, e3, e4, e5, e6, e7, e8⟩ := elemOf_spec ht
  obtain ⟨i', zv, h1, h2, h3, h4, h5⟩ := zeroOf_spec e8
  rw [e2] at h1
  cases h1
  have hzl : z.length = sz := by rw [h4, e3]
  have hfo := fillAt_off hcs
  have hlen := fillOff_len hfo
  rw [zeros_len, hzl] at hlen
  have hps : (((parts.toList.map (·.1)).zip xs).map fun p => (p.1, s.val p.2)).map (fun p => (p.1 * sz, sz, p.2)) = (((parts.toList.map fun p => (p.1 * sz, sz)).zip xs).map fun p => (p.1.1, p.1.2, s.val p.2)) := by
    rw [List.map_map]
    have : (parts.toList.map fun p => (p.1 * sz, sz)) = (parts.toList.map (·.1)).map fun i => (i * sz, sz) := by rw [List.map_map]; rfl
    rw [this]
    generalize parts.toList.map (·.1) = is
    rw [List.zip_map_left, List.map_map]
    rfl
  rw [hps] at hfo
  have hrel := parts_rel (place := fun i => some (i * sz, sz)) (ps := parts.toList.map fun p => (p.1 * sz, sz)) R hx (fun j i hj => by
    simp only [List.getElem?_map, Option.map_eq_some_iff] at hj
    obtain ⟨q, hq, rfl⟩ := hj
    exact ⟨_, by simp [hq], rfl⟩) (by simp)
  obtain ⟨cs', g1, g2⟩ := fill_off (place := fun i => some (i * sz, sz)) (All2.prims (zeros_prim h5 n)) hrel hfo
  have hcl : cs'.length = n * sz := by rw [← g2.1, hlen]
  have hrun : (Instr.buildSlice t n (parts.map fun p => (p.1, a.eval p.2))).run P w = .ok (.slice (some ⟨w.heap.size, 0, none⟩) n n) (w.alloc (.cells ⟨cs'⟩ e)) := by
    by_cases h0 : n * sz = 0
    · have hn0 : n = 0 := by
        rcases Nat.mul_eq_zero.1 h0 with h | h
        · exact h
        · omega
      subst hn0
      have hpe : parts = #[] := by
        cases hq : parts.toList with
        | nil => exact Array.toList_eq_nil_iff.1 hq
        | cons p ps =>
          rw [hq] at hx hcs
          obtain ⟨y, ys, rfl, _, _⟩ := opds_cons hx
          simp only [zeros, List.map_cons, List.zip_cons_cons, fillAt, List.length_nil] at hcs
          split at hcs
          · rw [if_neg (by omega)] at hcs; cases hcs
          · cases hcs
      subst hpe
      have hc' : cs' = [] := List.eq_nil_of_length_eq_zero (by omega)
      subst hc'
      simp [Instr.buildSlice, run_underlying e1, run_sizeOf e2, Instr.fill, newRow, Array.range_zero']
    · refine run_buildSlice w t e n _ ⟨cs'⟩ i zv e1 e2 h2 (by rw [e3]; omega) (by rw [e3]; exact h0) ?_
      have := made_zeros (z := z) (by omega) n
      rw [hzl] at this
      unfold madeCells at this
      rw [e3, h3, this, Array.toList_map]
      exact g1
  refine ⟨n, cs, sz, e, ⟨cs'⟩, w.drawn, rfl, rfl, e5, by rw [hlen], ?_, g2, ?_⟩
  · have : n ≤ n * sz := Nat.le_mul_of_pos_right n e5
    simp [maxLen]
    omega
  · simp [execOp, ho, hrun]
theorem ok_lit {t e : TypeId} {n sz bytes : Nat} {parts : Array (Nat × Operand)} {z : List Value} {xs : List Opd} (R : RelT N μ s a) (H : HRel μ s.h w) (ho : o.op = .buildSlice t n parts) (ht : elemOf P t = some (e, sz, bytes, z)) (hx : opds (parts.toList.map (·.2)) = some xs)
    (hn : n * sz ≤ 16777216) (hr : (MI.lit n sz e z ((parts.toList.map (·.1)).zip xs)).run s = some (v, h')) : Out P μ s.h w o a v h' := (laid_lit R H ho ht hx hn hr).out H
/-- The cells that a slice shows, in the machine. -/
theorem row_rel {sz : Nat} {x : Value} {cs : List Value} {x' : Value} (H : HRel μ s.h w) (hc : rowC s.h sz x = some cs) (k : VR μ s.h x x') :
    ∃ a' n c', x' = .slice a' n c' ∧ n ≤ c' ∧ cs.length = n * sz ∧ (∀ a n' c, x = .slice a n' c → n' = n) ∧ (0 < n → ∃ A ys, a' = some A ∧ All2 (VR1 μ s.h) cs ys ∧ ∀ j v', ys[j]? = some v' → w.cell? (A.add j) = some v') := by
  unfold rowC at hc
  split at hc
  · cases hc
    rcases k.sliceNil with hv | ⟨A, hv⟩
    · exact ⟨none, 0, 0, hv, Nat.le_refl _, by simp, fun a n' c e => by injection e with _ e _; exact e.symm, fun h => absurd h (by omega)⟩
    · exact ⟨some A, 0, 0, hv, Nat.le_refl _, by simp, fun a n' c e => by injection e with _ e _; exact e.symm, fun h => absurd h (by omega)⟩
  · rename_i b off len cap
    split at hc
    · rename_i blk hblk
      split at hc
      · rename_i hv
        obtain ⟨rfl, hv⟩ := hv
        cases hc
        obtain ⟨g1, g2, g3⟩ := k.slice' hblk
        obtain ⟨A, c, rfl, k1, k2, k3, k4⟩ := g3 hv
        have hlen : off + len * blk.sz ≤ blk.cells.length := by
          have : len * blk.sz ≤ cap * blk.sz := Nat.mul_le_mul_right _ g1
          omega
        refine ⟨some A, len, c, rfl, k1, by rw [List.length_take, List.length_drop]; omega, fun a n' c e => by injection e with _ e _; exact e.symm, fun h0 => ?_⟩
        rcases k3 with ⟨z, _⟩ | rfl
        · omega
        · obtain ⟨ys, q1, q2⟩ := All2.of_cells H hblk hlen
          exact ⟨_, ys, rfl, q1, q2⟩
      · cases hc
    · cases hc
  · cases hc
theorem run_app_zero {t e ty : TypeId} {i : TypeInfo} (ht : P.underlying t = some (.slice e)) (hi : P.info? e = some i) (base b : Option Addr) (l c c' : Nat) (hlc : l ≤ c) :
    (Builtin.append_ #[t, t] ty #[.slice base l c, .slice b 0 c']).run P w = .ok (.slice base l c) w := by
  cases base <;> cases b <;> simp [Builtin.append_, run_underlying ht, sizeOf, typeInfo, hi, Builtin.lenOf, hlc, Builtin.firstCells, loadCells, loadCellsFrom, storeCells]
theorem app_core {d x : Operand} {d' : Opd} {t e : TypeId} {sz bytes : Nat} {z : List Value} {cs : List Value} {ax' : Option Addr} {nx cx' : Nat} (R : RelT N μ s a) (H : HRel μ s.h w) (ho : o.op = .call { callee := .builtin .append, args := #[d, x], argTypes := #[t, t] }) (hd : opd d = some d')
    (ht : elemOf P t = some (e, sz, bytes, z)) (hx' : a.eval x = .slice ax' nx cx') (hcl : cs.length = nx * sz) (hrow : 0 < nx → ∃ A ys, ax' = some A ∧ All2 (VR1 μ s.h) cs ys ∧ ∀ j v', ys[j]? = some v' → w.cell? (A.add j) = some v')
    (hr : appV s.h sz e (s.val d') cs nx = some (v, h')) : Out P μ s.h w o a v h' := by
  obtain ⟨i, e1, e2, e3, e4, e5, e6, e7, e8⟩ := elemOf_spec ht
  obtain ⟨i', zv, z1, z2, z3, z4, z5⟩ := zeroOf_spec e8
  rw [e2] at z1
  cases z1
  have hzs : zv.cells.size = sz := by rw [z3]; simpa [e3] using z4
  have kd := eval_opd R hd
  have hexec : (execOp a.eval o).run P w = ((Builtin.append_ #[t, t] o.type #[a.eval d, a.eval x]).run P w).andThen fun u w' => .ok (.value u) w' := by
    simp [execOp, ho, resolve, invoke, builtin]
  unfold appV at hr
  split at hr
  · rename_i hdv
    rw [hdv] at kd
    have hd' := kd.sliceNil
    split at hr
    · rename_i h0
      subst h0
      simp only [Option.some.injEq, Prod.mk.injEq] at hr
      obtain ⟨rfl, rfl⟩ := hr
      rcases hd' with hd' | ⟨A, hd'⟩
      · refine Out.pure (v' := .slice none 0 0) ?_ (by rw [hdv]; exact VR.of_prim rfl) H
        rw [hexec, hd', hx', run_app_zero e1 e2 none ax' 0 0 cx' (Nat.le_refl _)]
        rfl
      · refine Out.pure (v' := .slice (some A) 0 0) ?_ (by rw [hdv]; exact VR.of_hollow A) H
        rw [hexec, hd', hx', run_app_zero e1 e2 (some A) ax' 0 0 cx' (Nat.le_refl _)]
        rfl
    · rename_i h0
      split at hr
      · rename_i hlim
        simp only [Option.some.injEq, Prod.mk.injEq] at hr
        obtain ⟨rfl, rfl⟩ := hr
        obtain ⟨A, ys, rfl, k1, k2⟩ := hrow (by omega)
        have hlim' : nx ≤ 1099511627776 := hlim
        have hyl : ys.length = nx * i.size := by rw [← k1.1, hcl, e3]
        have hb : nx * i.bytes ≤ 281474976710656 := by
          have : nx * i.bytes ≤ 1099511627776 * 96 := Nat.mul_le_mul hlim' (by omega)
          omega
        have hrun : (Builtin.append_ #[t, t] o.type #[a.eval d, .slice (some A) nx cx']).run P w = .ok (.slice (some ⟨w.heap.size, 0, none⟩) nx (grownCap w nx 0 e)) (w.drew.alloc (.cells (ys.toArray ++ Builtin.zeroCells zv.cells (grownCap w nx 0 e - nx)) e)) := by
          rcases hd' with hd' | ⟨A', hd'⟩
          · rw [hd']
            exact run_append_nil (P := P) w t o.type e i zv e1 e2 z2 A nx cx' ys hyl k2 (by omega) (by omega) hb
          · rw [hd']
            have := run_append_grow (P := P) w t o.type e i zv e1 e2 z2 A' 0 0 [] (by simp) (fun j v h => by simp at h) A nx cx' ys hyl k2 (by omega) (by omega) (by rw [Nat.zero_add, nextslicecap_zero (by omega)]; exact hb)
            simpa using this
        have hge := grownCap_ge w nx 0 e
        have hle := grownCap_le_maxLen w nx 0 e (by simp [maxLen]; omega)
        refine Out.made (new := ys.toArray ++ Builtin.zeroCells zv.cells (grownCap w nx 0 e - nx)) (n := w.drawn + 1) (vv' := .slice (some ⟨w.heap.size, 0, none⟩) nx (grownCap w nx 0 e)) H e5 (by simp [k1.1]) (fun j y hy => ?_) ?_ (VR.newSlice hcl.symm hge hle rfl ?_)
        · obtain ⟨y', q1, q2⟩ := k1.get hy
          refine ⟨y', ?_, q2⟩
          rw [Array.getElem?_append_left (by have := (List.getElem?_eq_some_iff.1 q1).1; simpa using this)]
          simpa using q1
        · rw [hexec, hx', hrun]
          rfl
        · simp only [Array.size_append, List.size_toArray, size_zeroCells, hzs, hyl, e3, ← Nat.add_mul]
          congr 1
          omega
      · cases hr
  · rename_i b off len cap hdv
    split at hr
    · rename_i blk hblk
      split at hr
      · rename_i hval
        rw [hdv] at kd
        obtain ⟨g1, g2, g3⟩ := kd.slice' hblk
        obtain ⟨A0, c, hA, q1, q2, q3, q4⟩ := g3 hval
        split at hr
        · rename_i h0
          subst h0
          simp only [Option.some.injEq, Prod.mk.injEq] at hr
          obtain ⟨rfl, rfl⟩ := hr
          refine Out.pure (v' := .slice (some A0) len c) ?_ (by rw [hdv, ← hA]; exact kd) H
          rw [hexec, hA, hx', run_app_zero e1 e2 (some A0) ax' len c cx' q1]
          rfl
        · rename_i h0
          split at hr
          · rename_i hc
            obtain ⟨rfl, rfl, rfl, hown, rfl, hlim⟩ := hc
            simp only [Option.some.injEq, Prod.mk.injEq] at hr
            obtain ⟨rfl, rfl⟩ := hr
            have hlim' : len + nx ≤ 1099511627776 := hlim
            obtain ⟨A, ys, rfl, k1, k2⟩ := hrow (by omega)
            obtain ⟨o1, cur, o2, o3, o4⟩ := H.own b blk hblk hown
            have hcsz : c * blk.sz = cur.size := by rw [o3]; exact q4 hown rfl
            obtain rfl : A0 = ⟨(μ b).g, 0, none⟩ := by
              rcases q3 with ⟨_, h⟩ | rfl
              · omega
              · rw [o1]
            have hvl : len * blk.sz = blk.cells.length := by omega
            have hyl : ys.length = nx * i.size := by rw [← k1.1, hcl, e3]
            -- the old cells
            obtain ⟨xs, x1, x2⟩ := All2.of_cells (off := 0) (n := blk.cells.length) H hblk (by omega)
            rw [List.drop_zero, List.take_length] at x1
            have hxl : xs.length = len * i.size := by rw [← x1.1, ← hvl, e3]
            have x2' : ∀ j v', xs[j]? = some v' → w.cell? ((⟨(μ b).g, 0, none⟩ : Addr).add j) = some v' := by
              intro j v' hj
              have := x2 j v' hj
              rw [o1] at this
              exact this
            by_cases hroom : len + nx ≤ c
            · have hfit : len * i.size + ys.length ≤ cur.size := by
                rw [hyl, e3, ← Nat.add_mul, ← hcsz]
                exact Nat.mul_le_mul_right _ hroom
              have hrun := run_append_room (P := P) w t o.type _ i e1 e2 (μ b).g len c cur o2 A nx cx' ys hyl k2 (fun u hu => by
                obtain ⟨j, hj⟩ := List.mem_iff_getElem?.1 hu
                obtain ⟨hj1, _⟩ := List.getElem?_eq_some_iff.1 hj
                exact (k1.2 j _ u (List.getElem?_eq_getElem (by rw [k1.1]; exact hj1)) hj).oneCell) hroom hfit
              have hks : len * i.size = blk.cells.length := by rw [e3]; exact hvl
              rw [hks] at hrun hfit
              have hkc : blk.cells.length ≤ cur.size := o4
              have hnew : (cur.toList.take (blk.cells.length) ++ ys ++ cur.toList.drop (blk.cells.length + ys.length)).length = cur.size := by
                simp only [List.length_append, List.length_take, List.length_drop, Array.length_toList]
                omega
              obtain ⟨p1, p2⟩ := H.put (cells := blk.cells ++ cs) (new := (cur.toList.take (blk.cells.length) ++ ys ++ cur.toList.drop (blk.cells.length + ys.length)).toArray) (w' := w.setRow (μ b).g (cur.toList.take (blk.cells.length) ++ ys ++ cur.toList.drop (blk.cells.length + ys.length)).toArray)
                hblk hown (by rw [List.size_toArray, hnew, o3]) (by rw [List.size_toArray, hnew, List.length_append, ← hvl, hcl, ← Nat.add_mul, ← hcsz]; exact Nat.mul_le_mul_right _ hroom) (by simp)
                (fun j y hy => by
                  by_cases hj : j < blk.cells.length
                  · rw [List.getElem?_append_left hj] at hy
                    obtain ⟨y', r1, r2⟩ := x1.get hy
                    refine ⟨y', ?_, r2⟩
                    have := x2' j y' r1
                    rw [Addr.add_lit, Nat.zero_add, cell_of_row o2] at this
                    rw [List.getElem?_toArray, List.append_assoc, List.getElem?_append_left (by rw [List.length_take, Array.length_toList]; omega), List.getElem?_take, if_pos hj, Array.getElem?_toList]
                    exact this
                  · rw [List.getElem?_append_right (by omega)] at hy
                    obtain ⟨y', r1, r2⟩ := k1.get hy
                    refine ⟨y', ?_, r2⟩
                    have hjl := (List.getElem?_eq_some_iff.1 r1).1
                    rw [List.getElem?_toArray, List.append_assoc, List.getElem?_append_right (by rw [List.length_take, Array.length_toList]; omega), List.length_take, show j - min blk.cells.length cur.toList.length = j - blk.cells.length by rw [Array.length_toList]; omega, List.getElem?_append_left (by omega)]
                    exact r1)
                (setRow_heap w _ cur _ _ _ o2) (fun j hj => setRow_other w _ j _ hj) (by simp [World.setRow]) rfl rfl rfl
              refine ⟨_, _, _, by rw [hexec, hA, hx', hrun]; rfl, ?_, p1, p2⟩
              have hbl := lt_of_get hblk
              refine .val _ _ (.one _ _ (.base _ _ (.sl b 0 (len + nx) (len + nx) _ { blk with cells := blk.cells ++ cs } (by rw [List.getElem?_set_self hbl]) (Nat.le_refl _) ?_ (fun _ => ⟨_, c, rfl, hroom, q2, .inr (by rw [o1]), fun _ _ => by rw [hcsz, o3]⟩) rfl)))
              simp only [List.length_append]
              rw [Nat.add_mul]
              omega
            · have hfits : Builtin.nextslicecap (len + nx) c * i.bytes ≤ 281474976710656 := growslice_fits (by omega) (by
                have : (len + nx) * i.bytes ≤ 1099511627776 * 96 := Nat.mul_le_mul hlim' (by omega)
                omega)
              have hrun := run_append_grow (P := P) w t o.type _ i zv e1 e2 z2 ⟨(μ b).g, 0, none⟩ len c xs hxl x2' A nx cx' ys hyl k2 (by omega) (by omega) hfits
              have hge := grownCap_ge w (len + nx) c blk.ty
              have hle := grownCap_le_maxLen w (len + nx) c blk.ty (by simp [maxLen]; omega)
              have hnl : 0 < cs.length := by rw [hcl]; exact Nat.mul_pos (by omega) e5
              obtain ⟨p1, p2⟩ := H.move (cells := blk.cells ++ cs) (new := xs.toArray ++ ys.toArray ++ Builtin.zeroCells zv.cells (grownCap w (len + nx) c blk.ty - (len + nx))) (w' := w.drew.alloc (.cells (xs.toArray ++ ys.toArray ++ Builtin.zeroCells zv.cells (grownCap w (len + nx) c blk.ty - (len + nx))) blk.ty))
                hblk hown (by simp only [List.length_append, Array.size_append, List.size_toArray]; rw [x1.1, k1.1]; omega) (by rw [List.length_append]; omega)
                (fun j y hy => by
                  obtain ⟨y', r1, r2⟩ := (x1.append k1).get hy
                  refine ⟨y', ?_, r2⟩
                  have hjl := (List.getElem?_eq_some_iff.1 r1).1
                  rw [Array.getElem?_append_left (by simpa using hjl)]
                  simpa using r1)
                (heap_alloc_new w.drew _) (fun j hj => heap_alloc_old w.drew _ hj) (by show (w.drew.heap.push _).size = _; simp) rfl rfl rfl
              refine ⟨_, _, _, by rw [hexec, hA, hx', hrun]; rfl, ?_, p1, p2⟩
              have hbl := lt_of_get hblk
              refine .val _ _ (.one _ _ (.base _ _ (.sl b 0 (len + nx) (len + nx) _ { blk with cells := blk.cells ++ cs } (by rw [List.getElem?_set_self hbl]) (Nat.le_refl _) ?_ (fun _ => ⟨_, _, rfl, hge, hle, .inr (by rw [Map.to_same]), fun _ _ => ?_⟩) rfl)))
              · simp only [List.length_append]
                rw [Nat.add_mul]
                omega
              · rw [Map.to_same]
                simp only [Array.size_append, List.size_toArray, size_zeroCells, hzs, hyl, hxl, e3, ← Nat.add_mul]
                congr 1
                omega
          · cases hr
      · cases hr
    · cases hr
  · cases hr
theorem ok_app {d x : Operand} {d' x' : Opd} {t e : TypeId} {sz bytes : Nat} {z : List Value} (R : RelT N μ s a) (H : HRel μ s.h w) (ho : o.op = .call { callee := .builtin .append, args := #[d, x], argTypes := #[t, t] }) (hd : opd d = some d') (hx : opd x = some x')
    (ht : elemOf P t = some (e, sz, bytes, z)) (hr : (MI.app sz e bytes d' x').run s = some (v, h')) : Out P μ s.h w o a v h' := by
  have kx := eval_opd R hx
  simp only [MI.run] at hr
  split at hr
  · rename_i ax nx cx hxv
    simp only [Option.bind_eq_some_iff] at hr
    obtain ⟨cs, hcs, hr⟩ := hr
    rw [hxv] at kx
    obtain ⟨ax', nx', cx', hx', hncx, hcl, hnn, hrow⟩ := row_rel H hcs kx
    have := hnn _ _ _ rfl
    subst this
    exact app_core R H ho hd ht hx' hcl hrow hr
  · cases hr
theorem VR0.of_base {h : Heap} {v v' : Value} (hb : isBase v = true) (k : VR μ h v v') : VR0 μ h v v' := by
  cases k with
  | dead => simp [isBase, undef, Ab.prim] at hb
  | gone => simp [isBase, Ab.prim] at hb
  | tup => simp [isBase, Ab.prim] at hb
  | val _ _ k => cases k with
    | agg => simp [isBase, Ab.prim] at hb
    | one _ _ k => cases k with
      | base _ _ k => exact k
      | fn => simp [isBase, Ab.prim] at hb
theorem ok_fn {f : Fn} {first caps : Array Operand} {l : List Opd} (R : RelT N μ s a) (H : HRel μ s.h w) (ho : o.op = .makeFunc f first caps) (h0 : first.size = 0) (hx : opds caps.toList = some l) (hr : (MI.fn f l).run s = some (v, h')) : Out P μ s.h w o a v h' := by
  simp only [MI.run] at hr
  split at hr
  · rename_i hb
    simp only [Option.some.injEq, Prod.mk.injEq] at hr
    obtain ⟨rfl, rfl⟩ := hr
    have k := opds_all R hx
    have hf : first = #[] := Array.eq_empty_of_size_eq_zero h0
    refine Out.pure (v' := .func f #[] ⟨caps.toList.map a.eval⟩) ?_ (.val _ _ (.one _ _ (.fn f _ _ ⟨k.1, fun i x y hx hy => VR0.of_base (by
      have := List.mem_of_getElem? hx
      rw [List.all_eq_true] at hb
      exact hb x this) (k.2 i x y hx hy)⟩))) H
    have : caps.map a.eval = ⟨caps.toList.map a.eval⟩ := by apply Array.ext'; simp
    simp [execOp, ho, Instr.makeFunc, hf, this]
  · cases hr
end
end Go.Proofs.YthfeahanmbmjhaaGreatDoor.Ab
/- A frame of the machine shows a state of the small language; one operation keeps that. No conditions. -/
namespace Go.Proofs.YthfeahanmbmjhaaGreatDoor.Ab
open Go.RowKit
/-- What a slot's own store is in the machine: a box (by a pointer), a literal (by a slice). -/
def LocOk (D : List Nat) (L : List (Nat × Nat)) (d g : Nat) (v : Value) : Prop :=
  (D.contains d = true ∧ L.lookup d = none ∧ v = .pointer (some ⟨g, 0, none⟩)) ∨ ∃ n, L.lookup d = some n ∧ D.contains d = false ∧ v = .slice (some ⟨g, 0, none⟩) n n
/-- The frame shows the state; since the call began ('μ0', 'h0', 'w0') the memory has come as it is. -/
structure Rel (N : Nat) (D : List Nat) (E L : List (Nat × Nat)) (μ0 : Map) (h0 : Heap) (w0 : World) (lam : Nat → Nat) (μ : Map) (s : St) (a : Act) (w : World) : Prop where
  rt : RelT N μ s a
  hr : HRel μ s.h w
  to : To μ0 h0 w0 μ s.h w
  loc : ∀ d cs, s.loc d = some cs → w0.heap.size ≤ lam d ∧ lam d < w.heap.size ∧ ¬ In μ s.h (lam d) ∧ (∃ cur e, w.heap[lam d]? = some (.cells cur e (0, 0)) ∧ All2 (VR1 μ s.h) cs cur.toList) ∧ LocOk D L d (lam d) (a.tmps.getD d undef)
  locs : ∀ d d' cs cs', s.loc d = some cs → s.loc d' = some cs' → d ≠ d' → lam d ≠ lam d'
  al : ∀ e d off, s.al e = some (d, off) → (s.loc d).isSome = true → E.lookup e = some d ∧ D.contains e = false ∧ (L.lookup e).isNone = true ∧ D.contains d = true ∧ a.tmps.getD e undef = .pointer (some ⟨lam d, off, none⟩)
  alD : ∀ e d off, s.al e = some (d, off) → D.contains d = true
  dfr : a.defers = []
section
variable {P : Program} {N : Nat} {D : List Nat} {E L : List (Nat × Nat)} {μ0 : Map} {h0 : Heap} {w0 : World} {lam : Nat → Nat} {μ : Map} {s : St} {a : Act} {w : World} {o : Oper} {v : Value} {h' : Heap}
theorem tmps_put (a : Act) (d : Nat) (v : Value) (hd : d < a.tmps.size) (i : Nat) : (a.put (some d) v).tmps.getD i undef = if i = d then v else a.tmps.getD i undef := by
  simp only [Act.put, Array.getD_eq_getD_getElem?, Array.getElem?_setIfInBounds]
  by_cases e : i = d
  · subst e; simp [hd]
  · rw [if_neg (fun h => e h.symm), if_neg e]
theorem RelT.put {μ' : Map} (R : RelT N μ s a) (up : Up μ s.h μ' h') {d : Nat} (hd : d < N) {v' : Value} (k : VR μ' h' v v') : RelT N μ' { s.put (some d) v with h := h' } (a.put (some d) v') := by
  have hs : d < a.tmps.size := by rw [R.size]; exact hd
  refine ⟨by simp [Act.put, R.size], fun i => ?_⟩
  rw [tmps_put a d v' hs]
  show VR μ' h' (upd s.t d v i) _
  by_cases e : i = d
  · subst e; rw [upd_same, if_pos rfl]; exact k
  · rw [upd_ne _ _ e, if_neg e]; exact (R.t i).up up
theorem RelT.same {μ' : Map} {t : Nat → Value} (R : RelT N μ s a) (up : Up μ s.h μ' h') (ht : t = s.t) {lc : Nat → Option (List Value)} {al : Nat → Option (Nat × Nat)} : RelT N μ' ⟨t, lc, al, h'⟩ a :=
  ⟨R.size, fun i => by subst ht; exact (R.t i).up up⟩
/-- The own stores are as they were, where the memory has taken a step. -/
theorem Rel.locStep {μ' : Map} {w' : World} (R : Rel N D E L μ0 h0 w0 lam μ s a w) (T : To μ s.h w μ' h' w') {d : Nat} {cs : List Value} (hd : s.loc d = some cs) :
    w0.heap.size ≤ lam d ∧ lam d < w'.heap.size ∧ ¬ In μ' h' (lam d) ∧ (∃ cur e, w'.heap[lam d]? = some (.cells cur e (0, 0)) ∧ All2 (VR1 μ' h') cs cur.toList) ∧ LocOk D L d (lam d) (a.tmps.getD d undef) := by
  obtain ⟨h1, h2, h3, ⟨cur, e, h4, h5⟩, h6⟩ := R.loc d cs hd
  refine ⟨h1, Nat.lt_of_lt_of_le h2 T.frame.size, fun hm => ?_, ⟨cur, e, ?_, h5.imp fun _ _ k => k.up T.up⟩, h6⟩
  · rcases T.ins _ hm with h | h
    · omega
    · exact h3 h
  · rw [T.frame.block _ h2 (fun ⟨b, blk, q1, _, q2⟩ => h3 ⟨b, blk, q1, q2⟩)]; exact h4
theorem plain_spec {d : Nat} (h : plain D E L d = true) : D.contains d = false ∧ E.lookup d = none ∧ L.lookup d = none := by
  simp only [plain, Bool.and_eq_true, Bool.not_eq_true', Option.isNone_iff_eq_none] at h
  exact ⟨h.1.1, h.1.2, h.2⟩
theorem LocOk.ne_plain {d e g : Nat} {v : Value} (h : LocOk D L d g v) (hp : plain D E L e = true) : d ≠ e := by
  rintro rfl
  obtain ⟨h1, _, h3⟩ := plain_spec hp
  rcases h with ⟨h, _⟩ | ⟨n, h, _⟩
  · rw [h1] at h; cases h
  · rw [h3] at h; cases h
/-- A common slot is laid. -/
theorem Rel.put {μ' : Map} {w' : World} {v' : Value} {d : Nat} (R : Rel N D E L μ0 h0 w0 lam μ s a w) (hp : plain D E L d = true) (hd : d < N) (k : VR μ' h' v v') (H : HRel μ' h' w') (T : To μ s.h w μ' h' w') :
    Rel N D E L μ0 h0 w0 lam μ' { s.put (some d) v with h := h' } (a.put (some d) v') w' := by
  have hs : d < a.tmps.size := by rw [R.rt.size]; exact hd
  refine ⟨R.rt.put T.up hd k, H, R.to.trans T, fun d' cs hl => ?_, R.locs, fun e d' off he hl => ?_, R.alD, R.dfr⟩
  · have h1 := R.locStep T hl
    have hne := h1.2.2.2.2.ne_plain hp
    rw [tmps_put a d v' hs, if_neg hne]
    exact h1
  · obtain ⟨h1, h2, h3, h4, h5⟩ := R.al e d' off he hl
    refine ⟨h1, h2, h3, h4, ?_⟩
    have hne : e ≠ d := by
      rintro rfl
      rw [(plain_spec hp).2.1] at h1
      cases h1
    rw [tmps_put a d v' hs, if_neg hne]
    exact h5
/-- No slot is laid, the memory takes a step. -/
theorem Rel.mem {μ' : Map} {w' : World} (R : Rel N D E L μ0 h0 w0 lam μ s a w) (H : HRel μ' h' w') (T : To μ s.h w μ' h' w') :
    Rel N D E L μ0 h0 w0 lam μ' { s with h := h' } a w' :=
  ⟨R.rt.same T.up rfl, H, R.to.trans T, fun d' cs hl => R.locStep T hl, R.locs, R.al, R.alD, R.dfr⟩
/-- An own store's cells, where the memory has not turned. -/
theorem Rel.locCells (R : Rel N D E L μ0 h0 w0 lam μ s a w) {d : Nat} {cs : List Value} (hd : s.loc d = some cs) {off n : Nat} (hn : off + n ≤ cs.length) :
    ∃ ys : List Value, All2 (VR1 μ s.h) ((cs.drop off).take n) ys ∧ ∀ j v', ys[j]? = some v' → w.cell? ((⟨lam d, off, none⟩ : Addr).add j) = some v' := by
  obtain ⟨h1, h2, h3, ⟨cur, e, h4, h5⟩, h6⟩ := R.loc d cs hd
  refine ⟨(cur.toList.drop off).take n, (h5.drop off).take n, fun j v' hj => ?_⟩
  rw [Addr.add_lit, cell_of_row h4]
  rw [List.getElem?_take] at hj
  split at hj
  · rw [List.getElem?_drop] at hj
    simpa using hj
  · cases hj
theorem ok_ldLoc {x d : Nat} {ty : TypeId} {off n : Nat} {agg : Bool} {cs : List Value} {u : Value} (R : Rel N D E L μ0 h0 w0 lam μ s a w) (ho : o.op = .load ty (.tmp x)) (hx : a.tmps.getD x undef = .pointer (some ⟨lam d, off, none⟩)) (ht : rowOf P ty = some (n, agg)) (hd : s.loc d = some cs)
    (hn : off + n ≤ cs.length) (hu : ofCells agg ((cs.drop off).take n) = some u) : Out P μ s.h w o a u s.h := by
  obtain ⟨ys, k, hc⟩ := R.locCells hd hn
  obtain ⟨u', h1, h2⟩ := run_loadVar (P := P) (w := w) ht _ (by simp; omega) k hc hu
  refine Out.pure (v' := u') ?_ h2 R.hr
  have he : a.eval (.tmp x) = .pointer (some ⟨lam d, off, none⟩) := hx
  simp [execOp, ho, Instr.loadAt, Instr.sureAddr, he, h1]
/-- A world that differs outside of the memory alone. -/
theorem HRel.other {w' : World} {g : Nat} (H : HRel μ s.h w) (hg : ¬ In μ s.h g) (hr : ∀ j, j ≠ g → j < w.heap.size → w'.heap[j]? = w.heap[j]?) (hs : w.heap.size ≤ w'.heap.size) : HRel μ s.h w' := by
  have ne : ∀ b blk, s.h[b]? = some blk → (μ b).g ≠ g := fun b blk hb e => hg ⟨b, blk, hb, e⟩
  exact ⟨fun b blk hb i v hv => by
      obtain ⟨v', h1, h2⟩ := H.cell b blk hb i v hv
      exact ⟨v', by rw [cell_of_same (hr _ (ne b blk hb) (H.lt b blk hb))]; exact h1, h2⟩,
    H.pos, fun b blk hb => Nat.lt_of_lt_of_le (H.lt b blk hb) hs, fun b blk hb ho => by
      obtain ⟨h1, cur, h2, h3, h4⟩ := H.own b blk hb ho
      exact ⟨h1, cur, by rw [hr _ (ne b blk hb) (H.lt b blk hb)]; exact h2, h3, h4⟩, H.sep⟩
/-- An own store is written. -/
theorem Rel.setLoc {w' : World} {d : Nat} {cs cs' : List Value} {new : Array Value} {e : TypeId} (R : Rel N D E L μ0 h0 w0 lam μ s a w) (hd : s.loc d = some cs)
    (hw : w'.heap[lam d]? = some (.cells new e (0, 0))) (hr : ∀ j, j ≠ lam d → w'.heap[j]? = w.heap[j]?) (hs : w'.heap.size = w.heap.size) (os : w'.os = w.os) (tape : w'.tape = w.tape) (out : w'.output = w.output) (k : All2 (VR1 μ s.h) cs' new.toList) :
    Rel N D E L μ0 h0 w0 lam μ { s with loc := upd s.loc d (some cs') } a w' := by
  obtain ⟨l1, l2, l3, _, l5⟩ := R.loc d cs hd
  refine ⟨⟨R.rt.size, R.rt.t⟩, R.hr.other l3 (fun j hj _ => hr j hj) (Nat.le_of_eq hs.symm), ⟨R.to.up, ⟨os.trans R.to.frame.os, tape.trans R.to.frame.tape, out.trans R.to.frame.output, by rw [hs]; exact R.to.frame.size, fun j hj hm => ?_⟩, R.to.keeps, R.to.ins⟩, fun d' cs2 hl => ?_, fun d1 d2 c1 c2 h1 h2 hne => ?_, fun e' d' off he hl => ?_, R.alD, R.dfr⟩
  · rw [hr j (by omega)]; exact R.to.frame.block j hj hm
  · by_cases e' : d' = d
    · subst e'
      simp only [upd_same, Option.some.injEq] at hl
      subst hl
      exact ⟨l1, by rw [hs]; exact l2, l3, ⟨new, e, hw, k⟩, l5⟩
    · simp only [upd_ne _ _ e'] at hl
      obtain ⟨g1, g2, g3, ⟨cur, e2, g4, g5⟩, g6⟩ := R.loc d' cs2 hl
      exact ⟨g1, by rw [hs]; exact g2, g3, ⟨cur, e2, by rw [hr _ (R.locs d' d cs2 cs hl hd e')]; exact g4, g5⟩, g6⟩
  · have q1 : ∃ c, s.loc d1 = some c := by
      by_cases e' : d1 = d
      · subst e'; exact ⟨cs, hd⟩
      · simp only [upd_ne _ _ e'] at h1; exact ⟨c1, h1⟩
    have q2 : ∃ c, s.loc d2 = some c := by
      by_cases e' : d2 = d
      · subst e'; exact ⟨cs, hd⟩
      · simp only [upd_ne _ _ e'] at h2; exact ⟨c2, h2⟩
    obtain ⟨x1, q1⟩ := q1
    obtain ⟨x2, q2⟩ := q2
    exact R.locs d1 d2 x1 x2 q1 q2 hne
  · refine R.al e' d' off he ?_
    by_cases e2 : d' = d
    · subst e2; rw [hd]; rfl
    · simp only [upd_ne _ _ e2] at hl; exact hl
theorem run_storeLoc {t : TypeId} {i : TypeInfo} {g off n : Nat} {cur : Array Value} {e : TypeId} {u : Value} {ys : List Value} (hi : P.info? t = some i) (hin : i.size = n) (hu : u.cells = ⟨ys⟩) (hl : ys.length = n) (h1 : ∀ y ∈ ys, y.oneCell' = true) (hg : w.heap[g]? = some (.cells cur e (0, 0))) (hfit : off + n ≤ cur.size) :
    (storeVar t ⟨g, off, none⟩ u).run P w = .ok () (w.setRow g ⟨Ab.putAt cur.toList off ys⟩) := by
  have hst := run_storeCells_at P g off e ys 0 cur w hg (by simp; omega) h1
  simp only [Nat.add_zero] at hst
  have hsz : u.cells.size = i.size := by rw [hu]; simp [hl, hin]
  have hul : u.cells.toList = ys := by rw [hu]
  simp [storeVar, run_sizeOf hi, hsz, hul, hst, Ab.putAt]
theorem VR1.ones {h : Heap} {xs ys : List Value} (k : All2 (VR1 μ h) xs ys) : ∀ y ∈ ys, y.oneCell' = true := fun y hy => by
  obtain ⟨j, hj⟩ := List.mem_iff_getElem?.1 hy
  obtain ⟨hj1, _⟩ := List.getElem?_eq_some_iff.1 hj
  exact (k.2 j _ y (List.getElem?_eq_getElem (by rw [k.1]; exact hj1)) hj).oneCell
/-- A store into an own box. -/
theorem Rel.stLoc {t : TypeId} {x d : Nat} {vo : Operand} {vo' : Opd} {off n : Nat} {agg : Bool} {i : TypeInfo} {cs vs : List Value} (R : Rel N D E L μ0 h0 w0 lam μ s a w) (ho : o.op = .store t (.tmp x) vo) (hv : opd vo = some vo') (hx : a.tmps.getD x undef = .pointer (some ⟨lam d, off, none⟩)) (hi : P.info? t = some i) (hin : i.size = n)
    (hd : s.loc d = some cs) (hvs : cellsOf (s.val vo') = some vs) (hl : vs.length = n) (hn : off + n ≤ cs.length) :
    ∃ w', (execOp a.eval o).run P w = .ok .skip w' ∧ Rel N D E L μ0 h0 w0 lam μ { s with loc := upd s.loc d (some (putAt cs off vs)) } a w' := by
  obtain ⟨l1, l2, l3, ⟨cur, e, l4, l5⟩, l6⟩ := R.loc d cs hd
  obtain ⟨ys, e1, e2⟩ := (eval_opd R.rt hv).cells hvs
  have hcl : cs.length = cur.size := by rw [l5.1, Array.length_toList]
  have hrun := run_storeLoc (P := P) (w := w) (off := off) hi hin e1 (by rw [← e2.1, hl]) (VR1.ones e2) l4 (by omega)
  refine ⟨w.setRow (lam d) ⟨Ab.putAt cur.toList off ys⟩, ?_, R.setLoc hd (setRow_heap w _ cur _ e _ l4) (fun j hj => setRow_other w _ j _ hj) (by simp [World.setRow]) rfl rfl rfl (l5.putAt e2 off)⟩
  have he : a.eval (.tmp x) = .pointer (some ⟨lam d, off, none⟩) := hx
  simp [execOp, ho, Instr.storeAt, Instr.sureAddr, he, hrun]
end
end Go.Proofs.YthfeahanmbmjhaaGreatDoor.Ab
