/- What the machine does at an operation is what the small language says: operations that only reckon or read. No conditions. -/
import Derived.Test.YtlndlccbecnjoaaAb4
import Derived.Laws.Small
import Derived.Laws.StructEq
import Derived.Deep.Slices
namespace Go.Proofs.Ytlndlccbecnjoaa.Ab
set_option linter.unusedSimpArgs false
set_option linter.unusedVariables false
set_option linter.unnecessarySimpa false
open Go.RowKit

/-- The machine's answer to a value operation fits. -/
def Out (P : Program) (μ : Map) (h : Heap) (w : World) (o : Oper) (a : Act) (v : Value) (h' : Heap) : Prop :=
  ∃ v' w' μ', (execOp a.eval o).run P w = .ok (.value v') w' ∧ VR μ' h' v v' ∧ HRel μ' h' w' ∧ To μ h w μ' h' w'

section
variable {P : Program} {N : Nat} {D E : List Nat} {μ : Map} {s : St} {a : Act} {w : World} {o : Oper} {v : Value} {h' : Heap}

theorem Out.pure {v' : Value} (hr : (execOp a.eval o).run P w = .ok (.value v') w) (k : VR μ s.h v v') (H : HRel μ s.h w) : Out P μ s.h w o a v s.h := ⟨v', w, μ, hr, k, H, To.refl _ _ _⟩

theorem VR.mk_bool {h : Heap} {b : Bool} : VR μ h (.bool b) (.bool b) := VR.of_prim rfl
theorem VR.mk_int {h : Heap} {k : IntKind} {n : Int} : VR μ h (.int k n) (.int k n) := VR.of_prim rfl
theorem VR.mk_string {h : Heap} {b : ByteArray} : VR μ h (.string b) (.string b) := VR.of_prim rfl

theorem ok_move {x : Operand} {y : Opd} (R : RelT N μ s a) (H : HRel μ s.h w) (ho : o.op = .move x ∨ o.op = .assign x) (hx : opd x = some y) (hr : (MI.mov y).run s = some (v, h')) : Out P μ s.h w o a v h' := by
  simp only [MI.run, Option.some.injEq, Prod.mk.injEq] at hr
  obtain ⟨rfl, rfl⟩ := hr
  refine Out.pure (v' := a.eval x) ?_ (eval_opd R hx) H
  rcases ho with ho | ho <;> simp [execOp, ho]

theorem ok_pick {c x y : Operand} {c' x' y' : Opd} (R : RelT N μ s a) (H : HRel μ s.h w) (ho : o.op = .pick c x y) (hc : opd c = some c') (hx : opd x = some x') (hy : opd y = some y') (hr : (MI.pick c' x' y').run s = some (v, h')) : Out P μ s.h w o a v h' := by
  simp only [MI.run] at hr
  split at hr
  · rename_i b hb
    simp only [Option.some.injEq, Prod.mk.injEq] at hr
    obtain ⟨rfl, rfl⟩ := hr
    have hcv := eval_opd R hc
    rw [hb] at hcv
    refine Out.pure (v' := if b = true then a.eval x else a.eval y) ?_ ?_ H
    · simp [execOp, ho, hcv.bool, asBool]
    · cases b
      · exact eval_opd R hy
      · exact eval_opd R hx
  · cases hr

theorem ok_conv {x : Operand} {y : Opd} {t t' : TypeId} {k k0 : IntKind} (R : RelT N μ s a) (H : HRel μ s.h w) (ho : o.op = .convert t t' x) (ht : P.underlying t = some (.int k0)) (ht' : P.underlying t' = some (.int k)) (hx : opd x = some y) (hr : (MI.conv k y).run s = some (v, h')) : Out P μ s.h w o a v h' := by
  simp only [MI.run] at hr
  split at hr
  · rename_i k1 n hb
    simp only [Option.some.injEq, Prod.mk.injEq] at hr
    obtain ⟨rfl, rfl⟩ := hr
    have hcv := eval_opd R hx
    rw [hb] at hcv
    refine Out.pure (v' := .int k (k.wrap n)) ?_ VR.mk_int H
    simp [execOp, ho, hcv.int, convert, run_underlying ht, run_underlying ht', Conv.intToInt]
  · cases hr

theorem ok_convS {x : Operand} {y : Opd} {t t' : TypeId} (R : RelT N μ s a) (H : HRel μ s.h w) (ho : o.op = .convert t t' x) (ht : P.underlying t = some .string) (ht' : P.underlying t' = some .string) (hx : opd x = some y) (hs : ∃ b, s.val y = .string b) (hr : (MI.mov y).run s = some (v, h')) : Out P μ s.h w o a v h' := by
  simp only [MI.run, Option.some.injEq, Prod.mk.injEq] at hr
  obtain ⟨rfl, rfl⟩ := hr
  obtain ⟨b, hb⟩ := hs
  have hcv := eval_opd R hx
  rw [hb] at hcv ⊢
  refine Out.pure (v' := .string b) ?_ VR.mk_string H
  simp [execOp, ho, hcv.string, convert, run_underlying ht, run_underlying ht']

theorem ok_un {x : Operand} {y : Opd} {op : UnOp} {t : TypeId} (R : RelT N μ s a) (H : HRel μ s.h w) (ho : o.op = .unOp op t x) (hx : opd x = some y) (hr : (MI.un op y).run s = some (v, h')) : Out P μ s.h w o a v h' := by
  simp only [MI.run, Option.map_eq_some_iff, Prod.mk.injEq] at hr
  obtain ⟨u, hu, rfl, rfl⟩ := hr
  have hcv := eval_opd R hx
  unfold unV at hu
  split at hu
  · rename_i b hb
    cases hu
    rw [hb] at hcv
    exact Out.pure (v' := .bool !b) (by simp [execOp, ho, hcv.bool, Op.unary]) VR.mk_bool H
  · rename_i k n hb
    cases hu
    rw [hb] at hcv
    exact Out.pure (v' := .int k (k.wrap (0 - n))) (by simp [execOp, ho, hcv.int, Op.unary, Op.intArith]) VR.mk_int H
  · cases hu

theorem ok_ext {x : Operand} {y : Opd} {i : Nat} (R : RelT N μ s a) (H : HRel μ s.h w) (ho : o.op = .extract x i) (hx : opd x = some y) (hr : (MI.ext i y).run s = some (v, h')) : Out P μ s.h w o a v h' := by
  simp only [MI.run] at hr
  split at hr
  · rename_i xs hb
    simp only [Option.map_eq_some_iff, Prod.mk.injEq] at hr
    obtain ⟨u, hu, rfl, rfl⟩ := hr
    have hcv := eval_opd R hx
    rw [hb] at hcv
    rcases hcv.tup' with rfl | ⟨ys, hy, k⟩
    · simp at hu
    · obtain ⟨z, hz, kz⟩ := k.get (by simpa using hu)
      refine Out.pure (v' := z) ?_ (.val _ _ kz) H
      simp [execOp, ho, hy, Instr.extract, hz]
  · cases hr

theorem ldC_some {h : Heap} {p : Value} {n : Nat} {cs : List Value} (hr : ldC h p n = some cs) : ∃ b off blk, p = .pointer (some ⟨b, off, some blk.cells.length⟩) ∧ h[b]? = some blk ∧ off + n ≤ blk.cells.length ∧ cs = (blk.cells.drop off).take n := by
  unfold ldC at hr
  split at hr
  · rename_i b off L
    split at hr
    · rename_i blk hb
      split at hr
      · rename_i hc
        obtain ⟨rfl, hc⟩ := hc
        cases hr
        exact ⟨b, off, blk, rfl, hb, hc, rfl⟩
      · cases hr
    · cases hr
  · cases hr

theorem ok_chk {x : Operand} {y : Opd} (R : RelT N μ s a) (H : HRel μ s.h w) (ho : o.op = .nilCheck x) (hx : opd x = some y) (hr : (MI.chk y).run s = some (v, h')) : Out P μ s.h w o a v h' := by
  simp only [MI.run, Option.map_eq_some_iff, Prod.mk.injEq] at hr
  obtain ⟨u, hu, rfl, rfl⟩ := hr
  obtain ⟨b, off, blk, hp, hb, _, _⟩ := ldC_some hu
  have hcv := eval_opd R hx
  have hcv' := hcv
  rw [hp] at hcv'
  have e := hcv'.ptr' hb rfl
  refine Out.pure (v' := a.eval x) ?_ hcv H
  simp [execOp, ho, e]

theorem ok_mm {x y : Operand} {x' y' : Opd} {ts : Array TypeId} {isMax : Bool} (R : RelT N μ s a) (H : HRel μ s.h w)
    (ho : o.op = .call { callee := .builtin (if isMax = true then .max else .min), args := #[x, y], argTypes := ts }) (hx : opd x = some x') (hy : opd y = some y') (hr : (MI.mm isMax x' y').run s = some (v, h')) : Out P μ s.h w o a v h' := by
  simp only [MI.run] at hr
  split at hr
  · rename_i k p k' q hb hq
    simp only [Option.some.injEq, Prod.mk.injEq] at hr
    obtain ⟨rfl, rfl⟩ := hr
    have h1 := eval_opd R hx
    have h2 := eval_opd R hy
    rw [hb] at h1
    rw [hq] at h2
    cases isMax with
    | true =>
      refine Out.pure (v' := .int k (if q > p then q else p)) ?_ VR.mk_int H
      simp only [if_true] at ho
      simp [execOp, ho, resolve, invoke, builtin, h1.int, h2.int, Builtin.max_, Builtin.max2]
    | false =>
      refine Out.pure (v' := .int k (if q < p then q else p)) ?_ VR.mk_int H
      simp only [Bool.false_eq_true, if_false] at ho
      simp [execOp, ho, resolve, invoke, builtin, h1.int, h2.int, Builtin.min_, Builtin.min2]
  · cases hr

theorem ok_lenS {x : Operand} {y : Opd} {t : TypeId} (R : RelT N μ s a) (H : HRel μ s.h w) (ho : o.op = .call { callee := .builtin .len, args := #[x], argTypes := #[t] }) (hx : opd x = some y)
    (ht : P.underlying t = some .string) (hr : (MI.lnS y).run s = some (v, h')) : Out P μ s.h w o a v h' := by
  simp only [MI.run] at hr
  have hcv := eval_opd R hx
  split at hr
  · rename_i b hb
    simp only [Option.some.injEq, Prod.mk.injEq] at hr
    obtain ⟨rfl, rfl⟩ := hr
    rw [hb] at hcv
    refine Out.pure (v' := .int .i64 b.size) ?_ VR.mk_int H
    simp [execOp, ho, resolve, invoke, builtin, hcv.string, Builtin.len_, run_underlying ht, goInt]
  · cases hr

theorem ok_len {x : Operand} {y : Opd} {t e : TypeId} (R : RelT N μ s a) (H : HRel μ s.h w) (ho : o.op = .call { callee := .builtin .len, args := #[x], argTypes := #[t] }) (hx : opd x = some y)
    (ht : P.underlying t = some (.slice e)) (hr : (MI.ln y).run s = some (v, h')) : Out P μ s.h w o a v h' := by
  simp only [MI.run, Option.map_eq_some_iff, Prod.mk.injEq] at hr
  obtain ⟨u, hu, rfl, rfl⟩ := hr
  have hcv := eval_opd R hx
  unfold lnV at hu
  split at hu
  · rename_i hb
    cases hu
    rw [hb] at hcv
    refine Out.pure (v' := .int .i64 0) ?_ VR.mk_int H
    rcases hcv.sliceNil with hv | ⟨A, hv⟩ <;> simp [execOp, ho, resolve, invoke, builtin, hv, Builtin.len_, run_underlying ht, goInt]
  · rename_i b off n cap hb
    split at hu
    · rename_i blk hblk
      split at hu
      · rename_i hval
        cases hu
        rw [hb] at hcv
        obtain ⟨A, c, hA, _⟩ := (hcv.slice' hblk).2.2 hval
        refine Out.pure (v' := .int .i64 n) ?_ VR.mk_int H
        simp [execOp, ho, resolve, invoke, builtin, hA, Builtin.len_, run_underlying ht, goInt]
      · cases hu
    · cases hu
  · cases hu

theorem ok_bin {x y : Operand} {x' y' : Opd} {op : BinOp} {t t' : TypeId} (R : RelT N μ s a) (H : HRel μ s.h w) (ho : o.op = .binOp op t x y t') (hx : opd x = some x') (hy : opd y = some y') (hr : (MI.bin op x' y').run s = some (v, h')) : Out P μ s.h w o a v h' := by
  simp only [MI.run, Option.map_eq_some_iff, Prod.mk.injEq] at hr
  obtain ⟨u, hu, rfl, rfl⟩ := hr
  have h1 := eval_opd R hx
  have h2 := eval_opd R hy
  unfold binV at hu
  split at hu
  · rename_i k p k' q hb hq
    rw [hb] at h1
    rw [hq] at h2
    have g1 := h1.int
    have g2 := h2.int
    cases op <;> simp only [Option.ite_none_left_eq_some, Option.ite_none_right_eq_some, Option.some.injEq, reduceCtorEq] at hu
    all_goals first
      | (obtain ⟨hc, rfl⟩ := hu; exact Out.pure (by simp [execOp, ho, g1, g2, eqGuard, binOp, hc, Op.shift, Op.intArith, Op.intDiv, Op.intBits, Op.intCmp]; try rfl) (VR.of_prim rfl) H)
      | skip
  · rename_i p q hb hq
    rw [hb] at h1
    rw [hq] at h2
    have g1 := h1.string
    have g2 := h2.string
    cases op <;> simp only [Option.ite_none_left_eq_some, Option.ite_none_right_eq_some, Option.some.injEq, reduceCtorEq] at hu
    all_goals first
      | (subst hu; exact Out.pure (by simp [execOp, ho, g1, g2, eqGuard, binOp, Op.stringOp]; try rfl) (VR.of_prim rfl) H)
      | skip
    obtain ⟨hc, rfl⟩ := hu
    refine Out.pure (v' := .string (p ++ q)) ?_ (VR.of_prim rfl) H
    have hle : ¬ ((p.size + q.size : Nat) : Int) > IntKind.i64.max := by simp [IntKind.max, IntKind.signed, IntKind.bits]; omega
    simp only [execOp, ho, g1, g2, binOp, Op.stringOp, if_neg hle]
    simp [eqGuard]
  · cases hu

theorem ok_binB {x y : Operand} {x' y' : Opd} {op : BinOp} {t t' : TypeId} (R : RelT N μ s a) (H : HRel μ s.h w) (ho : o.op = .binOp op t x y t') (ht : P.underlying t = some .bool) (hx : opd x = some x') (hy : opd y = some y') (hr : (MI.binB op x' y').run s = some (v, h')) : Out P μ s.h w o a v h' := by
  simp only [MI.run, Option.map_eq_some_iff, Prod.mk.injEq] at hr
  obtain ⟨u, hu, rfl, rfl⟩ := hr
  have h1 := eval_opd R hx
  have h2 := eval_opd R hy
  unfold binBV at hu
  split at hu
  · rename_i p q hb hq
    rw [hb] at h1
    rw [hq] at h2
    have g1 := h1.bool
    have g2 := h2.bool
    cases op <;> simp only [Option.some.injEq, reduceCtorEq] at hu
    all_goals (subst hu; exact Out.pure (by simp [execOp, ho, g1, g2, eqGuard, run_eql_bool, run_neq_bool, ht]) (VR.of_prim rfl) H)
  · cases hu

/-! Reads of memory. -/
theorem All2.of_cells {b : Nat} {blk : Blk} (H : HRel μ s.h w) (hb : s.h[b]? = some blk) {off n : Nat} (hn : off + n ≤ blk.cells.length) :
    ∃ ys : List Value, All2 (VR1 μ s.h) ((blk.cells.drop off).take n) ys ∧ ∀ j v', ys[j]? = some v' → w.cell? ((⟨(μ b).g, (μ b).o + off, none⟩ : Addr).add j) = some v' := by
  have each : ∀ j, j < n → ∃ v', w.cell? ⟨(μ b).g, (μ b).o + (off + j), none⟩ = some v' ∧ ∀ x, blk.cells[off + j]? = some x → VR1 μ s.h x v' := by
    intro j hj
    obtain ⟨v', h1, h2⟩ := H.cell b blk hb (off + j) _ (List.getElem?_eq_getElem (by omega))
    exact ⟨v', h1, fun x hx => by rw [List.getElem?_eq_getElem (by omega)] at hx; cases hx; exact h2⟩
  refine ⟨(List.range n).map fun j => if hj : j < n then Classical.choose (each j hj) else undef, ⟨by simp; omega, fun i x y hx hy => ?_⟩, fun j v' hv => ?_⟩
  · rw [List.getElem?_take, List.getElem?_drop] at hx
    split at hx
    · rename_i hi
      simp only [List.getElem?_map, List.getElem?_range hi, Option.map_some, dif_pos hi, Option.some.injEq] at hy
      subst hy
      exact (Classical.choose_spec (each i hi)).2 x hx
    · cases hx
  · have hj : j < n := by
      have := (List.getElem?_eq_some_iff.1 hv).1
      simpa using this
    simp only [List.getElem?_map, List.getElem?_range hj, Option.map_some, dif_pos hj, Option.some.injEq] at hv
    subst hv
    have := (Classical.choose_spec (each j hj)).1
    rw [Addr.add_lit, Nat.add_assoc]
    exact this

/-- What a type's row is in the machine. -/
theorem rowOf_spec {t : TypeId} {n : Nat} {agg : Bool} (h : rowOf P t = some (n, agg)) : ∃ d i, P.underlying t = some d ∧ P.info? t = some i ∧ i.size = n ∧
    ((agg = true ∧ ∃ fs, d = .struct fs) ∨ (agg = false ∧ n = 1 ∧ (∀ fs, d ≠ .struct fs) ∧ ∀ k e, d ≠ .array k e)) := by
  unfold rowOf at h
  split at h
  · rename_i d hd
    split at h
    · rename_i i ha hi
      cases h
      refine ⟨d, i, hd, hi, rfl, .inl ⟨rfl, ?_⟩⟩
      cases d <;> simp [descAgg] at ha
      exact ⟨_, rfl⟩
    · rename_i i ha hi
      split at h
      · rename_i h1
        cases h
        refine ⟨d, i, hd, hi, h1, .inr ⟨rfl, rfl, ?_, ?_⟩⟩
        · rintro fs rfl; simp [descAgg] at ha
        · rintro k e rfl; simp [descAgg] at ha
      · cases h
    · cases h
  · cases h

theorem run_isAgg {t : TypeId} {n : Nat} {agg : Bool} (h : rowOf P t = some (n, agg)) (w : World) : (isAgg t).run P w = .ok agg w := by
  obtain ⟨d, i, hd, hi, hn, h | ⟨rfl, _, h1, h2⟩⟩ := rowOf_spec h
  · obtain ⟨rfl, fs, rfl⟩ := h
    simp [isAgg, run_underlying hd]
  · simp only [isAgg, Sem.run_bind, run_underlying hd, Result.andThen_ok]
    rfl

theorem run_sizeOf {t : TypeId} {i : TypeInfo} (h : P.info? t = some i) (w : World) : (sizeOf t).run P w = .ok i.size w := by simp [sizeOf, typeInfo, h]

/-- A load, from cells that are there. -/
theorem run_loadVar {t : TypeId} {n : Nat} {agg : Bool} (h : rowOf P t = some (n, agg)) (A : Addr) {xs ys : List Value} {u : Value} (hl : xs.length = n) (k : All2 (VR1 μ s.h) xs ys) (hc : ∀ j v', ys[j]? = some v' → w.cell? (A.add j) = some v') (hu : ofCells agg xs = some u) :
    ∃ u', (loadVar t A).run P w = .ok u' w ∧ VR μ s.h u u' := by
  obtain ⟨d, i, hd, hi, hn, _⟩ := rowOf_spec h
  rcases VR.ofCells k hu with ⟨rfl, hv⟩ | ⟨rfl, y, rfl, hv⟩
  · refine ⟨_, ?_, hv⟩
    have hy : ys.length = i.size := by rw [← k.1, hl, hn]
    have := run_loadCells_list (P := P) w A ys hc
    rw [hy] at this
    simp only [loadVar, Sem.run_bind, run_isAgg h, Result.andThen_ok, if_true, run_sizeOf hi, this, Sem.run_pure]
  · refine ⟨y, ?_, hv⟩
    have hA : w.cell? A = some y := by
      have := hc 0 y rfl
      simpa [Addr.add] using this
    simp only [loadVar, Sem.run_bind, run_isAgg h, Result.andThen_ok, Bool.false_eq_true, if_false]
    simp [load, Sem.run, hA]

theorem ok_ld {x : Operand} {y : Opd} {t : TypeId} {n : Nat} {agg : Bool} (R : RelT N μ s a) (H : HRel μ s.h w) (ho : o.op = .load t x) (hx : opd x = some y) (ht : rowOf P t = some (n, agg)) (hr : (MI.ld n agg y).run s = some (v, h')) : Out P μ s.h w o a v h' := by
  simp only [MI.run, Option.map_eq_some_iff, Option.bind_eq_some_iff, Prod.mk.injEq] at hr
  obtain ⟨u, ⟨cs, hcs, hu⟩, rfl, rfl⟩ := hr
  obtain ⟨b, off, blk, hp, hb, hn, rfl⟩ := ldC_some hcs
  have hcv := eval_opd R hx
  rw [hp] at hcv
  have e := hcv.ptr' hb rfl
  obtain ⟨ys, k, hc⟩ := All2.of_cells H hb hn
  obtain ⟨u', h1, h2⟩ := run_loadVar (P := P) (w := w) ht _ (by simp; omega) k hc hu
  refine Out.pure (v' := u') ?_ h2 H
  simp [execOp, ho, Instr.loadAt, Instr.sureAddr, e, h1]

theorem fieldOf_spec {t : TypeId} {f off n : Nat} {agg : Bool} (h : fieldOf P t f = some (off, n, agg)) : ∃ fs fd i, P.underlying t = some (.struct fs) ∧ fs[f]? = some fd ∧ fd.offset = off ∧ rowOf P fd.type = some (n, agg) ∧ P.info? fd.type = some i ∧ i.size = n ∧ n ≠ 0 := by
  unfold fieldOf at h
  split at h
  · rename_i fs hfs
    split at h
    · rename_i fd hfd
      split at h
      · rename_i n' agg' i hro hi
        split at h
        · cases h
        · rename_i hc
          cases h
          refine ⟨fs, fd, i, hfs, hfd, rfl, hro, hi, ?_, ?_⟩
          · exact Classical.byContradiction fun e => hc (.inr e)
          · exact fun e => hc (.inl e)
      · cases h
    · cases h
  · cases h

theorem ok_fa {x : Operand} {y : Opd} {t : TypeId} {f off n : Nat} {agg : Bool} (R : RelT N μ s a) (H : HRel μ s.h w) (ho : o.op = .fieldAddr t x f) (hx : opd x = some y) (ht : fieldOf P t f = some (off, n, agg)) (hr : (MI.fa off y).run s = some (v, h')) : Out P μ s.h w o a v h' := by
  simp only [MI.run, Option.map_eq_some_iff, Prod.mk.injEq] at hr
  obtain ⟨u, hu, rfl, rfl⟩ := hr
  have hcv := eval_opd R hx
  obtain ⟨fs, fd, i, h1, h2, h3, h4, h5, h6, h7⟩ := fieldOf_spec ht
  unfold faV at hu
  split at hu
  · rename_i b o' L hb
    split at hu
    · rename_i blk hblk
      split at hu
      · rename_i hL
        cases hu
        rw [hb] at hcv
        have e := hcv.ptr' hblk hL
        refine Out.pure (v' := .pointer (some ⟨(μ b).g, (μ b).o + (o' + off), none⟩)) ?_ (.val _ _ (.one _ _ (.base _ _ (.ptr b (o' + off) L _ blk hblk (Nat.le_of_eq hL) (fun _ => rfl) rfl)))) H
        have h8 : ¬ i.size = 0 := by omega
        simp [execOp, ho, Instr.fieldAt, run_underlying h1, h2, Instr.sureAddr, e, fieldPlace, run_sizeOf h5, h8, h3, Addr.add_lit, Nat.add_assoc]
      · cases hu
    · cases hu
  · cases hu

theorem elemOf_spec {t e : TypeId} {sz bytes : Nat} {z : List Value} (h : elemOf P t = some (e, sz, bytes, z)) : ∃ i, P.underlying t = some (.slice e) ∧ P.info? e = some i ∧ i.size = sz ∧ i.bytes = bytes ∧ 0 < sz ∧ 0 < bytes ∧ bytes ≤ 64 ∧ zeroOf P e = some z := by
  unfold elemOf at h
  split at h
  · rename_i e' he
    split at h
    · rename_i i z' hi hz
      split at h
      · rename_i hc
        cases h
        exact ⟨i, he, hi, rfl, rfl, hc.1, hc.2.2, hc.2.1, hz⟩
      · cases h
    · cases h
  · cases h

theorem ok_ia {x i : Operand} {x' i' : Opd} {t e : TypeId} {sz bytes : Nat} {z : List Value} (R : RelT N μ s a) (H : HRel μ s.h w) (ho : o.op = .indexAddr t x i) (hx : opd x = some x') (hi : opd i = some i') (ht : elemOf P t = some (e, sz, bytes, z)) (hr : (MI.ia sz x' i').run s = some (v, h')) : Out P μ s.h w o a v h' := by
  simp only [MI.run, Option.map_eq_some_iff, Prod.mk.injEq] at hr
  obtain ⟨u, hu, rfl, rfl⟩ := hr
  have h1 := eval_opd R hx
  have h2 := eval_opd R hi
  obtain ⟨inf, e1, e2, e3, _⟩ := elemOf_spec ht
  unfold iaV at hu
  split at hu
  · rename_i b off len cap k j hb hj
    split at hu
    · rename_i blk hblk
      split at hu
      · rename_i hc
        obtain ⟨c0, c1, c2, c3⟩ := hc
        cases hu
        rw [hb] at h1
        rw [hj] at h2
        subst c2
        obtain ⟨A, c, hA, hlc, _, hA2, _⟩ := (h1.slice' hblk).2.2 c3
        have hlen : ¬ len = 0 := by omega
        obtain rfl : A = ⟨(μ b).g, (μ b).o + off, none⟩ := by
          rcases hA2 with ⟨h, _⟩ | h
          · exact absurd h hlen
          · exact h
        refine Out.pure (v' := .pointer (some ⟨(μ b).g, (μ b).o + (off + j.toNat * blk.sz), none⟩)) ?_ (.val _ _ (.one _ _ (.base _ _ (.ptr b (off + j.toNat * blk.sz) blk.cells.length _ blk hblk (Nat.le_refl _) (fun _ => rfl) rfl)))) H
        simp [execOp, ho, Instr.indexAt, asIntOf, h2.int, run_underlying e1, hA, c0, c1, run_sizeOf e2, e3, Addr.add_lit, Nat.add_assoc]
      · cases hu
    · cases hu
  · cases hu

theorem ok_ix {x i : Operand} {x' i' : Opd} {t : TypeId} (R : RelT N μ s a) (H : HRel μ s.h w) (ho : o.op = .index t x i) (hx : opd x = some x') (hi : opd i = some i') (ht : P.underlying t = some .string) (hr : (MI.ix x' i').run s = some (v, h')) : Out P μ s.h w o a v h' := by
  simp only [MI.run, Option.map_eq_some_iff, Prod.mk.injEq] at hr
  obtain ⟨u, hu, rfl, rfl⟩ := hr
  have h1 := eval_opd R hx
  have h2 := eval_opd R hi
  unfold ixV at hu
  split at hu
  · rename_i b k j hb hj
    split at hu
    · rename_i hc
      cases hu
      rw [hb] at h1
      rw [hj] at h2
      refine Out.pure (v' := .int .u8 (b.data.toList.getD j.toNat 0).toNat) ?_ VR.mk_int H
      have hlt : j.toNat < b.size := by omega
      have hg : b.data.toList.getD j.toNat 0 = b[j.toNat] := by
        rw [List.getD_eq_getElem?_getD, List.getElem?_eq_getElem (by simpa using hlt), Option.getD_some]
        rfl
      rw [hg]
      simp [execOp, ho, Instr.index, asIntOf, h1.string, h2.int, run_underlying ht, hc.1, hlt]
    · cases hu
  · cases hu

theorem ok_fl {x : Operand} {y : Opd} {t : TypeId} {f off n : Nat} {agg : Bool} (R : RelT N μ s a) (H : HRel μ s.h w) (ho : o.op = .field t x f) (hx : opd x = some y) (ht : fieldOf P t f = some (off, n, agg)) (hr : (MI.fl off n agg y).run s = some (v, h')) : Out P μ s.h w o a v h' := by
  simp only [MI.run] at hr
  split at hr
  · rename_i xs hxs
    split at hr
    · rename_i hle
      simp only [Option.map_eq_some_iff, Prod.mk.injEq] at hr
      obtain ⟨u, hu, rfl, rfl⟩ := hr
      have hcv := eval_opd R hx
      rw [hxs] at hcv
      obtain ⟨ys, hy, k⟩ := hcv.agg'
      obtain ⟨fs, fd, i, h1, h2, h3, h4, h5, h6, h7⟩ := fieldOf_spec ht
      have k' := (k.drop off).take n
      rcases VR.ofCells k' hu with ⟨rfl, hv⟩ | ⟨rfl, z, hz, hv⟩
      · refine Out.pure (v' := .agg ⟨(ys.drop off).take n⟩) ?_ hv H
        have : (⟨ys⟩ : Array Value).extract off (off + n) = ⟨(ys.drop off).take n⟩ := by
          apply Array.ext'
          simp [List.take_drop]
        simp [execOp, ho, Instr.field, run_underlying h1, h2, hy, asAgg, part, run_isAgg h4, run_sizeOf h5, h6, h3, this]
      · refine Out.pure (v' := z) ?_ hv H
        obtain ⟨rfl⟩ : n = 1 := by
          obtain ⟨_, _, _, _, _, h | h⟩ := rowOf_spec h4
          · cases h.1
          · exact h.2.1
        have hz' : ys[off]? = some z := by
          have : ((ys.drop off).take 1)[0]? = some z := by rw [hz]; rfl
          rw [List.getElem?_take, if_pos (by omega), List.getElem?_drop, Nat.add_zero] at this
          exact this
        simp [execOp, ho, Instr.field, run_underlying h1, h2, hy, asAgg, part, run_isAgg h4, h3, hz']
    · cases hr
  · cases hr

end
end Go.Proofs.Ytlndlccbecnjoaa.Ab
