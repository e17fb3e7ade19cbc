/- What the machine does at an operation is what the small language says: structs compared, structs built, memory made. No conditions. -/
import Derived.Test.YtlndlccbecnjoaaAb6
import Derived.Laws.Tables
import Derived.Great.BuildSlice
import Derived.Laws.MakeOwn
namespace Go.Proofs.Ytlndlccbecnjoaa.Ab
set_option linter.unusedSimpArgs false
set_option linter.unusedVariables false
set_option linter.unnecessarySimpa false
open Go.RowKit

section
variable {P : Program} {N : Nat} {D E : List Nat} {μ : Map} {s : St} {a : Act} {w : World} {o : Oper} {v : Value} {h' : Heap}

/-- What a field's kind says of its type. -/
def KindOf (P : Program) (t : TypeId) (k : Nat) : Prop := match k with
  | 0 => ∃ k, P.underlying t = some (.int k)
  | 1 => P.underlying t = some .string
  | _ => P.underlying t = some .bool

theorem eqCell_run {x y x' y' : Value} {b : Bool} {d k : Nat} {t : TypeId} (ht : KindOf P t k) (hx : VR1 μ s.h x x') (hy : VR1 μ s.h y y') (h : eqCell k x y = some b) : (Op.equalIn (d + 1) t x' y').run P w = .ok b w := by
  have hx' := VR.val _ _ (.one _ _ hx)
  have hy' := VR.val _ _ (.one _ _ hy)
  unfold eqCell at h
  split at h
  · split at h
    · rename_i e
      cases h
      subst e
      obtain ⟨k2, ht⟩ := ht
      rw [hx'.int, hy'.int]
      exact run_equalIn_int w d t _ k2 _ _ ht
    · cases h
  · cases h
    rw [hx'.string, hy'.string]
    exact run_equalIn_string w d t _ _ ht
  · cases h
    rw [hx'.bool, hy'.bool]
    exact run_equalIn_bool w d t _ _ ht
  · cases h

theorem eqKinds_cons {i : Nat} {f : Field} {fs : List Field} {ks : List Nat} (h : eqKinds P i (f :: fs) = some ks) : ∃ k ks', ks = k :: ks' ∧ eqKinds P (i + 1) fs = some ks' ∧ f.name ≠ "_" ∧ f.offset = i ∧ KindOf P f.type k := by
  simp only [eqKinds] at h
  split at h
  · rename_i k ks' hk hks
    cases h
    split at hk
    · cases hk
    · rename_i hc
      have hc1 : f.name ≠ "_" := fun e => hc (.inl e)
      have hc2 : f.offset = i := Classical.byContradiction fun e => hc (.inr e)
      refine ⟨k, ks', rfl, hks, hc1, hc2, ?_⟩
      split at hk <;> first | (cases hk; rename_i hu; exact ⟨_, hu⟩) | (cases hk; rename_i hu; exact hu) | cases hk
  · cases h

theorem part_run {t : TypeId} {k : Nat} (ht : KindOf P t k) {xs : List Value} {i : Nat} {x : Value} (hx : xs[i]? = some x) (w : World) : (part t ⟨xs⟩ i).run P w = .ok x w := by
  have ha : (isAgg t).run P w = .ok false w := by
    unfold KindOf at ht
    split at ht
    · obtain ⟨k, ht⟩ := ht; simp [isAgg, run_underlying ht]
    · simp [isAgg, run_underlying ht]
    · simp [isAgg, run_underlying ht]
  simp [part, ha, hx]

theorem eqFields_run (d : Nat) {xs ys xs' ys' : List Value} (kx : All2 (VR1 μ s.h) xs xs') (ky : All2 (VR1 μ s.h) ys ys') : ∀ (fs : List Field) (i : Nat) (ks : List Nat) (b : Bool), eqKinds P i fs = some ks → eqCells ks (xs.drop i) (ys.drop i) = some b →
    (Op.eqFields (d + 1) ⟨xs'⟩ ⟨ys'⟩ fs).run P w = .ok b w
  | [], i, ks, b, hk, h => by
    simp [eqKinds] at hk
    subst hk
    simp [eqCells] at h
    subst h
    simp [Op.eqFields]
  | f :: fs, i, ks, b, hk, h => by
    obtain ⟨k, ks', rfl, hks, h1, h2, h3⟩ := eqKinds_cons hk
    cases hxd : xs.drop i with
    | nil => rw [hxd] at h; simp [eqCells] at h
    | cons x xr =>
      cases hyd : ys.drop i with
      | nil => rw [hxd, hyd] at h; simp [eqCells] at h
      | cons y yr =>
        rw [hxd, hyd] at h
        have hx : xs[i]? = some x := by have := congrArg (fun l => l[0]?) hxd; simpa using this
        have hy : ys[i]? = some y := by have := congrArg (fun l => l[0]?) hyd; simpa using this
        obtain ⟨x', hx', kx'⟩ := kx.get hx
        obtain ⟨y', hy', ky'⟩ := ky.get hy
        have hxr : xr = xs.drop (i + 1) := by have := congrArg List.tail hxd; simpa using this.symm
        have hyr : yr = ys.drop (i + 1) := by have := congrArg List.tail hyd; simpa using this.symm
        simp only [eqCells] at h
        have p1 := part_run (P := P) h3 hx' w
        have p2 := part_run (P := P) h3 hy' w
        split at h
        · rename_i e
          rw [hxr, hyr] at h
          have ih := eqFields_run d kx ky fs (i + 1) ks' b hks h
          have e1 := eqCell_run (w := w) (d := d) h3 kx' ky' e
          simp [Op.eqFields, h1, h2, p1, p2, e1, ih]
        · rename_i e
          cases h
          have e1 := eqCell_run (w := w) (d := d) h3 kx' ky' e
          simp [Op.eqFields, h1, h2, p1, p2, e1]
        · cases h

theorem ok_eqS {x y : Operand} {x' y' : Opd} {t t' : TypeId} {fs : Array Field} {ks : List Nat} {neg : Bool} (R : RelT N μ s a) (H : HRel μ s.h w) (ho : o.op = .binOp (if neg = true then .neq else .eql) t x y t') (hx : opd x = some x') (hy : opd y = some y')
    (ht : P.underlying t = some (.struct fs)) (hok : eqOk P t = true) (hk : eqKinds P 0 fs.toList = some ks) (hr : (MI.eqS ks neg x' y').run s = some (v, h')) : Out P μ s.h w o a v h' := by
  simp only [MI.run] at hr
  split at hr
  · rename_i xs ys hxs hys
    simp only [Option.map_eq_some_iff, Prod.mk.injEq] at hr
    obtain ⟨b, hb, rfl, rfl⟩ := hr
    have h1 := eval_opd R hx
    have h2 := eval_opd R hy
    rw [hxs] at h1
    rw [hys] at h2
    obtain ⟨xs', e1, k1⟩ := h1.agg'
    obtain ⟨ys', e2, k2⟩ := h2.agg'
    simp only [eqOk, Bool.and_eq_true, Bool.not_eq_true'] at hok
    have hf : P.fieldsOf t = fs := by simp [Program.fieldsOf, ht]
    have hrun := eqFields_run (w := w) 9998 k1 k2 fs.toList 0 ks b hk (by simpa using hb)
    have hq : (Op.equalIn 10000 t (.agg ⟨xs'⟩) (.agg ⟨ys'⟩)).run P w = .ok b w := by
      rw [run_equalIn_struct w 9999 t _ _ (by rw [hf]; exact ht) hok.1, hf]
      exact hrun
    refine Out.pure (v' := .bool (if neg = true then !b else b)) ?_ VR.mk_bool H
    cases neg with
    | true =>
      simp only [if_true] at ho
      simp only [execOp, ho, e1, e2, Sem.run_bind, run_eqGuard_agg w _ t _ _ _ _ hok.2, Result.andThen_ok, run_neq_struct, hq, Sem.run_pure, if_true]
    | false =>
      simp only [Bool.false_eq_true, if_false] at ho
      simp only [execOp, ho, e1, e2, Sem.run_bind, run_eqGuard_agg w _ t _ _ _ _ hok.2, Result.andThen_ok, run_eql_struct, hq, Sem.run_pure, Bool.false_eq_true, if_false]
  · cases hr

/-! Structs and slices built: 'fill'. -/
theorem foldl_put (off : Nat) : ∀ (vs : List Value) (i : Nat) (cells : List Value), off + i + vs.length ≤ cells.length →
    ((vs.zipIdx i).foldl (fun (cs : Array Value) (p : Value × Nat) => cs.setIfInBounds (off + p.2) p.1) ⟨cells⟩) = ⟨cells.take (off + i) ++ vs ++ cells.drop (off + i + vs.length)⟩
  | [], i, cells, h => by simp
  | v :: vs, i, cells, h => by
    simp only [List.length_cons] at h
    rw [List.zipIdx_cons, List.foldl_cons]
    have e : (⟨cells⟩ : Array Value).setIfInBounds (off + i) v = ⟨cells.set (off + i) v⟩ := by simp
    rw [e, foldl_put off vs (i + 1) (cells.set (off + i) v) (by rw [List.length_set]; omega)]
    have hA : (cells.take (off + i)).length = off + i := by rw [List.length_take]; omega
    rw [List.set_eq_take_append_cons_drop, if_pos (by omega)]
    have t1 : (cells.take (off + i) ++ v :: cells.drop (off + i + 1)).take (off + (i + 1)) = cells.take (off + i) ++ [v] := by
      rw [List.take_append, hA, List.take_of_length_le (by omega), show off + (i + 1) - (off + i) = 1 by omega]
      rfl
    have t2 : (cells.take (off + i) ++ v :: cells.drop (off + i + 1)).drop (off + (i + 1) + vs.length) = cells.drop (off + i + (vs.length + 1)) := by
      rw [List.drop_append, hA, List.drop_of_length_le (by omega), show off + (i + 1) + vs.length - (off + i) = vs.length + 1 by omega, List.nil_append, List.drop_succ_cons, List.drop_drop]
      congr 1
      omega
    rw [t1, t2, List.length_cons]
    simp

theorem All2.putAt {R : Value → Value → Prop} {xs ys us vs : List Value} (k : All2 R xs ys) (q : All2 R us vs) (off : Nat) : All2 R (putAt xs off us) (Ab.putAt ys off vs) := by
  unfold Ab.putAt
  rw [← q.1]
  exact ((k.take off).append q).append (k.drop _)

theorem fill_off {place : Nat → Option (Nat × Nat)} : ∀ {cells cells' : List Value} {ps : List (Nat × Nat × Value)} {qs : List (Nat × Value)} {cs : List Value}, All2 (VR1 μ s.h) cells cells' →
    All2 (fun (p : Nat × Nat × Value) (q : Nat × Value) => place q.1 = some (p.1, p.2.1) ∧ VR μ s.h p.2.2 q.2) ps qs → fillOff cells ps = some cs → ∃ cs', Instr.fill place ⟨cells'⟩ qs = some ⟨cs'⟩ ∧ All2 (VR1 μ s.h) cs cs'
  | cells, cells', [], qs, cs, k, hq, hf => by
    have : qs = [] := List.eq_nil_of_length_eq_zero hq.1.symm
    subst this
    simp only [fillOff, Option.some.injEq] at hf
    subst hf
    exact ⟨cells', rfl, k⟩
  | cells, cells', (off, n, v) :: ps, [], cs, k, hq, hf => by have := hq.1; simp at this
  | cells, cells', (off, n, v) :: ps, (i, v') :: qs, cs, k, hq, hf => by
    obtain ⟨hp, hv⟩ := hq.2 0 _ _ rfl rfl
    have hq' : All2 (fun (p : Nat × Nat × Value) (q : Nat × Value) => place q.1 = some (p.1, p.2.1) ∧ VR μ s.h p.2.2 q.2) ps qs :=
      ⟨by have := hq.1; simpa using this, fun j x y hx hy => hq.2 (j + 1) x y (by simpa using hx) (by simpa using hy)⟩
    simp only [fillOff] at hf
    split at hf
    · rename_i vs hvs
      split at hf
      · rename_i hc
        obtain ⟨ys, hys, ky⟩ := VR.cells hv hvs
        have hl : ys.length = n := by rw [← ky.1, hc.1]
        have hl' : cells'.length = cells.length := k.1.symm
        obtain ⟨cs', h1, h2⟩ := fill_off (k.putAt ky off) hq' hf
        refine ⟨cs', ?_, h2⟩
        have hfold := foldl_put off ys 0 cells' (by omega)
        have hfold' : (⟨ys⟩ : Array Value).zipIdx.foldl (fun (cs : Array Value) (p : Value × Nat) => cs.setIfInBounds (off + p.2) p.1) ⟨cells'⟩ = ⟨Ab.putAt cells' off ys⟩ := by
          rw [← Array.foldl_toList]
          simpa [Ab.putAt] using hfold
        simp only [Instr.fill, hp, hys]
        have hn1 : ¬ ((⟨ys⟩ : Array Value).size ≠ n || decide (off + (⟨ys⟩ : Array Value).size > (⟨cells'⟩ : Array Value).size)) = true := by
          simp [hl]
          omega
        rw [if_neg hn1]
        rw [← h1]
        congr 1
      · cases hf
    · cases hf

end
end Go.Proofs.Ytlndlccbecnjoaa.Ab
