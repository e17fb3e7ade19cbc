/- One operation that is taken: the machine's frame shows the turned state. No conditions. -/
import Derived.Test.YtlndlccbecnjoaaAb11
namespace Go.Proofs.Ytlndlccbecnjoaa.Ab
set_option linter.unusedSimpArgs false
set_option linter.unusedVariables false
set_option linter.unnecessarySimpa false
open Go.RowKit

/-- What calls come to is what the machine's calls come to. -/
def SoundC (P : Program) (call : FuncId → List Value → Heap → Option (Value × Heap)) : Prop :=
  ∀ f args h v h', call f args h = some (v, h') → (∀ args' w, (callFunc f args').run P w = .ok (.enter f args') w) ∧
    ∀ μ w (args' : List Value), HRel μ h w → All2 (VR μ h) args args' → Calls P f ⟨args'⟩ w fun e w' => ∃ v' μ', e = .returned v' ∧ VR μ' h' v v' ∧ HRel μ' h' w' ∧ To μ h w μ' h' w'

/-- The frame shows the state, somehow. -/
def Shows (N : Nat) (D : List Nat) (E L : List (Nat × Nat)) (μ0 : Map) (h0 : Heap) (w0 : World) (s : St) (a : Act) (w : World) : Prop := ∃ lam μ, Rel N D E L μ0 h0 w0 lam μ s a w

section
variable {P : Program} {N : Nat} {D : List Nat} {E L : List (Nat × Nat)} {μ0 : Map} {h0 : Heap} {w0 : World} {lam : Nat → Nat} {μ : Map} {s s' : St} {a : Act} {w : World} {o : Oper} {v : Value} {h' : Heap} {call : FuncId → List Value → Heap → Option (Value × Heap)} {Q : Exit → Act → World → Prop}

theorem wp_value {v' : Value} {w' : World} {K : Act → World → Prop} (hr : (execOp a.eval o).run P w = .ok (.value v') w') (hk : K (a.put o.dst v') w') : o.wp P a w K Q := by
  unfold Oper.wp; rw [hr]; exact hk
theorem wp_skip' {w' : World} {K : Act → World → Prop} (hr : (execOp a.eval o).run P w = .ok .skip w') (hk : K (a.put o.dst undef) w') : o.wp P a w K Q := by
  unfold Oper.wp; rw [hr]; exact hk

/-- A value operation. -/
theorem go_value {i : MI} (R : Rel N D E L μ0 h0 w0 lam μ s a w) (hc : compIns P D E L o = some i) {d : Nat} (hd : o.dst = some d) (hp : plain D E L d = true) (hN : d < N) (hr : i.run s = some (v, h')) : o.wp P a w (Shows N D E L μ0 h0 w0 { s.put o.dst v with h := h' }) Q := by
  obtain ⟨v', w', μ', h1, h2, h3, h4⟩ := value_ok R hc hr
  refine wp_value h1 ?_
  rw [hd]
  exact ⟨lam, μ', R.put hp hN h2 h3 h4⟩

theorem dstOk_value {i : MI} (h : dstOk D E L N i o.dst = true) (hr : ∃ r, i.run s = some r) : ∃ d, o.dst = some d ∧ plain D E L d = true ∧ d < N := by
  obtain ⟨r, hr⟩ := hr
  cases hd : o.dst with
  | none => rw [hd] at h; cases i <;> simp [dstOk] at h <;> simp [MI.run] at hr
  | some d =>
    rw [hd] at h
    cases i <;> simp only [dstOk, Bool.and_eq_true, decide_eq_true_eq, Bool.false_eq_true] at h <;> first | exact ⟨d, rfl, h.1, h.2⟩ | (simp [MI.run] at hr)

theorem run_resolve_fn {f : FuncId} {args : Array Operand} {ts : Array TypeId} (ho : o.op = .call { callee := .value (.func f), args := args, argTypes := ts }) (he : ∀ args' w, (callFunc f args').run P w = .ok (.enter f args') w) :
    (execOp a.eval o).run P w = .ok (.enter f (args.map a.eval)) w := by
  have : a.eval (.func f) = .func (.func f) #[] #[] := rfl
  simp [execOp, ho, resolve, Deferred.ofValue, invoke, this, he]

theorem upon_calls {f : FuncId} {args : Array Value} {K : Act → World → Prop} (hr : (execOp a.eval o).run P w = .ok (.enter f args) w)
    (hk : Calls P f args w fun e w' => ∃ v', e = .returned v' ∧ K (a.put o.dst v') w') : o.wp P a w K Q := by
  unfold Oper.wp
  rw [hr]
  refine Calls.mono hk fun e w' => ?_
  rintro ⟨v', rfl, h⟩
  exact h

theorem Rel.ret {μ' : Map} {w' : World} {v' : Value} (R : Rel N D E L μ0 h0 w0 lam μ s a w) (hd : ∀ d, o.dst = some d → plain D E L d = true ∧ d < N) (k : VR μ' h' v v') (H : HRel μ' h' w') (T : To μ s.h w μ' h' w') :
    Shows N D E L μ0 h0 w0 { s.put o.dst v with h := h' } (a.put o.dst v') w' := by
  cases ho : o.dst with
  | none => exact ⟨lam, μ', R.mem H T⟩
  | some d => exact ⟨lam, μ', R.put (hd d ho).1 (hd d ho).2 k H T⟩

theorem go_call {f : FuncId} {args : Array Operand} {ts : Array TypeId} {l : List Opd} (hS : SoundC P call) (R : Rel N D E L μ0 h0 w0 lam μ s a w) (ho : o.op = .call { callee := .value (.func f), args := args, argTypes := ts }) (hl : opds args.toList = some l) (hd : ∀ d, o.dst = some d → plain D E L d = true ∧ d < N)
    (hr : call f (l.map s.val) s.h = some (v, h')) : o.wp P a w (Shows N D E L μ0 h0 w0 { s.put o.dst v with h := h' }) Q := by
  obtain ⟨he, hc⟩ := hS _ _ _ _ _ hr
  have ka := opds_all R.rt hl
  refine upon_calls (run_resolve_fn ho he) ?_
  have e : args.map a.eval = ⟨args.toList.map a.eval⟩ := by apply Array.ext'; simp
  rw [e]
  refine (hc μ w _ R.hr ka).mono fun e w' => ?_
  rintro ⟨v', μ', rfl, h1, h2, h3⟩
  exact ⟨v', rfl, R.ret hd h1 h2 h3⟩

theorem go_callV {g : FuncId} {ft : Nat} {args : Array Operand} {ts : Array TypeId} {l : List Opd} {caps : List Value} (hS : SoundC P call) (R : Rel N D E L μ0 h0 w0 lam μ s a w) (ho : o.op = .call { callee := .value (.tmp ft), args := args, argTypes := ts }) (hl : opds args.toList = some l) (hd : ∀ d, o.dst = some d → plain D E L d = true ∧ d < N)
    (hf : s.t ft = .func (.func g) #[] ⟨caps⟩) (hr : call g (l.map s.val ++ caps) s.h = some (v, h')) : o.wp P a w (Shows N D E L μ0 h0 w0 { s.put o.dst v with h := h' }) Q := by
  obtain ⟨he, hc⟩ := hS _ _ _ _ _ hr
  have ka := opds_all R.rt hl
  have kf := R.rt.t ft
  rw [hf] at kf
  obtain ⟨caps', hv, kc⟩ : ∃ caps', a.tmps.getD ft undef = .func (.func g) #[] ⟨caps'⟩ ∧ All2 (VR0 μ s.h) caps caps' := by
    generalize a.tmps.getD ft undef = u at kf
    cases kf with
    | val _ _ k => cases k with
      | one _ _ k => cases k with
        | base _ _ k => cases k with
          | prim _ hp => simp [Ab.prim] at hp
        | fn _ _ ys k => exact ⟨ys, rfl, k⟩
  have hrun : (execOp a.eval o).run P w = .ok (.enter g (args.map a.eval ++ ⟨caps'⟩)) w := by
    have : a.eval (.tmp ft) = .func (.func g) #[] ⟨caps'⟩ := hv
    simp [execOp, ho, resolve, Deferred.ofValue, invoke, this, he]
  refine upon_calls hrun ?_
  have e : args.map a.eval ++ (⟨caps'⟩ : Array Value) = ⟨args.toList.map a.eval ++ caps'⟩ := by apply Array.ext'; simp
  rw [e]
  refine (hc μ w _ R.hr (ka.append (kc.imp fun _ _ q => .val _ _ (.one _ _ (.base _ _ q))))).mono fun e w' => ?_
  rintro ⟨v', μ', rfl, h1, h2, h3⟩
  exact ⟨v', rfl, R.ret hd h1 h2 h3⟩

end
end Go.Proofs.Ytlndlccbecnjoaa.Ab
