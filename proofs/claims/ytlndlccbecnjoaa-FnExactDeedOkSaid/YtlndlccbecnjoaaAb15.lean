/- Code, and a function: what the small language says is what the machine does. No conditions. -/
import Derived.Test.YtlndlccbecnjoaaAb14
import Derived.LoopN
namespace Go.Proofs.Ytlndlccbecnjoaa.Ab
set_option linter.unusedSimpArgs false
set_option linter.unusedVariables false
set_option linter.unnecessarySimpa false
open Go.RowKit
section
variable {P : Program} {N : Nat} {D : List Nat} {E L : List (Nat × Nat)} {μ0 : Map} {h0 : Heap} {w0 : World} {lam : Nat → Nat} {μ : Map} {s s' : St} {a : Act} {w : World} {call : FuncId → List Value → Heap → Option (Value × Heap)}

theorem Rel.close (R : Rel N D E L μ0 h0 w0 lam μ s a w) : Rel N D E L μ0 h0 w0 lam μ s.close a w :=
  ⟨⟨R.rt.size, R.rt.t⟩, R.hr, R.to, R.loc, R.locs, (fun _ _ _ h => by cases h), (fun _ _ _ h => by cases h), R.dfr⟩

theorem Shows.close (h : Shows N D E L μ0 h0 w0 s a w) : Shows N D E L μ0 h0 w0 s.close a w := let ⟨l, m, R⟩ := h; ⟨l, m, R.close⟩

/-- What is owed of the regions whose order is open. -/
def FreeOk (P : Program) (N : Nat) (D : List Nat) (E L : List (Nat × Nat)) (call : FuncId → List Value → Heap → Option (Value × Heap)) : Prop :=
  ∀ (μ0 : Map) (h0 : Heap) (w0 : World) (id : Nat) (ops : Array Oper) (ms : List MOp) (s s' : St) (a : Act) (w : World), compOps P D E L N ops.toList ops.toList = some ms → freeOk E ops.toList ms = true → P.follows .mixedOrders = true →
    runFree call (lastOk ops.toList ms) s.h ms s = some s' → s.al = (fun _ => none) → Shows N D E L μ0 h0 w0 s a w → (Code.region id ops true).wp P (fun e a' w' => e = .normal ∧ Shows N D E L μ0 h0 w0 s' a' w') a w

/-- Between regions no alias is left. -/
def Clean (s : St) : Prop := s.al = fun _ => none

theorem exec_clean {n : Nat} : ∀ (ir : IR) (s : St) (e : Exit) (s' : St), Clean s → exec call n ir s = some (e, s') → Clean s'
  | .skip, s, e, s', hs, h => by simp only [exec, Option.some.injEq, Prod.mk.injEq] at h; rw [← h.2]; exact hs
  | .ops l, s, e, s', hs, h => by
    simp only [exec, Option.map_eq_some_iff, Prod.mk.injEq] at h
    obtain ⟨s1, _, _, rfl⟩ := h
    rfl
  | .free b l, s, e, s', hs, h => by
    simp only [exec, Option.map_eq_some_iff, Prod.mk.injEq] at h
    obtain ⟨s1, _, _, rfl⟩ := h
    rfl
  | .seq x y, s, e, s', hs, h => by
    simp only [exec] at h
    split at h
    · rename_i s1 h1
      exact exec_clean y s1 e s' (exec_clean x s .normal s1 hs h1) h
    · exact exec_clean x s e s' hs h
  | .cond c x y, s, e, s', hs, h => by
    simp only [exec] at h
    split at h
    · split at h
      · exact exec_clean x s e s' hs h
      · exact exec_clean y s e s' hs h
    · cases h
  | .block id x, s, e, s', hs, h => by
    simp only [exec] at h
    split at h
    · rename_i id' s1 h1
      have := exec_clean x s _ s1 hs h1
      split at h <;> (simp only [Option.some.injEq, Prod.mk.injEq] at h; rw [← h.2]; exact this)
    · exact exec_clean x s e s' hs h
  | .loop x, s, e, s', hs, h => by
    simp only [exec] at h
    have key : ∀ m s, Clean s → iter (exec call n x) m s = some (e, s') → Clean s' := by
      intro m
      induction m with
      | zero => intro s _ h; simp [iter] at h
      | succ m ih =>
        intro s hs h
        simp only [iter] at h
        split at h
        · rename_i s1 h1
          exact ih s1 (exec_clean x s .normal s1 hs h1) h
        · exact exec_clean x s e s' hs h
    exact key n s hs h
  | .exit id, s, e, s', hs, h => by simp only [exec, Option.some.injEq, Prod.mk.injEq] at h; rw [← h.2]; exact hs
  | .ret, s, e, s', hs, h => by simp only [exec, Option.some.injEq, Prod.mk.injEq] at h; rw [← h.2]; exact hs

theorem exec_ok (hS : SoundC P call) (hF : FreeOk P N D E L call) (n : Nat) : ∀ (c : Code) (ir : IR), compCode P D E L N c = some ir → ∀ (s : St) (e : Exit) (s' : St), Clean s → exec call n ir s = some (e, s') →
    ∀ (a : Act) (w : World), Shows N D E L μ0 h0 w0 s a w → c.wp P (fun e2 a' w' => e2 = e ∧ Shows N D E L μ0 h0 w0 s' a' w') a w := by
  intro c
  induction c with
  | skip =>
    intro ir hc s e s' hs he a w hR
    simp only [compCode, Option.some.injEq] at hc
    subst hc
    simp only [exec, Option.some.injEq, Prod.mk.injEq] at he
    obtain ⟨rfl, rfl⟩ := he
    exact wp_skip ⟨rfl, hR⟩
  | region id ops draw =>
    intro ir hc s e s' hs he a w hR
    simp only [compCode] at hc
    split at hc
    · rename_i ms hms
      split at hc
      · rename_i hd
        split at hc
        · rename_i hf
          cases hc
          simp only [exec, Option.map_eq_some_iff, Prod.mk.injEq] at he
          obtain ⟨s1, h1, rfl, rfl⟩ := he
          simp only [Bool.and_eq_true] at hf
          subst hd
          exact wp_mono (hF μ0 h0 w0 id ops ms s s1 a w hms hf.1 hf.2 h1 hs hR) fun e a w h => ⟨h.1, h.2.close⟩
        · cases hc
      · rename_i hd
        cases hc
        simp only [exec, Option.map_eq_some_iff, Prod.mk.injEq] at he
        obtain ⟨s1, h1, rfl, rfl⟩ := he
        obtain ⟨g1, g2⟩ := compOps_get hms
        have hdf : draw = false := by simpa using hd
        subst hdf
        refine wp_region_list (list_ok (K := fun _ _ => True) hS ops.toList ms s a w g1 (fun j o hj => ?_) hR h1 fun a' w' h => ⟨rfl, h.close⟩)
        obtain ⟨m, q1, q2⟩ := g2 j o hj
        exact ⟨m, q1, compOp_read q2⟩
    · cases hc
  | seq x y ihx ihy =>
    intro ir hc s e s' hs he a w hR
    simp only [compCode] at hc
    split at hc
    · rename_i ix iy hx hy
      cases hc
      simp only [exec] at he
      refine wp_seq ?_
      split at he
      · rename_i s1 h1
        refine wp_mono (ihx ix hx s .normal s1 hs h1 a w hR) fun e2 a2 w2 h => ?_
        obtain ⟨rfl, h⟩ := h
        exact ihy iy hy s1 e s' (exec_clean _ _ _ _ hs h1) he a2 w2 h
      · rename_i hne
        cases hr : exec call n ix s with
        | none => rw [hr] at he; cases he
        | some r =>
          obtain ⟨e1, s1⟩ := r
          rw [hr] at he
          cases he
          refine wp_mono (ihx ix hx s e s' hs hr a w hR) fun e2 a2 w2 h => ?_
          obtain ⟨rfl, h⟩ := h
          cases e2 with
          | normal => exact absurd hr (hne _)
          | _ => exact ⟨rfl, h⟩
    · cases hc
  | cond c x y ihx ihy =>
    intro ir hc s e s' hs he a w hR
    simp only [compCode] at hc
    split at hc
    · rename_i c' ix iy hc' hx hy
      cases hc
      simp only [exec] at he
      split at he
      · rename_i b hb
        obtain ⟨lam, μ, R⟩ := hR
        have hv := eval_opd R.rt hc'
        rw [hb] at hv
        refine wp_cond hv.bool ?_
        split at he
        · rename_i ht
          rw [ht]
          exact ihx ix hx s e s' hs he a w ⟨lam, μ, R⟩
        · rename_i ht
          rw [if_neg ht]
          exact ihy iy hy s e s' hs he a w ⟨lam, μ, R⟩
      · cases he
    · cases hc
  | block id x ih =>
    intro ir hc s e s' hs he a w hR
    simp only [compCode, Option.map_eq_some_iff] at hc
    obtain ⟨ix, hx, rfl⟩ := hc
    simp only [exec] at he
    refine wp_block ?_
    split at he
    · rename_i id' s1 h1
      refine wp_mono (ih ix hx s _ s1 hs h1 a w hR) fun e2 a2 w2 h => ?_
      obtain ⟨rfl, h⟩ := h
      show (if id' = id then _ else _)
      split at he
      · rename_i hid
        rw [if_pos hid]
        cases he
        exact ⟨rfl, h⟩
      · rename_i hid
        rw [if_neg hid]
        cases he
        exact ⟨rfl, h⟩
    · rename_i hne
      cases hr : exec call n ix s with
      | none => rw [hr] at he; cases he
      | some r =>
        obtain ⟨e1, s1⟩ := r
        rw [hr] at he
        cases he
        refine wp_mono (ih ix hx s e s' hs hr a w hR) fun e2 a2 w2 h => ?_
        obtain ⟨rfl, h⟩ := h
        cases e2 with
        | exit id' => exact absurd hr (hne _ _)
        | _ => exact ⟨rfl, h⟩
  | loop x ih =>
    intro ir hc s e s' hs he a w hR
    simp only [compCode, Option.map_eq_some_iff] at hc
    obtain ⟨ix, hx, rfl⟩ := hc
    simp only [exec] at he
    have key : ∀ m s a w, Clean s → Shows N D E L μ0 h0 w0 s a w → iter (exec call n ix) m s = some (e, s') → Code.rounds P x (fun e2 a' w' => e2 = e ∧ Shows N D E L μ0 h0 w0 s' a' w') m a w := by
      intro m
      induction m with
      | zero => intro s a w _ _ h; simp [iter] at h
      | succ m ihm =>
        intro s a w hs hR h
        simp only [iter] at h
        split at h
        · rename_i s1 h1
          refine wp_mono (ih ix hx s .normal s1 hs h1 a w hR) fun e2 a2 w2 h' => ?_
          obtain ⟨rfl, h'⟩ := h'
          exact ihm s1 a2 w2 (exec_clean _ _ _ _ hs h1) h' h
        · rename_i hne
          refine wp_mono (ih ix hx s e s' hs h a w hR) fun e2 a2 w2 h' => ?_
          obtain ⟨rfl, h'⟩ := h'
          cases e2 with
          | normal => exact absurd h (hne _)
          | _ => exact ⟨rfl, h'⟩
    exact wp_loop_rounds n (key n s a w hs hR he)
  | exit id =>
    intro ir hc s e s' hs he a w hR
    simp only [compCode, Option.some.injEq] at hc
    subst hc
    simp only [exec, Option.some.injEq, Prod.mk.injEq] at he
    obtain ⟨rfl, rfl⟩ := he
    exact wp_exit ⟨rfl, hR⟩
  | ret =>
    intro ir hc s e s' hs he a w hR
    simp only [compCode, Option.some.injEq] at hc
    subst hc
    simp only [exec, Option.some.injEq, Prod.mk.injEq] at he
    obtain ⟨rfl, rfl⟩ := he
    exact wp_ret ⟨rfl, hR⟩
  | _ => intro ir hc; simp [compCode] at hc

end
end Go.Proofs.Ytlndlccbecnjoaa.Ab
