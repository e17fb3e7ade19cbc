/- The run without rounds to count: what calls and loops come to, by equations. No conditions. -/
import Derived.Test.YtlndlccbecnjoaaAb18
namespace Go.Proofs.Ytlndlccbecnjoaa.Ab
set_option linter.unusedSimpArgs false
set_option linter.unusedVariables false
set_option linter.unnecessarySimpa false
open Go.RowKit

abbrev CallF := FuncId → List Value → Heap → Option (Value × Heap)

/-- All that 'c' tells, 'd' tells. -/
def Below' (c d : CallF) : Prop := ∀ f l h r, c f l h = some r → d f l h = some r

section
variable {c d : CallF} {last : Bool} {h0 : Heap}

theorem go_mono (hb : Below' c d) {o : MOp} {s s' : St} (h : o.go c s = some s') : o.go d s = some s' := by
  unfold MOp.go at h ⊢
  split at h
  case h_9 f args hi =>
    simp only [Option.map_eq_some_iff] at h ⊢
    obtain ⟨r, hr, rfl⟩ := h
    exact ⟨r, hb _ _ _ _ hr, rfl⟩
  case h_10 f args hi =>
    split at h
    · simp only [Option.map_eq_some_iff] at h ⊢
      obtain ⟨r, hr, rfl⟩ := h
      exact ⟨r, hb _ _ _ _ hr, rfl⟩
    · cases h
  all_goals exact h

theorem step_mono (hb : Below' c d) {o : MOp} {s s' : St} (h : o.step c s = some s') : o.step d s = some s' := by
  unfold MOp.step at h ⊢
  split at h
  · exact go_mono hb h
  · exact h
  · cases h

theorem ops_mono (hb : Below' c d) : ∀ {l : List MOp} {s s' : St}, runOps c l s = some s' → runOps d l s = some s'
  | [], _, _, h => h
  | o :: l, s, s', h => by
    simp only [runOps, Option.bind_eq_some_iff] at h ⊢
    obtain ⟨s1, h1, h2⟩ := h
    exact ⟨s1, step_mono hb h1, ops_mono hb h2⟩

open Classical in
theorem free_mono (hb : Below' c d) {o : MOp} {s s' : St} (h : o.free c last h0 s = some s') : o.free d last h0 s = some s' := by
  unfold MOp.free at h ⊢
  split at h
  · split at h
    · exact go_mono hb h
    · exact go_mono hb h
    · exact go_mono hb h
    · exact go_mono hb h
    · exact go_mono hb h
    · exact go_mono hb h
    · simp only [Option.bind_eq_some_iff] at h ⊢
      obtain ⟨r, hr, h⟩ := h
      exact ⟨r, hb _ _ _ _ hr, h⟩
    · exact h
  · exact h
  · cases h

theorem frees_mono (hb : Below' c d) : ∀ {l : List MOp} {s s' : St}, runFree c last h0 l s = some s' → runFree d last h0 l s = some s'
  | [], _, _, h => h
  | o :: l, s, s', h => by
    simp only [runFree, Option.bind_eq_some_iff] at h ⊢
    obtain ⟨s1, h1, h2⟩ := h
    exact ⟨s1, free_mono hb h1, frees_mono hb h2⟩

theorem iter_mono {f g : St → Option (Exit × St)} (hfg : ∀ s r, f s = some r → g s = some r) : ∀ {n m : Nat} {s : St} {r : Exit × St}, n ≤ m → iter f n s = some r → iter g m s = some r
  | 0, _, _, _, _, h => by cases h
  | n + 1, 0, _, _, hl, _ => by omega
  | n + 1, m + 1, s, r, hl, h => by
    simp only [iter] at h ⊢
    cases hf : f s with
    | none => rw [hf] at h; cases h
    | some q =>
      rw [hf] at h
      rw [hfg s q hf]
      obtain ⟨e, s1⟩ := q
      cases e with
      | normal => exact iter_mono hfg (by omega) h
      | _ => exact h

theorem exec_mono (hb : Below' c d) {n m : Nat} (hl : n ≤ m) : ∀ {i : IR} {s : St} {r : Exit × St}, exec c n i s = some r → exec d m i s = some r := by
  intro i
  induction i with
  | skip => intro s r h; exact h
  | ops l => intro s r h; simp only [exec, Option.map_eq_some_iff] at h ⊢; obtain ⟨s1, h1, h2⟩ := h; exact ⟨s1, ops_mono hb h1, h2⟩
  | free b l => intro s r h; simp only [exec, Option.map_eq_some_iff] at h ⊢; obtain ⟨s1, h1, h2⟩ := h; exact ⟨s1, frees_mono hb h1, h2⟩
  | seq x y ihx ihy =>
    intro s r h
    simp only [exec] at h ⊢
    cases hx : exec c n x s with
    | none => rw [hx] at h; cases h
    | some q =>
      rw [hx] at h
      rw [ihx hx]
      obtain ⟨e, s1⟩ := q
      cases e with
      | normal => exact ihy h
      | _ => exact h
  | cond b x y ihx ihy =>
    intro s r h
    simp only [exec] at h ⊢
    split at h
    · split at h
      · rename_i hc; rw [if_pos hc]; exact ihx h
      · rename_i hc; rw [if_neg hc]; exact ihy h
    · cases h
  | block id x ih =>
    intro s r h
    simp only [exec] at h ⊢
    cases hx : exec c n x s with
    | none => rw [hx] at h; cases h
    | some q => rw [hx] at h; rw [ih hx]; exact h
  | loop x ih =>
    intro s r h
    simp only [exec] at h ⊢
    exact iter_mono (fun s r => ih) hl h
  | exit id => intro s r h; exact h
  | ret => intro s r h; exact h

end

section
variable (T : FuncId → Option Fun) (X : CallF)

theorem call_succ (n : Nat) (f : FuncId) (l : List Value) (h : Heap) : call T X (n + 1) f l h = match T f with
    | some F => if l.length = F.np then
        match exec (call T X n) n F.body (start l h) with
        | some (.normal, s) => (results1 s F.res).map fun v => finish h (v, s.h)
        | some (.ret, s) => (results1 s F.res).map fun v => finish h (v, s.h)
        | _ => none
      else none
    | none => X f l h := rfl

theorem call_mono1 : ∀ n, Below' (call T X n) (call T X (n + 1))
  | 0 => fun f l h r hr => by cases hr
  | n + 1 => fun f l h r hr => by
    rw [call_succ] at hr ⊢
    cases hT : T f with
    | none => rw [hT] at hr; exact hr
    | some F =>
      rw [hT] at hr
      simp only at hr ⊢
      split at hr
      · rename_i hn
        rw [if_pos hn]
        cases he : exec (call T X n) n F.body (start l h) with
        | none => rw [he] at hr; cases hr
        | some q =>
          rw [he] at hr
          rw [exec_mono (call_mono1 n) (Nat.le_succ n) he]
          exact hr
      · cases hr

theorem call_mono {n m : Nat} (h : n ≤ m) : Below' (call T X n) (call T X m) := by
  induction h with
  | refl => exact fun _ _ _ _ h => h
  | step _ ih => exact fun f l h r hr => call_mono1 T X _ f l h r (ih f l h r hr)

open Classical in
/-- What a call comes to. -/
noncomputable def C (f : FuncId) (l : List Value) (h : Heap) : Option (Value × Heap) := if hr : ∃ n r, call T X n f l h = some r then some (Classical.choose (Classical.choose_spec hr)) else none

theorem C_of {n : Nat} {f : FuncId} {l : List Value} {h : Heap} {r : Value × Heap} (hr : call T X n f l h = some r) : C T X f l h = some r := by
  have hx : ∃ n r, call T X n f l h = some r := ⟨n, r, hr⟩
  unfold C
  rw [dif_pos hx]
  have h2 := Classical.choose_spec (Classical.choose_spec hx)
  have h3 := call_mono T X (Nat.le_max_left n (Classical.choose hx)) f l h _ hr
  have h4 := call_mono T X (Nat.le_max_right n (Classical.choose hx)) f l h _ h2
  rw [h3] at h4
  exact h4.symm

theorem C_to {f : FuncId} {l : List Value} {h : Heap} {r : Value × Heap} (hr : C T X f l h = some r) : ∃ n, call T X n f l h = some r := by
  unfold C at hr
  split at hr
  · rename_i hx
    cases hr
    exact ⟨_, Classical.choose_spec (Classical.choose_spec hx)⟩
  · cases hr

theorem call_C (n : Nat) : Below' (call T X n) (C T X) := fun _ _ _ _ h => C_of T X h

theorem step_to {o : MOp} {s s' : St} (h : o.step (C T X) s = some s') : ∃ n, o.step (call T X n) s = some s' := by
  unfold MOp.step at h ⊢
  split at h
  · unfold MOp.go at h ⊢
    split at h
    case h_9 f args hi =>
      simp only [Option.map_eq_some_iff] at h
      obtain ⟨r, hr, rfl⟩ := h
      obtain ⟨n, hn⟩ := C_to T X hr
      exact ⟨n, by simp only [hn, Option.map_some]⟩
    case h_10 f args hi =>
      split at h
      · rename_i g caps hf
        simp only [Option.map_eq_some_iff] at h
        obtain ⟨r, hr, rfl⟩ := h
        obtain ⟨n, hn⟩ := C_to T X hr
        exact ⟨n, by simp only [hn, Option.map_some]⟩
      · cases h
    all_goals exact ⟨0, h⟩
  · exact ⟨0, h⟩
  · cases h

theorem ops_to : ∀ {l : List MOp} {s s' : St}, runOps (C T X) l s = some s' → ∃ n, runOps (call T X n) l s = some s'
  | [], _, _, h => ⟨0, h⟩
  | o :: l, s, s', h => by
    simp only [runOps, Option.bind_eq_some_iff] at h
    obtain ⟨s1, h1, h2⟩ := h
    obtain ⟨n, hn⟩ := step_to T X h1
    obtain ⟨m, hm⟩ := ops_to h2
    refine ⟨max n m, ?_⟩
    simp only [runOps, Option.bind_eq_some_iff]
    exact ⟨s1, step_mono (call_mono T X (Nat.le_max_left n m)) hn, ops_mono (call_mono T X (Nat.le_max_right n m)) hm⟩

open Classical in
theorem free_to {last : Bool} {h0 : Heap} {o : MOp} {s s' : St} (h : o.free (C T X) last h0 s = some s') : ∃ n, o.free (call T X n) last h0 s = some s' := by
  unfold MOp.free at h ⊢
  split at h
  · have key : ∀ s', o.go (C T X) s = some s' → (∀ f l, o.ins ≠ .callV f l) → (∀ f l, o.ins ≠ .call f l) → o.go (call T X 0) s = some s' := by
      intro s' h h1 h2
      unfold MOp.go at h ⊢
      split at h
      case h_9 f args hi => exact absurd hi (h2 _ _)
      case h_10 f args hi => exact absurd hi (h1 _ _)
      all_goals exact h
    split at h
    · rename_i hi; exact ⟨0, key _ h (by rw [hi]; intro _ _ h; cases h) (by rw [hi]; intro _ _ h; cases h)⟩
    · rename_i hi; exact ⟨0, key _ h (by rw [hi]; intro _ _ h; cases h) (by rw [hi]; intro _ _ h; cases h)⟩
    · rename_i hi; exact ⟨0, key _ h (by rw [hi]; intro _ _ h; cases h) (by rw [hi]; intro _ _ h; cases h)⟩
    · rename_i hi; exact ⟨0, key _ h (by rw [hi]; intro _ _ h; cases h) (by rw [hi]; intro _ _ h; cases h)⟩
    · rename_i hi; exact ⟨0, key _ h (by rw [hi]; intro _ _ h; cases h) (by rw [hi]; intro _ _ h; cases h)⟩
    · rename_i hi; exact ⟨0, key _ h (by rw [hi]; intro _ _ h; cases h) (by rw [hi]; intro _ _ h; cases h)⟩
    · simp only [Option.bind_eq_some_iff] at h
      obtain ⟨r, hr, h⟩ := h
      obtain ⟨n, hn⟩ := C_to T X hr
      exact ⟨n, by simp only [Option.bind_eq_some_iff]; exact ⟨r, hn, h⟩⟩
    · exact ⟨0, h⟩
  · exact ⟨0, h⟩
  · cases h

theorem frees_to {last : Bool} {h0 : Heap} : ∀ {l : List MOp} {s s' : St}, runFree (C T X) last h0 l s = some s' → ∃ n, runFree (call T X n) last h0 l s = some s'
  | [], _, _, h => ⟨0, h⟩
  | o :: l, s, s', h => by
    simp only [runFree, Option.bind_eq_some_iff] at h
    obtain ⟨s1, h1, h2⟩ := h
    obtain ⟨n, hn⟩ := free_to T X h1
    obtain ⟨m, hm⟩ := frees_to h2
    refine ⟨max n m, ?_⟩
    simp only [runFree, Option.bind_eq_some_iff]
    exact ⟨s1, free_mono (call_mono T X (Nat.le_max_left n m)) hn, frees_mono (call_mono T X (Nat.le_max_right n m)) hm⟩

theorem up_exec {n m k : Nat} (hn : n ≤ k) (hm : m ≤ k) {i : IR} {s : St} {r : Exit × St} (h : exec (call T X n) m i s = some r) : exec (call T X k) k i s = some r :=
  exec_mono (call_mono T X hn) hm h

theorem exec_to : ∀ {i : IR} {m : Nat} {s : St} {r : Exit × St}, exec (C T X) m i s = some r → ∃ n, exec (call T X n) n i s = some r := by
  intro i
  induction i with
  | skip => intro m s r h; exact ⟨0, h⟩
  | ops l => intro m s r h; simp only [exec, Option.map_eq_some_iff] at h ⊢; obtain ⟨s1, h1, h2⟩ := h; obtain ⟨n, hn⟩ := ops_to T X h1; exact ⟨n, s1, hn, h2⟩
  | free b l => intro m s r h; simp only [exec, Option.map_eq_some_iff] at h ⊢; obtain ⟨s1, h1, h2⟩ := h; obtain ⟨n, hn⟩ := frees_to T X h1; exact ⟨n, s1, hn, h2⟩
  | seq x y ihx ihy =>
    intro m s r h
    simp only [exec] at h ⊢
    cases hx : exec (C T X) m x s with
    | none => rw [hx] at h; cases h
    | some q =>
      rw [hx] at h
      obtain ⟨n, hn⟩ := ihx hx
      obtain ⟨e, s1⟩ := q
      cases e with
      | normal =>
        obtain ⟨k, hk⟩ := ihy h
        refine ⟨max n k, ?_⟩
        rw [up_exec T X (Nat.le_max_left n k) (Nat.le_max_left n k) hn]
        exact up_exec T X (Nat.le_max_right n k) (Nat.le_max_right n k) hk
      | _ => exact ⟨n, by rw [hn]; exact h⟩
  | cond b x y ihx ihy =>
    intro m s r h
    simp only [exec] at h ⊢
    split at h
    · split at h
      · rename_i hc; simp only [hc, if_true]; exact ihx h
      · rename_i hc; simp only [hc]; exact ihy h
    · cases h
  | block id x ih =>
    intro m s r h
    simp only [exec] at h ⊢
    cases hx : exec (C T X) m x s with
    | none => rw [hx] at h; cases h
    | some q => rw [hx] at h; obtain ⟨n, hn⟩ := ih hx; exact ⟨n, by rw [hn]; exact h⟩
  | loop x ih =>
    intro m s r h
    simp only [exec] at h ⊢
    have key : ∀ k s, iter (exec (C T X) m x) k s = some r → ∃ n, iter (exec (call T X n) n x) n s = some r := by
      intro k
      induction k with
      | zero => intro s h; cases h
      | succ k ihk =>
        intro s h
        simp only [iter] at h
        cases hx : exec (C T X) m x s with
        | none => rw [hx] at h; cases h
        | some q =>
          rw [hx] at h
          obtain ⟨n, hn⟩ := ih hx
          obtain ⟨e, s1⟩ := q
          cases e with
          | normal =>
            obtain ⟨j, hj⟩ := ihk s1 h
            refine ⟨max n j + 1, ?_⟩
            simp only [iter]
            rw [up_exec T X (k := max n j + 1) (by omega) (by omega) hn]
            exact iter_mono (fun s r h => up_exec T X (k := max n j + 1) (by omega) (by omega) h) (by omega) hj
          | _ =>
            refine ⟨n + 1, ?_⟩
            simp only [iter]
            rw [up_exec T X (k := n + 1) (by omega) (by omega) hn]
            exact h
    exact key m s h
  | exit id => intro m s r h; exact ⟨0, h⟩
  | ret => intro m s r h; exact ⟨0, h⟩

/-- The code ends so that 'Q' holds. -/
def W (i : IR) (s : St) (Q : Exit → St → Prop) : Prop := ∃ n e s', exec (C T X) n i s = some (e, s') ∧ Q e s'

/-- A function's code ends with results and memory that 'Q' holds of. -/
def Rets (F : Fun) (h : Heap) (r : Value × Heap) (e : Exit) (s : St) : Prop := (e = .normal ∨ e = .ret) ∧ ∃ v, results1 s F.res = some v ∧ finish h (v, s.h) = r

theorem C_intro {f : FuncId} {l : List Value} {h : Heap} {r : Value × Heap} {F : Fun} (hT : T f = some F) (hl : l.length = F.np) (hw : W T X F.body (start l h) (Rets F h r)) : C T X f l h = some r := by
  obtain ⟨n, e, s', he, hq, v, h1, h2⟩ := hw
  obtain ⟨m, hm⟩ := exec_to T X he
  refine C_of T X (n := m + 1) ?_
  rw [call_succ]
  simp only [hT, hl, if_true, hm]
  rcases hq with rfl | rfl <;> simp only [h1, Option.map_some, h2]

theorem W.mono {i : IR} {s : St} {Q R : Exit → St → Prop} (h : W T X i s Q) (hq : ∀ e s, Q e s → R e s) : W T X i s R := by
  obtain ⟨n, e, s', h1, h2⟩ := h
  exact ⟨n, e, s', h1, hq _ _ h2⟩

theorem W_skip {s : St} {Q : Exit → St → Prop} : W T X .skip s Q ↔ Q .normal s := by
  simp only [W, exec, Option.some.injEq, Prod.mk.injEq]
  exact ⟨fun ⟨_, _, _, ⟨h1, h2⟩, h⟩ => h1 ▸ h2 ▸ h, fun h => ⟨0, _, _, ⟨rfl, rfl⟩, h⟩⟩
theorem W_exit {s : St} {id : Nat} {Q : Exit → St → Prop} : W T X (.exit id) s Q ↔ Q (.exit id) s := by
  simp only [W, exec, Option.some.injEq, Prod.mk.injEq]
  exact ⟨fun ⟨_, _, _, ⟨h1, h2⟩, h⟩ => h1 ▸ h2 ▸ h, fun h => ⟨0, _, _, ⟨rfl, rfl⟩, h⟩⟩
theorem W_ret {s : St} {Q : Exit → St → Prop} : W T X .ret s Q ↔ Q .ret s := by
  simp only [W, exec, Option.some.injEq, Prod.mk.injEq]
  exact ⟨fun ⟨_, _, _, ⟨h1, h2⟩, h⟩ => h1 ▸ h2 ▸ h, fun h => ⟨0, _, _, ⟨rfl, rfl⟩, h⟩⟩

/-- Operations in the text's order. -/
def WO (l : List MOp) (s : St) (K : St → Prop) : Prop := ∃ s', runOps (C T X) l s = some s' ∧ K s'
/-- Operations of an open region. -/
def WF (last : Bool) (h0 : Heap) (l : List MOp) (s : St) (K : St → Prop) : Prop := ∃ s', runFree (C T X) last h0 l s = some s' ∧ K s'
/-- One operation. -/
def SO (o : MOp) (s : St) (K : St → Prop) : Prop := ∃ s', o.step (C T X) s = some s' ∧ K s'
def SF (last : Bool) (h0 : Heap) (o : MOp) (s : St) (K : St → Prop) : Prop := ∃ s', o.free (C T X) last h0 s = some s' ∧ K s'

theorem W_ops {l : List MOp} {s : St} {Q : Exit → St → Prop} : W T X (.ops l) s Q ↔ WO T X l s fun s' => Q .normal s'.close := by
  constructor
  · rintro ⟨n, e, s', h1, h2⟩
    simp only [exec, Option.map_eq_some_iff, Prod.mk.injEq] at h1
    obtain ⟨s1, h1, rfl, rfl⟩ := h1
    exact ⟨s1, h1, h2⟩
  · rintro ⟨s1, h1, h2⟩
    exact ⟨0, _, _, by simp only [exec, h1, Option.map_some], h2⟩
theorem W_free {last : Bool} {l : List MOp} {s : St} {Q : Exit → St → Prop} : W T X (.free last l) s Q ↔ WF T X last s.h l s fun s' => Q .normal s'.close := by
  constructor
  · rintro ⟨n, e, s', h1, h2⟩
    simp only [exec, Option.map_eq_some_iff, Prod.mk.injEq] at h1
    obtain ⟨s1, h1, rfl, rfl⟩ := h1
    exact ⟨s1, h1, h2⟩
  · rintro ⟨s1, h1, h2⟩
    exact ⟨0, _, _, by simp only [exec, h1, Option.map_some], h2⟩
theorem WO_nil {s : St} {K : St → Prop} : WO T X [] s K ↔ K s := by simp [WO, runOps]
theorem WF_nil {last : Bool} {h0 : Heap} {s : St} {K : St → Prop} : WF T X last h0 [] s K ↔ K s := by simp [WF, runFree]
theorem WO_cons {o : MOp} {l : List MOp} {s : St} {K : St → Prop} : WO T X (o :: l) s K ↔ SO T X o s fun s' => WO T X l s' K := by
  simp only [WO, SO, runOps, Option.bind_eq_some_iff]
  constructor
  · rintro ⟨s2, ⟨s1, h1, h2⟩, h3⟩; exact ⟨s1, h1, s2, h2, h3⟩
  · rintro ⟨s1, h1, s2, h2, h3⟩; exact ⟨s2, ⟨s1, h1, h2⟩, h3⟩
theorem WF_cons {last : Bool} {h0 : Heap} {o : MOp} {l : List MOp} {s : St} {K : St → Prop} : WF T X last h0 (o :: l) s K ↔ SF T X last h0 o s fun s' => WF T X last h0 l s' K := by
  simp only [WF, SF, runFree, Option.bind_eq_some_iff]
  constructor
  · rintro ⟨s2, ⟨s1, h1, h2⟩, h3⟩; exact ⟨s1, h1, s2, h2, h3⟩
  · rintro ⟨s1, h1, s2, h2, h3⟩; exact ⟨s2, ⟨s1, h1, h2⟩, h3⟩

theorem exec_up {n m : Nat} (h : n ≤ m) {i : IR} {s : St} {r : Exit × St} (hr : exec (C T X) n i s = some r) : exec (C T X) m i s = some r := exec_mono (fun _ _ _ _ h => h) h hr

/-- What comes behind. -/
def andThen (b : IR) (Q : Exit → St → Prop) : Exit → St → Prop
  | .normal, s => W T X b s Q
  | e, s => Q e s

theorem W_seq {x y : IR} {s : St} {Q : Exit → St → Prop} : W T X (.seq x y) s Q ↔ W T X x s (andThen T X y Q) := by
  constructor
  · rintro ⟨n, e, s', h1, h2⟩
    simp only [exec] at h1
    cases hx : exec (C T X) n x s with
    | none => rw [hx] at h1; cases h1
    | some q =>
      obtain ⟨e1, s1⟩ := q
      rw [hx] at h1
      refine ⟨n, e1, s1, hx, ?_⟩
      cases e1 with
      | normal => exact ⟨n, e, s', h1, h2⟩
      | _ => cases h1; exact h2
  · rintro ⟨n, e1, s1, h1, h2⟩
    cases e1 with
    | normal =>
      obtain ⟨m, e, s', h3, h4⟩ := h2
      refine ⟨max n m, e, s', ?_, h4⟩
      simp only [exec, exec_up T X (Nat.le_max_left n m) h1]
      exact exec_up T X (Nat.le_max_right n m) h3
    | _ => exact ⟨n, _, s1, by simp only [exec, h1], h2⟩

theorem W_cond {b : Opd} {x y : IR} {s : St} {Q : Exit → St → Prop} {c : Bool} (hc : s.val b = .bool c) : W T X (.cond b x y) s Q ↔ if c = true then W T X x s Q else W T X y s Q := by
  unfold W
  simp only [exec, hc]
  cases c <;> simp

/-- A block's way out is caught. -/
def catchAt (id : Nat) (Q : Exit → St → Prop) : Exit → St → Prop
  | .exit i, s => if i = id then Q .normal s else Q (.exit i) s
  | e, s => Q e s

theorem W_block {id : Nat} {x : IR} {s : St} {Q : Exit → St → Prop} : W T X (.block id x) s Q ↔ W T X x s (catchAt id Q) := by
  constructor
  · rintro ⟨n, e, s', h1, h2⟩
    simp only [exec] at h1
    cases hx : exec (C T X) n x s with
    | none => rw [hx] at h1; cases h1
    | some q =>
      obtain ⟨e1, s1⟩ := q
      rw [hx] at h1
      refine ⟨n, e1, s1, hx, ?_⟩
      cases e1 with
      | exit i =>
        simp only at h1
        unfold catchAt
        split at h1
        · rename_i hi; cases h1; simp only [hi, if_true]; exact h2
        · rename_i hi; cases h1; simp only [hi, if_false]; exact h2
      | _ => cases h1; exact h2
  · rintro ⟨n, e1, s1, h1, h2⟩
    cases e1 with
    | exit i =>
      unfold catchAt at h2
      simp only at h2
      split at h2
      · rename_i hi; exact ⟨n, _, s1, by simp only [exec, h1, hi, if_true], h2⟩
      · rename_i hi; exact ⟨n, _, s1, by simp only [exec, h1, hi, if_false], h2⟩
    | _ => exact ⟨n, _, s1, by simp only [exec, h1], h2⟩

/-- A round, and the rounds behind it. -/
theorem W_loop {x : IR} {s : St} {Q : Exit → St → Prop} (h : W T X x s (andThen T X (.loop x) Q)) : W T X (.loop x) s Q := by
  obtain ⟨n, e1, s1, h1, h2⟩ := h
  cases e1 with
  | normal =>
    obtain ⟨m, e, s', h3, h4⟩ := h2
    refine ⟨max n m + 1, e, s', ?_, h4⟩
    simp only [exec] at h3 ⊢
    simp only [iter]
    rw [exec_up T X (by omega) h1]
    exact iter_mono (fun s r h => exec_up T X (by omega) h) (by omega) h3
  | _ =>
    refine ⟨n + 1, _, s1, ?_, h2⟩
    simp only [exec, iter]
    rw [exec_up T X (by omega) h1]

/-- A loop with an invariant and a measure: the round keeps the one, and lets the other fall. -/
theorem W_while {x : IR} {Q : Exit → St → Prop} (I : Nat → St → Prop) (step : ∀ n s, I n s → W T X x s fun e s' => match e with | .normal => ∃ m, m < n ∧ I m s' | e => Q e s') : ∀ n s, I n s → W T X (.loop x) s Q := by
  intro n
  induction n using Nat.strongRecOn with
  | _ n ih =>
    intro s hs
    refine W_loop T X ((step n s hs).mono T X fun e s' h => ?_)
    cases e with
    | normal => obtain ⟨m, hm, hi⟩ := h; exact ih m hm s' hi
    | _ => exact h

end
end Go.Proofs.Ytlndlccbecnjoaa.Ab
