/- The rules by which the small language is stepped. No conditions. -/
import Derived.Test.YthfeahanmbmjhaaGreatDoorA2
set_option linter.unusedSimpArgs false
set_option linter.unusedVariables false
set_option linter.unnecessarySimpa false
set_option maxHeartbeats 4000000
/- The run without rounds to count: what calls and loops come to, by equations. No conditions. -/
namespace Go.Proofs.YthfeahanmbmjhaaGreatDoor.Ab
open Go.RowKit
abbrev CallF := FuncId → List Value → Heap → Option (Value × Heap)
/-- All that 'c' tells, 'd' tells. -/
def Below' (c d : CallF) : Prop := ∀ f l h r, c f l h = some r → d f l h = some r
section
variable {c d : CallF} {last : Bool} {h0 : Heap}
theorem go_mono (hb : Below' c d) {o : MOp} {s s' : St} (h : o.go c s = some s') : o.go d s = some s' := by
  unfold MOp.go at h ⊢
  split at h
  case h_9 f args hi =>
    simp only [Option.map_eq_some_iff] at h ⊢
    obtain ⟨r, hr, rfl⟩ := h
    exact ⟨r, hb _ _ _ _ hr, rfl⟩
  case h_10 f args hi =>
    split at h
    · simp only [Option.map_eq_some_iff] at h ⊢
      obtain ⟨r, hr, rfl⟩ := h
      exact ⟨r, hb _ _ _ _ hr, rfl⟩
    · cases h
  case h_11 f n sz ty e hi =>
    split at h
    · split at h
      · rename_i hc
        rw [if_pos hc]
        simp only [Option.map_eq_some_iff] at h ⊢
        obtain ⟨r, hr, rfl⟩ := h
        exact ⟨r, hb _ _ _ _ hr, rfl⟩
      · cases h
    · cases h
  all_goals exact h
theorem step_mono (hb : Below' c d) {o : MOp} {s s' : St} (h : o.step c s = some s') : o.step d s = some s' := by
  unfold MOp.step at h ⊢
  split at h
  · exact go_mono hb h
  · exact h
  · cases h
theorem ops_mono (hb : Below' c d) : ∀ {l : List MOp} {s s' : St}, runOps c l s = some s' → runOps d l s = some s'
  | [], _, _, h => h
  | o :: l, s, s', h => by
    simp only [runOps, Option.bind_eq_some_iff] at h ⊢
    obtain ⟨s1, h1, h2⟩ := h
    exact ⟨s1, step_mono hb h1, ops_mono hb h2⟩
open Classical in
theorem free_mono (hb : Below' c d) {o : MOp} {s s' : St} (h : o.free c last h0 s = some s') : o.free d last h0 s = some s' := by
  unfold MOp.free at h ⊢
  split at h
  · split at h
    · exact go_mono hb h
    · exact go_mono hb h
    · exact go_mono hb h
    · exact go_mono hb h
    · exact go_mono hb h
    · exact go_mono hb h
    · simp only [Option.bind_eq_some_iff] at h ⊢
      obtain ⟨r, hr, h⟩ := h
      exact ⟨r, hb _ _ _ _ hr, h⟩
    · split at h
      · split at h
        · rename_i hc
          rw [if_pos hc]
          simp only [Option.bind_eq_some_iff] at h ⊢
          obtain ⟨r, hr, h⟩ := h
          exact ⟨r, hb _ _ _ _ hr, h⟩
        · cases h
      · cases h
    · simp only [Option.bind_eq_some_iff] at h ⊢
      obtain ⟨r, hr, h⟩ := h
      exact ⟨r, go_mono hb hr, h⟩
    · exact h
  · exact h
  · cases h
theorem frees_mono (hb : Below' c d) : ∀ {l : List MOp} {s s' : St}, runFree c last h0 l s = some s' → runFree d last h0 l s = some s'
  | [], _, _, h => h
  | o :: l, s, s', h => by
    simp only [runFree, Option.bind_eq_some_iff] at h ⊢
    obtain ⟨s1, h1, h2⟩ := h
    exact ⟨s1, free_mono hb h1, frees_mono hb h2⟩
open Classical in
theorem opn_mono (hb : Below' c d) {g : Tag} {hs : List Heap} {o : MOp} {s s' : St} (h : o.opn c g hs s = some s') : o.opn d g hs s = some s' := by
  cases g with
  | l k =>
    simp only [MOp.opn, Option.bind_eq_some_iff] at h ⊢
    obtain ⟨t, ht, h⟩ := h
    refine ⟨t, free_mono hb ht, ?_⟩
    split at h
    · rename_i hall
      rw [if_pos fun h hh => free_mono hb (hall h hh)]
      exact h
    · cases h
  | m => exact free_mono hb h
  | c => exact free_mono hb h
theorem opns_mono (hb : Below' c d) : ∀ {l : List (Tag × MOp)} {hs : List Heap} {s s' : St}, runOpn c l hs s = some s' → runOpn d l hs s = some s'
  | [], _, _, _, h => h
  | (g, o) :: l, hs, s, s', h => by
    simp only [runOpn, Option.bind_eq_some_iff] at h ⊢
    obtain ⟨s1, h1, h2⟩ := h
    exact ⟨s1, opn_mono hb h1, opns_mono hb h2⟩
theorem iter_mono {f g : St → Option (Exit × St)} (hfg : ∀ s r, f s = some r → g s = some r) : ∀ {n m : Nat} {s : St} {r : Exit × St}, n ≤ m → iter f n s = some r → iter g m s = some r
  | 0, _, _, _, _, h => by cases h
  | n + 1, 0, _, _, hl, _ => by omega
  | n + 1, m + 1, s, r, hl, h => by
    simp only [iter] at h ⊢
    cases hf : f s with
    | none => rw [hf] at h; cases h
    | some q =>
      rw [hf] at h
      rw [hfg s q hf]
      obtain ⟨e, s1⟩ := q
      cases e with
      | normal => exact iter_mono hfg (by omega) h
      | _ => exact h
theorem exec_mono (hb : Below' c d) {n m : Nat} (hl : n ≤ m) : ∀ {i : IR} {s : St} {r : Exit × St}, exec c n i s = some r → exec d m i s = some r := by
  intro i
  induction i with
  | skip => intro s r h; exact h
  | ops l => intro s r h; simp only [exec, Option.map_eq_some_iff] at h ⊢; obtain ⟨s1, h1, h2⟩ := h; exact ⟨s1, ops_mono hb h1, h2⟩
  | free b l => intro s r h; simp only [exec, Option.map_eq_some_iff] at h ⊢; obtain ⟨s1, h1, h2⟩ := h; exact ⟨s1, frees_mono hb h1, h2⟩
  | opn l => intro s r h; simp only [exec, Option.map_eq_some_iff] at h ⊢; obtain ⟨s1, h1, h2⟩ := h; exact ⟨s1, opns_mono hb h1, h2⟩
  | seq x y ihx ihy =>
    intro s r h
    simp only [exec] at h ⊢
    cases hx : exec c n x s with
    | none => rw [hx] at h; cases h
    | some q =>
      rw [hx] at h
      rw [ihx hx]
      obtain ⟨e, s1⟩ := q
      cases e with
      | normal => exact ihy h
      | _ => exact h
  | cond b x y ihx ihy =>
    intro s r h
    simp only [exec] at h ⊢
    split at h
    · split at h
      · rename_i hc; rw [if_pos hc]; exact ihx h
      · rename_i hc; rw [if_neg hc]; exact ihy h
    · cases h
  | block id x ih =>
    intro s r h
    simp only [exec] at h ⊢
    cases hx : exec c n x s with
    | none => rw [hx] at h; cases h
    | some q => rw [hx] at h; rw [ih hx]; exact h
  | loop x ih =>
    intro s r h
    simp only [exec] at h ⊢
    exact iter_mono (fun s r => ih) hl h
  | exit id => intro s r h; exact h
  | ret => intro s r h; exact h
  | keep l => intro s r h; exact h
end
section
variable (T : FuncId → Option Fun) (X : CallF)
theorem call_succ (n : Nat) (f : FuncId) (l : List Value) (h : Heap) : call T X (n + 1) f l h = match T f with
    | some F => if l.length = F.np then
        match exec (call T X n) n F.body (start l h) with
        | some (.normal, s) => (results1 s F.res).map fun v => finish h (v, s.h)
        | some (.ret, s) => (results1 s F.res).map fun v => finish h (v, s.h)
        | _ => none
      else none
    | none => X f l h := rfl
theorem call_mono1 : ∀ n, Below' (call T X n) (call T X (n + 1))
  | 0 => fun f l h r hr => by cases hr
  | n + 1 => fun f l h r hr => by
    rw [call_succ] at hr ⊢
    cases hT : T f with
    | none => rw [hT] at hr; exact hr
    | some F =>
      rw [hT] at hr
      simp only at hr ⊢
      split at hr
      · rename_i hn
        rw [if_pos hn]
        cases he : exec (call T X n) n F.body (start l h) with
        | none => rw [he] at hr; cases hr
        | some q =>
          rw [he] at hr
          rw [exec_mono (call_mono1 n) (Nat.le_succ n) he]
          exact hr
      · cases hr
theorem call_mono {n m : Nat} (h : n ≤ m) : Below' (call T X n) (call T X m) := by
  induction h with
  | refl => exact fun _ _ _ _ h => h
  | step _ ih => exact fun f l h r hr => call_mono1 T X _ f l h r (ih f l h r hr)
open Classical in
/-- What a call comes to. -/
noncomputable def C (f : FuncId) (l : List Value) (h : Heap) : Option (Value × Heap) := if hr : ∃ n r, call T X n f l h = some r then some (Classical.choose (Classical.choose_spec hr)) else none
theorem C_of {n : Nat} {f : FuncId} {l : List Value} {h : Heap} {r : Value × Heap} (hr : call T X n f l h = some r) : C T X f l h = some r := by
  have hx : ∃ n r, call T X n f l h = some r := ⟨n, r, hr⟩
  unfold C
  rw [dif_pos hx]
  have h2 := Classical.choose_spec (Classical.choose_spec hx)
  have h3 := call_mono T X (Nat.le_max_left n (Classical.choose hx)) f l h _ hr
  have h4 := call_mono T X (Nat.le_max_right n (Classical.choose hx)) f l h _ h2
  rw [h3] at h4
  exact h4.symm
theorem C_to {f : FuncId} {l : List Value} {h : Heap} {r : Value × Heap} (hr : C T X f l h = some r) : ∃ n, call T X n f l h = some r := by
  unfold C at hr
  split at hr
  · rename_i hx
    cases hr
    exact ⟨_, Classical.choose_spec (Classical.choose_spec hx)⟩
  · cases hr
theorem call_C (n : Nat) : Below' (call T X n) (C T X) := fun _ _ _ _ h => C_of T X h
theorem step_to {o : MOp} {s s' : St} (h : o.step (C T X) s = some s') : ∃ n, o.step (call T X n) s = some s' := by
  unfold MOp.step at h ⊢
  split at h
  · unfold MOp.go at h ⊢
    split at h
    case h_9 f args hi =>
      simp only [Option.map_eq_some_iff] at h
      obtain ⟨r, hr, rfl⟩ := h
      obtain ⟨n, hn⟩ := C_to T X hr
      exact ⟨n, by simp only [hn, Option.map_some]⟩
    case h_10 f args hi =>
      split at h
      · rename_i g caps hf
        simp only [Option.map_eq_some_iff] at h
        obtain ⟨r, hr, rfl⟩ := h
        obtain ⟨n, hn⟩ := C_to T X hr
        exact ⟨n, by simp only [hn, Option.map_some]⟩
      · cases h
    case h_11 f n sz ty e hi =>
      split at h
      · split at h
        · rename_i hc
          simp only [Option.map_eq_some_iff] at h
          obtain ⟨r, hr, rfl⟩ := h
          obtain ⟨n, hn⟩ := C_to T X hr
          exact ⟨n, by rw [if_pos hc]; simp only [hn, Option.map_some]⟩
        · cases h
      · cases h
    all_goals exact ⟨0, h⟩
  · exact ⟨0, h⟩
  · cases h
theorem ops_to : ∀ {l : List MOp} {s s' : St}, runOps (C T X) l s = some s' → ∃ n, runOps (call T X n) l s = some s'
  | [], _, _, h => ⟨0, h⟩
  | o :: l, s, s', h => by
    simp only [runOps, Option.bind_eq_some_iff] at h
    obtain ⟨s1, h1, h2⟩ := h
    obtain ⟨n, hn⟩ := step_to T X h1
    obtain ⟨m, hm⟩ := ops_to h2
    refine ⟨max n m, ?_⟩
    simp only [runOps, Option.bind_eq_some_iff]
    exact ⟨s1, step_mono (call_mono T X (Nat.le_max_left n m)) hn, ops_mono (call_mono T X (Nat.le_max_right n m)) hm⟩
open Classical in
theorem free_to {last : Bool} {h0 : Heap} {o : MOp} {s s' : St} (h : o.free (C T X) last h0 s = some s') : ∃ n, o.free (call T X n) last h0 s = some s' := by
  unfold MOp.free at h ⊢
  split at h
  · have key : ∀ s', o.go (C T X) s = some s' → (∀ f l, o.ins ≠ .callV f l) → (∀ f l, o.ins ≠ .call f l) → (∀ f n sz ty e, o.ins ≠ .callL f n sz ty e) → o.go (call T X 0) s = some s' := by
      intro s' h h1 h2 h3
      unfold MOp.go at h ⊢
      split at h
      case h_9 f args hi => exact absurd hi (h2 _ _)
      case h_10 f args hi => exact absurd hi (h1 _ _)
      case h_11 f n sz ty e hi => exact absurd hi (h3 _ _ _ _ _)
      all_goals exact h
    split at h
    · rename_i hi; exact ⟨0, key _ h (by rw [hi]; intro _ _ h; cases h) (by rw [hi]; intro _ _ h; cases h) (by rw [hi]; intro _ _ _ _ _ h; cases h)⟩
    · rename_i hi; exact ⟨0, key _ h (by rw [hi]; intro _ _ h; cases h) (by rw [hi]; intro _ _ h; cases h) (by rw [hi]; intro _ _ _ _ _ h; cases h)⟩
    · rename_i hi; exact ⟨0, key _ h (by rw [hi]; intro _ _ h; cases h) (by rw [hi]; intro _ _ h; cases h) (by rw [hi]; intro _ _ _ _ _ h; cases h)⟩
    · rename_i hi; exact ⟨0, key _ h (by rw [hi]; intro _ _ h; cases h) (by rw [hi]; intro _ _ h; cases h) (by rw [hi]; intro _ _ _ _ _ h; cases h)⟩
    · rename_i hi; exact ⟨0, key _ h (by rw [hi]; intro _ _ h; cases h) (by rw [hi]; intro _ _ h; cases h) (by rw [hi]; intro _ _ _ _ _ h; cases h)⟩
    · rename_i hi; exact ⟨0, key _ h (by rw [hi]; intro _ _ h; cases h) (by rw [hi]; intro _ _ h; cases h) (by rw [hi]; intro _ _ _ _ _ h; cases h)⟩
    · simp only [Option.bind_eq_some_iff] at h
      obtain ⟨r, hr, h⟩ := h
      obtain ⟨n, hn⟩ := C_to T X hr
      exact ⟨n, by simp only [Option.bind_eq_some_iff]; exact ⟨r, hn, h⟩⟩
    · split at h
      · split at h
        · rename_i hc
          simp only [Option.bind_eq_some_iff] at h
          obtain ⟨r, hr, h⟩ := h
          obtain ⟨n, hn⟩ := C_to T X hr
          exact ⟨n, by rw [if_pos hc]; simp only [Option.bind_eq_some_iff]; exact ⟨r, hn, h⟩⟩
        · cases h
      · cases h
    · rename_i hi
      simp only [Option.bind_eq_some_iff] at h
      obtain ⟨r, hr, h⟩ := h
      exact ⟨0, by simp only [Option.bind_eq_some_iff]; exact ⟨r, key _ hr (by rw [hi]; intro _ _ h; cases h) (by rw [hi]; intro _ _ h; cases h) (by rw [hi]; intro _ _ _ _ _ h; cases h), h⟩⟩
    · exact ⟨0, h⟩
  · exact ⟨0, h⟩
  · cases h
theorem frees_to {last : Bool} {h0 : Heap} : ∀ {l : List MOp} {s s' : St}, runFree (C T X) last h0 l s = some s' → ∃ n, runFree (call T X n) last h0 l s = some s'
  | [], _, _, h => ⟨0, h⟩
  | o :: l, s, s', h => by
    simp only [runFree, Option.bind_eq_some_iff] at h
    obtain ⟨s1, h1, h2⟩ := h
    obtain ⟨n, hn⟩ := free_to T X h1
    obtain ⟨m, hm⟩ := frees_to h2
    refine ⟨max n m, ?_⟩
    simp only [runFree, Option.bind_eq_some_iff]
    exact ⟨s1, free_mono (call_mono T X (Nat.le_max_left n m)) hn, frees_mono (call_mono T X (Nat.le_max_right n m)) hm⟩
theorem all_to {h : Heap} {o : MOp} {s s' : St} : ∀ {l : List Heap}, (∀ h ∈ l, o.free (C T X) false h s = some s') → ∃ n, ∀ h ∈ l, o.free (call T X n) false h s = some s'
  | [], _ => ⟨0, fun h hh => by cases hh⟩
  | h :: l, hl => by
    obtain ⟨n, hn⟩ := free_to T X (hl h List.mem_cons_self)
    obtain ⟨m, hm⟩ := all_to (h := h) fun k hk => hl k (List.mem_cons_of_mem _ hk)
    refine ⟨max n m, fun k hk => ?_⟩
    rcases List.mem_cons.1 hk with e | e
    · rw [e]; exact free_mono (call_mono T X (Nat.le_max_left n m)) hn
    · exact free_mono (call_mono T X (Nat.le_max_right n m)) (hm k e)
open Classical in
theorem opn_to {g : Tag} {hs : List Heap} {o : MOp} {s s' : St} (h : o.opn (C T X) g hs s = some s') : ∃ n, o.opn (call T X n) g hs s = some s' := by
  cases g with
  | l k =>
    simp only [MOp.opn, Option.bind_eq_some_iff] at h ⊢
    obtain ⟨t, ht, h⟩ := h
    split at h
    · rename_i hall
      obtain ⟨n, hn⟩ := free_to T X ht
      obtain ⟨m, hm⟩ := all_to T X (h := []) hall
      refine ⟨max n m, t, free_mono (call_mono T X (Nat.le_max_left n m)) hn, ?_⟩
      rw [if_pos fun k hk => free_mono (call_mono T X (Nat.le_max_right n m)) (hm k hk)]
      exact h
    · cases h
  | m => exact free_to T X h
  | c => exact free_to T X h
theorem opns_to : ∀ {l : List (Tag × MOp)} {hs : List Heap} {s s' : St}, runOpn (C T X) l hs s = some s' → ∃ n, runOpn (call T X n) l hs s = some s'
  | [], _, _, _, h => ⟨0, h⟩
  | (g, o) :: l, hs, s, s', h => by
    simp only [runOpn, Option.bind_eq_some_iff] at h
    obtain ⟨s1, h1, h2⟩ := h
    obtain ⟨n, hn⟩ := opn_to T X h1
    obtain ⟨m, hm⟩ := opns_to h2
    refine ⟨max n m, ?_⟩
    simp only [runOpn, Option.bind_eq_some_iff]
    exact ⟨s1, opn_mono (call_mono T X (Nat.le_max_left n m)) hn, opns_mono (call_mono T X (Nat.le_max_right n m)) hm⟩
theorem up_exec {n m k : Nat} (hn : n ≤ k) (hm : m ≤ k) {i : IR} {s : St} {r : Exit × St} (h : exec (call T X n) m i s = some r) : exec (call T X k) k i s = some r :=
  exec_mono (call_mono T X hn) hm h
theorem exec_to : ∀ {i : IR} {m : Nat} {s : St} {r : Exit × St}, exec (C T X) m i s = some r → ∃ n, exec (call T X n) n i s = some r := by
  intro i
  induction i with
  | skip => intro m s r h; exact ⟨0, h⟩
  | ops l => intro m s r h; simp only [exec, Option.map_eq_some_iff] at h ⊢; obtain ⟨s1, h1, h2⟩ := h; obtain ⟨n, hn⟩ := ops_to T X h1; exact ⟨n, s1, hn, h2⟩
  | free b l => intro m s r h; simp only [exec, Option.map_eq_some_iff] at h ⊢; obtain ⟨s1, h1, h2⟩ := h; obtain ⟨n, hn⟩ := frees_to T X h1; exact ⟨n, s1, hn, h2⟩
  | opn l => intro m s r h; simp only [exec, Option.map_eq_some_iff] at h ⊢; obtain ⟨s1, h1, h2⟩ := h; obtain ⟨n, hn⟩ := opns_to T X h1; exact ⟨n, s1, hn, h2⟩
  | seq x y ihx ihy =>
    intro m s r h
    simp only [exec] at h ⊢
    cases hx : exec (C T X) m x s with
    | none => rw [hx] at h; cases h
    | some q =>
      rw [hx] at h
      obtain ⟨n, hn⟩ := ihx hx
      obtain ⟨e, s1⟩ := q
      cases e with
      | normal =>
        obtain ⟨k, hk⟩ := ihy h
        refine ⟨max n k, ?_⟩
        rw [up_exec T X (Nat.le_max_left n k) (Nat.le_max_left n k) hn]
        exact up_exec T X (Nat.le_max_right n k) (Nat.le_max_right n k) hk
      | _ => exact ⟨n, by rw [hn]; exact h⟩
  | cond b x y ihx ihy =>
    intro m s r h
    simp only [exec] at h ⊢
    split at h
    · split at h
      · rename_i hc; simp only [hc, if_true]; exact ihx h
      · rename_i hc; simp only [hc]; exact ihy h
    · cases h
  | block id x ih =>
    intro m s r h
    simp only [exec] at h ⊢
    cases hx : exec (C T X) m x s with
    | none => rw [hx] at h; cases h
    | some q => rw [hx] at h; obtain ⟨n, hn⟩ := ih hx; exact ⟨n, by rw [hn]; exact h⟩
  | loop x ih =>
    intro m s r h
    simp only [exec] at h ⊢
    have key : ∀ k s, iter (exec (C T X) m x) k s = some r → ∃ n, iter (exec (call T X n) n x) n s = some r := by
      intro k
      induction k with
      | zero => intro s h; cases h
      | succ k ihk =>
        intro s h
        simp only [iter] at h
        cases hx : exec (C T X) m x s with
        | none => rw [hx] at h; cases h
        | some q =>
          rw [hx] at h
          obtain ⟨n, hn⟩ := ih hx
          obtain ⟨e, s1⟩ := q
          cases e with
          | normal =>
            obtain ⟨j, hj⟩ := ihk s1 h
            refine ⟨max n j + 1, ?_⟩
            simp only [iter]
            rw [up_exec T X (k := max n j + 1) (by omega) (by omega) hn]
            exact iter_mono (fun s r h => up_exec T X (k := max n j + 1) (by omega) (by omega) h) (by omega) hj
          | _ =>
            refine ⟨n + 1, ?_⟩
            simp only [iter]
            rw [up_exec T X (k := n + 1) (by omega) (by omega) hn]
            exact h
    exact key m s h
  | exit id => intro m s r h; exact ⟨0, h⟩
  | ret => intro m s r h; exact ⟨0, h⟩
  | keep l => intro m s r h; exact ⟨0, h⟩
/-- The code ends so that 'Q' holds. -/
def W (i : IR) (s : St) (Q : Exit → St → Prop) : Prop := ∃ n e s', exec (C T X) n i s = some (e, s') ∧ Q e s'
/-- A function's code ends with results and memory that 'Q' holds of. -/
def Rets (F : Fun) (h : Heap) (r : Value × Heap) (e : Exit) (s : St) : Prop := (e = .normal ∨ e = .ret) ∧ ∃ v, results1 s F.res = some v ∧ finish h (v, s.h) = r
theorem C_intro {f : FuncId} {l : List Value} {h : Heap} {r : Value × Heap} {F : Fun} (hT : T f = some F) (hl : l.length = F.np) (hw : W T X F.body (start l h) (Rets F h r)) : C T X f l h = some r := by
  obtain ⟨n, e, s', he, hq, v, h1, h2⟩ := hw
  obtain ⟨m, hm⟩ := exec_to T X he
  refine C_of T X (n := m + 1) ?_
  rw [call_succ]
  simp only [hT, hl, if_true, hm]
  rcases hq with rfl | rfl <;> simp only [h1, Option.map_some, h2]
theorem W.mono {i : IR} {s : St} {Q R : Exit → St → Prop} (h : W T X i s Q) (hq : ∀ e s, Q e s → R e s) : W T X i s R := by
  obtain ⟨n, e, s', h1, h2⟩ := h
  exact ⟨n, e, s', h1, hq _ _ h2⟩
theorem W_skip {s : St} {Q : Exit → St → Prop} : W T X .skip s Q ↔ Q .normal s := by
  simp only [W, exec, Option.some.injEq, Prod.mk.injEq]
  exact ⟨fun ⟨_, _, _, ⟨h1, h2⟩, h⟩ => h1 ▸ h2 ▸ h, fun h => ⟨0, _, _, ⟨rfl, rfl⟩, h⟩⟩
theorem W_keep' {s : St} {l : List Nat} {Q : Exit → St → Prop} : W T X (.keep l) s Q ↔ Q .normal (s.keep l) := by
  simp only [W, exec, Option.some.injEq, Prod.mk.injEq]
  exact ⟨fun ⟨_, _, _, ⟨h1, h2⟩, h⟩ => h1 ▸ h2 ▸ h, fun h => ⟨0, _, _, ⟨rfl, rfl⟩, h⟩⟩
theorem W_exit {s : St} {id : Nat} {Q : Exit → St → Prop} : W T X (.exit id) s Q ↔ Q (.exit id) s := by
  simp only [W, exec, Option.some.injEq, Prod.mk.injEq]
  exact ⟨fun ⟨_, _, _, ⟨h1, h2⟩, h⟩ => h1 ▸ h2 ▸ h, fun h => ⟨0, _, _, ⟨rfl, rfl⟩, h⟩⟩
theorem W_ret {s : St} {Q : Exit → St → Prop} : W T X .ret s Q ↔ Q .ret s := by
  simp only [W, exec, Option.some.injEq, Prod.mk.injEq]
  exact ⟨fun ⟨_, _, _, ⟨h1, h2⟩, h⟩ => h1 ▸ h2 ▸ h, fun h => ⟨0, _, _, ⟨rfl, rfl⟩, h⟩⟩
/-- Operations in the text's order. -/
def WO (l : List MOp) (s : St) (K : St → Prop) : Prop := ∃ s', runOps (C T X) l s = some s' ∧ K s'
/-- Operations of an open region. -/
def WF (last : Bool) (h0 : Heap) (l : List MOp) (s : St) (K : St → Prop) : Prop := ∃ s', runFree (C T X) last h0 l s = some s' ∧ K s'
/-- One operation. -/
def SO (o : MOp) (s : St) (K : St → Prop) : Prop := ∃ s', o.step (C T X) s = some s' ∧ K s'
def SF (last : Bool) (h0 : Heap) (o : MOp) (s : St) (K : St → Prop) : Prop := ∃ s', o.free (C T X) last h0 s = some s' ∧ K s'
theorem W_ops {l : List MOp} {s : St} {Q : Exit → St → Prop} : W T X (.ops l) s Q ↔ WO T X l s fun s' => Q .normal s'.close := by
  constructor
  · rintro ⟨n, e, s', h1, h2⟩
    simp only [exec, Option.map_eq_some_iff, Prod.mk.injEq] at h1
    obtain ⟨s1, h1, rfl, rfl⟩ := h1
    exact ⟨s1, h1, h2⟩
  · rintro ⟨s1, h1, h2⟩
    exact ⟨0, _, _, by simp only [exec, h1, Option.map_some], h2⟩
theorem W_free {last : Bool} {l : List MOp} {s : St} {Q : Exit → St → Prop} : W T X (.free last l) s Q ↔ WF T X last s.h l s fun s' => Q .normal s'.close := by
  constructor
  · rintro ⟨n, e, s', h1, h2⟩
    simp only [exec, Option.map_eq_some_iff, Prod.mk.injEq] at h1
    obtain ⟨s1, h1, rfl, rfl⟩ := h1
    exact ⟨s1, h1, h2⟩
  · rintro ⟨s1, h1, h2⟩
    exact ⟨0, _, _, by simp only [exec, h1, Option.map_some], h2⟩
/-- Operations of a region whose looks may see more than one memory. -/
def WN (l : List (Tag × MOp)) (hs : List Heap) (s : St) (K : St → Prop) : Prop := ∃ s', runOpn (C T X) l hs s = some s' ∧ K s'
/-- In each of these memories. -/
def AllH (p : Heap → Prop) : List Heap → Prop
  | [] => True
  | h :: l => p h ∧ AllH p l
theorem allH_iff {p : Heap → Prop} : ∀ {l : List Heap}, AllH p l ↔ ∀ h ∈ l, p h
  | [] => by simp [AllH]
  | h :: l => by simp [AllH, allH_iff (l := l)]
def dropH (k : Nat) (l : List Heap) : List Heap := l.drop k
def snocH (l : List Heap) (h : Heap) : List Heap := l ++ [h]
theorem dropH_0 {l : List Heap} : dropH 0 l = l := rfl
theorem dropH_1 {a : Heap} {l : List Heap} : dropH 1 (a :: l) = l := rfl
theorem dropH_2 {a b : Heap} {l : List Heap} : dropH 2 (a :: b :: l) = l := rfl
theorem dropH_3 {a b c : Heap} {l : List Heap} : dropH 3 (a :: b :: c :: l) = l := rfl
theorem dropH_4 {a b c d : Heap} {l : List Heap} : dropH 4 (a :: b :: c :: d :: l) = l := rfl
theorem dropH_5 {a b c d e : Heap} {l : List Heap} : dropH 5 (a :: b :: c :: d :: e :: l) = l := rfl
theorem dropH_6 {a b c d e f : Heap} {l : List Heap} : dropH 6 (a :: b :: c :: d :: e :: f :: l) = l := rfl
theorem snocH_nil {h : Heap} : snocH [] h = [h] := rfl
theorem snocH_cons {h a : Heap} {l : List Heap} : snocH (a :: l) h = a :: snocH l h := rfl
theorem allH_nil {p : Heap → Prop} : AllH p [] ↔ True := Iff.rfl
theorem allH_cons {p : Heap → Prop} {h : Heap} {l : List Heap} : AllH p (h :: l) ↔ p h ∧ AllH p l := Iff.rfl
theorem W_opn {l : List (Tag × MOp)} {s : St} {Q : Exit → St → Prop} : W T X (.opn l) s Q ↔ WN T X l [s.h] s fun s' => Q .normal s'.close := by
  constructor
  · rintro ⟨n, e, s', h1, h2⟩
    simp only [exec, Option.map_eq_some_iff, Prod.mk.injEq] at h1
    obtain ⟨s1, h1, rfl, rfl⟩ := h1
    exact ⟨s1, h1, h2⟩
  · rintro ⟨s1, h1, h2⟩
    exact ⟨0, _, _, by simp only [exec, h1, Option.map_some], h2⟩
theorem WN_nil {hs : List Heap} {s : St} {K : St → Prop} : WN T X [] hs s K ↔ K s := by simp [WN, runOpn]
theorem WN_c {o : MOp} {l : List (Tag × MOp)} {hs : List Heap} {s : St} {K : St → Prop} : WN T X ((.c, o) :: l) hs s K ↔ SF T X true [] o s fun s' => WN T X l hs s' K := by
  simp only [WN, SF, runOpn, MOp.opn, nextH, Option.bind_eq_some_iff]
  constructor
  · rintro ⟨s2, ⟨s1, h1, h2⟩, h3⟩; exact ⟨s1, h1, s2, h2, h3⟩
  · rintro ⟨s1, h1, s2, h2, h3⟩; exact ⟨s2, ⟨s1, h1, h2⟩, h3⟩
theorem WN_m {o : MOp} {l : List (Tag × MOp)} {hs : List Heap} {s : St} {K : St → Prop} : WN T X ((.m, o) :: l) hs s K ↔ SF T X true [] o s fun s' => WN T X l (snocH hs s'.h) s' K := by
  simp only [snocH, WN, SF, runOpn, MOp.opn, nextH, Option.bind_eq_some_iff]
  constructor
  · rintro ⟨s2, ⟨s1, h1, h2⟩, h3⟩; exact ⟨s1, h1, s2, h2, h3⟩
  · rintro ⟨s1, h1, s2, h2, h3⟩; exact ⟨s2, ⟨s1, h1, h2⟩, h3⟩
open Classical in
theorem WN_l {k : Nat} {o : MOp} {l : List (Tag × MOp)} {hs : List Heap} {s : St} {K : St → Prop} : WN T X ((.l k, o) :: l) hs s K ↔ SF T X false s.h o s fun s' => AllH (fun h => SF T X false h o s fun s2 => s2 = s') (dropH k hs) ∧ WN T X l hs s' K := by
  have e : ∀ h s', (SF T X false h o s fun s2 => s2 = s') ↔ o.free (C T X) false h s = some s' := fun h s' => by
    unfold SF
    constructor
    · rintro ⟨s2, h1, rfl⟩; exact h1
    · intro h1; exact ⟨_, h1, rfl⟩
  simp only [dropH, WN, runOpn, MOp.opn, nextH, Option.bind_eq_some_iff, allH_iff, e]
  unfold SF
  constructor
  · rintro ⟨s2, ⟨s1, ⟨s0, h1, h2⟩, h3⟩, h4⟩
    split at h2
    · rename_i hall
      cases h2
      exact ⟨s1, h1, hall, s2, h3, h4⟩
    · cases h2
  · rintro ⟨s1, h1, hall, s2, h3, h4⟩
    exact ⟨s2, ⟨s1, ⟨s1, h1, if_pos hall⟩, h3⟩, h4⟩
theorem WO_nil {s : St} {K : St → Prop} : WO T X [] s K ↔ K s := by simp [WO, runOps]
theorem WF_nil {last : Bool} {h0 : Heap} {s : St} {K : St → Prop} : WF T X last h0 [] s K ↔ K s := by simp [WF, runFree]
theorem WO_cons {o : MOp} {l : List MOp} {s : St} {K : St → Prop} : WO T X (o :: l) s K ↔ SO T X o s fun s' => WO T X l s' K := by
  simp only [WO, SO, runOps, Option.bind_eq_some_iff]
  constructor
  · rintro ⟨s2, ⟨s1, h1, h2⟩, h3⟩; exact ⟨s1, h1, s2, h2, h3⟩
  · rintro ⟨s1, h1, s2, h2, h3⟩; exact ⟨s2, ⟨s1, h1, h2⟩, h3⟩
theorem WF_cons {last : Bool} {h0 : Heap} {o : MOp} {l : List MOp} {s : St} {K : St → Prop} : WF T X last h0 (o :: l) s K ↔ SF T X last h0 o s fun s' => WF T X last h0 l s' K := by
  simp only [WF, SF, runFree, Option.bind_eq_some_iff]
  constructor
  · rintro ⟨s2, ⟨s1, h1, h2⟩, h3⟩; exact ⟨s1, h1, s2, h2, h3⟩
  · rintro ⟨s1, h1, s2, h2, h3⟩; exact ⟨s2, ⟨s1, h1, h2⟩, h3⟩
theorem exec_up {n m : Nat} (h : n ≤ m) {i : IR} {s : St} {r : Exit × St} (hr : exec (C T X) n i s = some r) : exec (C T X) m i s = some r := exec_mono (fun _ _ _ _ h => h) h hr
/-- What comes behind. -/
def andThen (b : IR) (Q : Exit → St → Prop) : Exit → St → Prop
  | .normal, s => W T X b s Q
  | e, s => Q e s
theorem W_seq {x y : IR} {s : St} {Q : Exit → St → Prop} : W T X (.seq x y) s Q ↔ W T X x s (andThen T X y Q) := by
  constructor
  · rintro ⟨n, e, s', h1, h2⟩
    simp only [exec] at h1
    cases hx : exec (C T X) n x s with
    | none => rw [hx] at h1; cases h1
    | some q =>
      obtain ⟨e1, s1⟩ := q
      rw [hx] at h1
      refine ⟨n, e1, s1, hx, ?_⟩
      cases e1 with
      | normal => exact ⟨n, e, s', h1, h2⟩
      | _ => cases h1; exact h2
  · rintro ⟨n, e1, s1, h1, h2⟩
    cases e1 with
    | normal =>
      obtain ⟨m, e, s', h3, h4⟩ := h2
      refine ⟨max n m, e, s', ?_, h4⟩
      simp only [exec, exec_up T X (Nat.le_max_left n m) h1]
      exact exec_up T X (Nat.le_max_right n m) h3
    | _ => exact ⟨n, _, s1, by simp only [exec, h1], h2⟩
theorem W_cond {b : Opd} {x y : IR} {s : St} {Q : Exit → St → Prop} {c : Bool} (hc : s.val b = .bool c) : W T X (.cond b x y) s Q ↔ if c = true then W T X x s Q else W T X y s Q := by
  unfold W
  simp only [exec, hc]
  cases c <;> simp
/-- A block's way out is caught. -/
def catchAt (id : Nat) (Q : Exit → St → Prop) : Exit → St → Prop
  | .exit i, s => if i = id then Q .normal s else Q (.exit i) s
  | e, s => Q e s
theorem W_block {id : Nat} {x : IR} {s : St} {Q : Exit → St → Prop} : W T X (.block id x) s Q ↔ W T X x s (catchAt id Q) := by
  constructor
  · rintro ⟨n, e, s', h1, h2⟩
    simp only [exec] at h1
    cases hx : exec (C T X) n x s with
    | none => rw [hx] at h1; cases h1
    | some q =>
      obtain ⟨e1, s1⟩ := q
      rw [hx] at h1
      refine ⟨n, e1, s1, hx, ?_⟩
      cases e1 with
      | exit i =>
        simp only at h1
        unfold catchAt
        split at h1
        · rename_i hi; cases h1; simp only [hi, if_true]; exact h2
        · rename_i hi; cases h1; simp only [hi, if_false]; exact h2
      | _ => cases h1; exact h2
  · rintro ⟨n, e1, s1, h1, h2⟩
    cases e1 with
    | exit i =>
      unfold catchAt at h2
      simp only at h2
      split at h2
      · rename_i hi; exact ⟨n, _, s1, by simp only [exec, h1, hi, if_true], h2⟩
      · rename_i hi; exact ⟨n, _, s1, by simp only [exec, h1, hi, if_false], h2⟩
    | _ => exact ⟨n, _, s1, by simp only [exec, h1], h2⟩
/-- A round, and the rounds behind it. -/
theorem W_loop {x : IR} {s : St} {Q : Exit → St → Prop} (h : W T X x s (andThen T X (.loop x) Q)) : W T X (.loop x) s Q := by
  obtain ⟨n, e1, s1, h1, h2⟩ := h
  cases e1 with
  | normal =>
    obtain ⟨m, e, s', h3, h4⟩ := h2
    refine ⟨max n m + 1, e, s', ?_, h4⟩
    simp only [exec] at h3 ⊢
    simp only [iter]
    rw [exec_up T X (by omega) h1]
    exact iter_mono (fun s r h => exec_up T X (by omega) h) (by omega) h3
  | _ =>
    refine ⟨n + 1, _, s1, ?_, h2⟩
    simp only [exec, iter]
    rw [exec_up T X (by omega) h1]
/-- A loop with an invariant and a measure: the round keeps the one, and lets the other fall. -/
theorem W_while {x : IR} {Q : Exit → St → Prop} (I : Nat → St → Prop) (step : ∀ n s, I n s → W T X x s fun e s' => match e with | .normal => ∃ m, m < n ∧ I m s' | e => Q e s') : ∀ n s, I n s → W T X (.loop x) s Q := by
  intro n
  induction n using Nat.strongRecOn with
  | _ n ih =>
    intro s hs
    refine W_loop T X ((step n s hs).mono T X fun e s' h => ?_)
    cases e with
    | normal => obtain ⟨m, hm, hi⟩ := h; exact ih m hm s' hi
    | _ => exact h
end
end Go.Proofs.YthfeahanmbmjhaaGreatDoor.Ab
/- The rules by which the small language is stepped. No conditions. -/
namespace Go.Proofs.YthfeahanmbmjhaaGreatDoor.Ab
open Go.RowKit
def ov (t : Nat → Value) : Opd → Value
  | .t n => t n
  | .c v => v
theorem ov_t {t : Nat → Value} {n : Nat} : ov t (.t n) = t n := rfl
theorem ov_c {t : Nat → Value} {v : Value} : ov t (.c v) = v := rfl
def oov (t : Nat → Value) : Option Opd → Option Value
  | some x => some (ov t x)
  | none => none
theorem oov_some {t : Nat → Value} {x : Opd} : oov t (some x) = some (ov t x) := rfl
theorem oov_none {t : Nat → Value} : oov t none = none := rfl
def ovs (t : Nat → Value) : List Opd → List Value
  | [] => []
  | x :: l => ov t x :: ovs t l
theorem ovs_nil {t : Nat → Value} : ovs t [] = [] := rfl
theorem ovs_cons {t : Nat → Value} {x : Opd} {l : List Opd} : ovs t (x :: l) = ov t x :: ovs t l := rfl
def pls (t : Nat → Value) : List (Nat × Nat × Opd) → List (Nat × Nat × Value)
  | [] => []
  | (a, b, x) :: l => (a, b, ov t x) :: pls t l
theorem pls_nil {t : Nat → Value} : pls t [] = [] := rfl
theorem pls_cons {t : Nat → Value} {a b : Nat} {x : Opd} {l : List (Nat × Nat × Opd)} : pls t ((a, b, x) :: l) = (a, b, ov t x) :: pls t l := rfl
def prs (t : Nat → Value) : List (Nat × Opd) → List (Nat × Value)
  | [] => []
  | (a, x) :: l => (a, ov t x) :: prs t l
theorem prs_nil {t : Nat → Value} : prs t [] = [] := rfl
theorem prs_cons {t : Nat → Value} {a : Nat} {x : Opd} {l : List (Nat × Opd)} : prs t ((a, x) :: l) = (a, ov t x) :: prs t l := rfl
theorem pls_map {t : Nat → Value} {l : List (Nat × Nat × Opd)} : (l.map fun p => (p.1, p.2.1, ov t p.2.2)) = pls t l := by
  induction l with
  | nil => rfl
  | cons x l ih => obtain ⟨a, b, x⟩ := x; rw [List.map_cons, ih]; rfl
theorem prs_map {t : Nat → Value} {l : List (Nat × Opd)} : (l.map fun p => (p.1, ov t p.2)) = prs t l := by
  induction l with
  | nil => rfl
  | cons x l ih => obtain ⟨a, x⟩ := x; rw [List.map_cons, ih]; rfl
def pickV (c a b : Value) : Option Value := match c with
  | .bool c => some (if c = true then a else b)
  | _ => none
def eqSV (ks : List Nat) (neg : Bool) (x y : Value) : Option Value := match x, y with
  | .agg ⟨xs⟩, .agg ⟨ys⟩ => (eqCells ks xs ys).map fun b => .bool (if neg = true then !b else b)
  | _, _ => none
def convV (k : IntKind) : Value → Option Value
  | .int _ n => some (.int k (k.wrap n))
  | _ => none
def flV (off n : Nat) (agg : Bool) : Value → Option Value
  | .agg ⟨xs⟩ => if off + n ≤ xs.length then ofCells agg ((xs.drop off).take n) else none
  | _ => none
def lnSV : Value → Option Value
  | .string b => some (.int .i64 b.size)
  | _ => none
def extV (i : Nat) : Value → Option Value
  | .tuple ⟨xs⟩ => xs[i]?
  | _ => none
def chkV (h : Heap) (x : Value) : Option Value := (ldC h x 0).map fun _ => x
def mmV (isMax : Bool) : Value → Value → Option Value
  | .int k a, .int _ b => some (.int k (if isMax = true then (if b > a then b else a) else (if b < a then b else a)))
  | _, _ => none
def fnV (f : Fn) (l : List Value) : Option Value := if l.all isBase = true then some (.func f #[] ⟨l⟩) else none
def ldBV (n : Nat) (agg : Bool) : Option (List Value) → Option Value
  | some cs => if n ≤ cs.length then ofCells agg (cs.take n) else none
  | none => none
def ldEV (n : Nat) (agg : Bool) (d : Nat) : Option (Nat × Nat) → Option (List Value) → Option Value
  | some (d', off), some cs => if d' = d ∧ off + n ≤ cs.length then ofCells agg ((cs.drop off).take n) else none
  | _, _ => none
def strLV (n : Nat) : Option (List Value) → Option Value
  | some cs => if cs.length = n then (ints8 cs).map fun ns => .string (strOfNums ns) else none
  | none => none
def appW (h : Heap) (sz : Nat) (ty : TypeId) (x : Value) : Value → Option (Value × Heap)
  | .slice a n c => (rowC h sz (.slice a n c)).bind fun cs => appV h sz ty x cs n
  | _ => none
def appLW (h : Heap) (sz : Nat) (ty : TypeId) (n : Nat) (x : Value) : Option (List Value) → Option (Value × Heap)
  | some cs => if cs.length = n * sz then appV h sz ty x cs n else none
  | none => none
def mkW (h : Heap) (sz : Nat) (ty : TypeId) (z : List Value) : Value → Option (Value × Heap)
  | .int .i64 n => if 0 ≤ n ∧ n ≤ lim then some (.slice (some ⟨h.length, 0, none⟩) n.toNat n.toNat, h ++ [⟨zeros z n.toNat, sz, ty, true⟩]) else none
  | _ => none
def bxW (h : Heap) (ty : TypeId) (n : Nat) (x : Value) : Option (Value × Heap) := match cellsOf x with
  | some cs => if cs.length = n then some (.pointer (some ⟨h.length, 0, some n⟩), h ++ [⟨cs, n, ty, true⟩]) else none
  | none => none
/-- What goes on with a value, if there is one. -/
def VK {α : Type} (o : Option α) (K : α → Prop) : Prop := ∃ v, o = some v ∧ K v
theorem VK_some {α : Type} {v : α} {K : α → Prop} : VK (some v) K ↔ K v := by simp [VK]
theorem VK_none {α : Type} {K : α → Prop} : VK (none : Option α) K ↔ False := by simp [VK]
theorem VK_ite {α : Type} {c : Prop} [Decidable c] {a b : Option α} {K : α → Prop} : VK (if c then a else b) K ↔ if c then VK a K else VK b K := by split <;> rfl
theorem VK_must {α : Type} {c : Prop} [Decidable c] {a : Option α} {K : α → Prop} : VK (if c then a else none) K ↔ c ∧ VK a K := by split <;> simp [VK, *]
theorem VK_map {α β : Type} {o : Option α} {f : α → β} {K : β → Prop} : VK (o.map f) K ↔ VK o fun v => K (f v) := by
  cases o <;> simp [VK]
theorem VK_bind {α β : Type} {o : Option α} {f : α → Option β} {K : β → Prop} : VK (o.bind f) K ↔ VK o fun v => VK (f v) K := by
  cases o <;> simp [VK]
section
variable {T : FuncId → Option Fun} {X : CallF} {t : Nat → Value} {loc : Nat → Option (List Value)} {al : Nat → Option (Nat × Nat)} {h h0 : Heap} {d : Nat} {K : St → Prop} {Q : Exit → St → Prop} {last : Bool}
theorem val_ov {x : Opd} : St.val ⟨t, loc, al, h⟩ x = ov t x := by cases x <;> rfl
theorem oval_ov {x : Option Opd} : x.map (St.val ⟨t, loc, al, h⟩) = oov t x := by cases x <;> simp [oov, val_ov]
theorem vals_ov {l : List Opd} : l.map (St.val ⟨t, loc, al, h⟩) = ovs t l := by
  induction l with
  | nil => rfl
  | cons x l ih => rw [List.map_cons, ih, val_ov]; rfl
theorem places_ov {l : List (Nat × Nat × Opd)} : (l.map fun p => (p.1, p.2.1, St.val ⟨t, loc, al, h⟩ p.2.2)) = pls t l := by
  induction l with
  | nil => rfl
  | cons x l ih => obtain ⟨a, b, x⟩ := x; rw [List.map_cons, ih, val_ov]; rfl
theorem parts_ov {l : List (Nat × Opd)} : (l.map fun p => (p.1, St.val ⟨t, loc, al, h⟩ p.2)) = prs t l := by
  induction l with
  | nil => rfl
  | cons x l ih => obtain ⟨a, x⟩ := x; rw [List.map_cons, ih, val_ov]; rfl
theorem so_val {i : MI} {o : Option Value} (hg : ∀ s, MOp.go (C T X) ⟨some d, i, none⟩ s = (i.run s).map fun r => { s.put (some d) r.1 with h := r.2 }) (hr : i.run ⟨t, loc, al, h⟩ = o.map fun v => (v, h)) :
    SO T X ⟨some d, i, none⟩ ⟨t, loc, al, h⟩ K ↔ VK o fun v => K ⟨upd t d v, loc, al, h⟩ := by
  unfold SO MOp.step
  simp only [MOp.want, hg, hr, Option.map_map, VK]
  cases o <;> simp [St.put]
open Classical in
theorem sf_val {i : MI} {o : Option Value} (hg : ∀ s, MOp.free (C T X) last h0 ⟨some d, i, none⟩ s = (i.run { s with h := pickH last s.h h0 }).map fun r => s.put (some d) r.1) (hr : i.run ⟨t, loc, al, pickH last h h0⟩ = o.map fun v => (v, pickH last h h0)) :
    SF T X last h0 ⟨some d, i, none⟩ ⟨t, loc, al, h⟩ K ↔ VK o fun v => K ⟨upd t d v, loc, al, h⟩ := by
  unfold SF
  simp only [hg, hr, Option.map_map, VK]
  cases o <;> simp [St.put]
theorem so_make {i : MI} {o : Option (Value × Heap)} (hg : ∀ s, MOp.go (C T X) ⟨some d, i, none⟩ s = (i.run s).map fun r => { s.put (some d) r.1 with h := r.2 }) (hr : i.run ⟨t, loc, al, h⟩ = o) :
    SO T X ⟨some d, i, none⟩ ⟨t, loc, al, h⟩ K ↔ VK o fun r => K ⟨upd t d r.1, loc, al, r.2⟩ := by
  unfold SO MOp.step
  simp only [MOp.want, hg, hr, VK]
  cases o <;> simp [St.put]
open Classical in
theorem sf_make {i : MI} {o : Option (Value × Heap)} (hg : ∀ s, MOp.free (C T X) last h0 ⟨some d, i, none⟩ s = (i.run s).bind fun r => if last = true ∨ h0 <+: r.2 then some { s.put (some d) r.1 with h := r.2 } else none) (hr : i.run ⟨t, loc, al, h⟩ = o) :
    SF T X last h0 ⟨some d, i, none⟩ ⟨t, loc, al, h⟩ K ↔ VK o fun r => (last = true ∨ h0 <+: r.2) ∧ K ⟨upd t d r.1, loc, al, r.2⟩ := by
  unfold SF
  simp only [hg, hr, VK]
  cases o with
  | none => simp
  | some r =>
    simp only [Option.bind_some, Option.some.injEq, exists_eq_left']
    by_cases hc : last = true ∨ h0 <+: r.2
    · simp [hc, St.put]
    · simp [hc]
theorem so_mov {x : Opd} : SO T X ⟨some d, .mov x, none⟩ ⟨t, loc, al, h⟩ K ↔ VK (some (ov t x)) fun v => K ⟨upd t d v, loc, al, h⟩ :=
  so_val (fun s => rfl) (by simp only [MI.run, val_ov, oval_ov, vals_ov, places_ov]; (try rfl))
theorem sf_mov {x : Opd} : SF T X last h0 ⟨some d, .mov x, none⟩ ⟨t, loc, al, h⟩ K ↔ VK (some (ov t x)) fun v => K ⟨upd t d v, loc, al, h⟩ :=
  sf_val (fun s => by simp [MOp.free, MOp.want, MI.makes, MI.reads]) (by simp only [MI.run, val_ov, oval_ov, vals_ov, places_ov]; (try rfl))
theorem so_pick {c a b : Opd} : SO T X ⟨some d, .pick c a b, none⟩ ⟨t, loc, al, h⟩ K ↔ VK (pickV (ov t c) (ov t a) (ov t b)) fun v => K ⟨upd t d v, loc, al, h⟩ :=
  so_val (fun s => rfl) (by simp only [MI.run, val_ov, oval_ov, vals_ov, places_ov]; unfold pickV; cases ov t c <;> rfl)
theorem sf_pick {c a b : Opd} : SF T X last h0 ⟨some d, .pick c a b, none⟩ ⟨t, loc, al, h⟩ K ↔ VK (pickV (ov t c) (ov t a) (ov t b)) fun v => K ⟨upd t d v, loc, al, h⟩ :=
  sf_val (fun s => by simp [MOp.free, MOp.want, MI.makes, MI.reads]) (by simp only [MI.run, val_ov, oval_ov, vals_ov, places_ov]; unfold pickV; cases ov t c <;> rfl)
theorem so_bin {op : BinOp} {x y : Opd} : SO T X ⟨some d, .bin op x y, none⟩ ⟨t, loc, al, h⟩ K ↔ VK (binV op (ov t x) (ov t y)) fun v => K ⟨upd t d v, loc, al, h⟩ :=
  so_val (fun s => rfl) (by simp only [MI.run, val_ov, oval_ov, vals_ov, places_ov]; (try rfl))
theorem sf_bin {op : BinOp} {x y : Opd} : SF T X last h0 ⟨some d, .bin op x y, none⟩ ⟨t, loc, al, h⟩ K ↔ VK (binV op (ov t x) (ov t y)) fun v => K ⟨upd t d v, loc, al, h⟩ :=
  sf_val (fun s => by simp [MOp.free, MOp.want, MI.makes, MI.reads]) (by simp only [MI.run, val_ov, oval_ov, vals_ov, places_ov]; (try rfl))
theorem so_binB {op : BinOp} {x y : Opd} : SO T X ⟨some d, .binB op x y, none⟩ ⟨t, loc, al, h⟩ K ↔ VK (binBV op (ov t x) (ov t y)) fun v => K ⟨upd t d v, loc, al, h⟩ :=
  so_val (fun s => rfl) (by simp only [MI.run, val_ov, oval_ov, vals_ov, places_ov]; (try rfl))
theorem sf_binB {op : BinOp} {x y : Opd} : SF T X last h0 ⟨some d, .binB op x y, none⟩ ⟨t, loc, al, h⟩ K ↔ VK (binBV op (ov t x) (ov t y)) fun v => K ⟨upd t d v, loc, al, h⟩ :=
  sf_val (fun s => by simp [MOp.free, MOp.want, MI.makes, MI.reads]) (by simp only [MI.run, val_ov, oval_ov, vals_ov, places_ov]; (try rfl))
theorem so_eqS {ks : List Nat} {neg : Bool} {x y : Opd} : SO T X ⟨some d, .eqS ks neg x y, none⟩ ⟨t, loc, al, h⟩ K ↔ VK (eqSV ks neg (ov t x) (ov t y)) fun v => K ⟨upd t d v, loc, al, h⟩ :=
  so_val (fun s => rfl) (by simp only [MI.run, val_ov, oval_ov, vals_ov, places_ov]; unfold eqSV; (cases ov t x with | agg a => (cases ov t y with | agg b => (obtain ⟨a⟩ := a; obtain ⟨b⟩ := b; simp [Option.map_map, Function.comp_def]) | _ => rfl) | _ => rfl))
theorem sf_eqS {ks : List Nat} {neg : Bool} {x y : Opd} : SF T X last h0 ⟨some d, .eqS ks neg x y, none⟩ ⟨t, loc, al, h⟩ K ↔ VK (eqSV ks neg (ov t x) (ov t y)) fun v => K ⟨upd t d v, loc, al, h⟩ :=
  sf_val (fun s => by simp [MOp.free, MOp.want, MI.makes, MI.reads]) (by simp only [MI.run, val_ov, oval_ov, vals_ov, places_ov]; unfold eqSV; (cases ov t x with | agg a => (cases ov t y with | agg b => (obtain ⟨a⟩ := a; obtain ⟨b⟩ := b; simp [Option.map_map, Function.comp_def]) | _ => rfl) | _ => rfl))
theorem so_un {op : UnOp} {x : Opd} : SO T X ⟨some d, .un op x, none⟩ ⟨t, loc, al, h⟩ K ↔ VK (unV op (ov t x)) fun v => K ⟨upd t d v, loc, al, h⟩ :=
  so_val (fun s => rfl) (by simp only [MI.run, val_ov, oval_ov, vals_ov, places_ov]; (try rfl))
theorem sf_un {op : UnOp} {x : Opd} : SF T X last h0 ⟨some d, .un op x, none⟩ ⟨t, loc, al, h⟩ K ↔ VK (unV op (ov t x)) fun v => K ⟨upd t d v, loc, al, h⟩ :=
  sf_val (fun s => by simp [MOp.free, MOp.want, MI.makes, MI.reads]) (by simp only [MI.run, val_ov, oval_ov, vals_ov, places_ov]; (try rfl))
theorem so_conv {k : IntKind} {x : Opd} : SO T X ⟨some d, .conv k x, none⟩ ⟨t, loc, al, h⟩ K ↔ VK (convV k (ov t x)) fun v => K ⟨upd t d v, loc, al, h⟩ :=
  so_val (fun s => rfl) (by simp only [MI.run, val_ov, oval_ov, vals_ov, places_ov]; unfold convV; cases ov t x <;> rfl)
theorem sf_conv {k : IntKind} {x : Opd} : SF T X last h0 ⟨some d, .conv k x, none⟩ ⟨t, loc, al, h⟩ K ↔ VK (convV k (ov t x)) fun v => K ⟨upd t d v, loc, al, h⟩ :=
  sf_val (fun s => by simp [MOp.free, MOp.want, MI.makes, MI.reads]) (by simp only [MI.run, val_ov, oval_ov, vals_ov, places_ov]; unfold convV; cases ov t x <;> rfl)
theorem so_str {x : Opd} : SO T X ⟨some d, .str x, none⟩ ⟨t, loc, al, h⟩ K ↔ VK (strV h (ov t x)) fun v => K ⟨upd t d v, loc, al, h⟩ :=
  so_val (fun s => rfl) (by simp only [MI.run, val_ov, oval_ov, vals_ov, places_ov]; (try rfl))
theorem sf_str {x : Opd} : SF T X last h0 ⟨some d, .str x, none⟩ ⟨t, loc, al, h⟩ K ↔ VK (strV (pickH last h h0) (ov t x)) fun v => K ⟨upd t d v, loc, al, h⟩ :=
  sf_val (fun s => by simp [MOp.free, MOp.want, MI.makes, MI.reads]) (by simp only [MI.run, val_ov, oval_ov, vals_ov, places_ov]; (try rfl))
theorem so_ld {n : Nat} {agg : Bool} {x : Opd} : SO T X ⟨some d, .ld n agg x, none⟩ ⟨t, loc, al, h⟩ K ↔ VK ((ldC h (ov t x) n).bind (ofCells agg)) fun v => K ⟨upd t d v, loc, al, h⟩ :=
  so_val (fun s => rfl) (by simp only [MI.run, val_ov, oval_ov, vals_ov, places_ov]; (try rfl))
theorem sf_ld {n : Nat} {agg : Bool} {x : Opd} : SF T X last h0 ⟨some d, .ld n agg x, none⟩ ⟨t, loc, al, h⟩ K ↔ VK ((ldC (pickH last h h0) (ov t x) n).bind (ofCells agg)) fun v => K ⟨upd t d v, loc, al, h⟩ :=
  sf_val (fun s => by simp [MOp.free, MOp.want, MI.makes, MI.reads]) (by simp only [MI.run, val_ov, oval_ov, vals_ov, places_ov]; (try rfl))
theorem so_fa {off : Nat} {x : Opd} : SO T X ⟨some d, .fa off x, none⟩ ⟨t, loc, al, h⟩ K ↔ VK (faV h (ov t x) off) fun v => K ⟨upd t d v, loc, al, h⟩ :=
  so_val (fun s => rfl) (by simp only [MI.run, val_ov, oval_ov, vals_ov, places_ov]; (try rfl))
theorem sf_fa {off : Nat} {x : Opd} : SF T X last h0 ⟨some d, .fa off x, none⟩ ⟨t, loc, al, h⟩ K ↔ VK (faV (pickH last h h0) (ov t x) off) fun v => K ⟨upd t d v, loc, al, h⟩ :=
  sf_val (fun s => by simp [MOp.free, MOp.want, MI.makes, MI.reads]) (by simp only [MI.run, val_ov, oval_ov, vals_ov, places_ov]; (try rfl))
theorem so_ia {sz : Nat} {x i : Opd} : SO T X ⟨some d, .ia sz x i, none⟩ ⟨t, loc, al, h⟩ K ↔ VK (iaV h sz (ov t x) (ov t i)) fun v => K ⟨upd t d v, loc, al, h⟩ :=
  so_val (fun s => rfl) (by simp only [MI.run, val_ov, oval_ov, vals_ov, places_ov]; (try rfl))
theorem sf_ia {sz : Nat} {x i : Opd} : SF T X last h0 ⟨some d, .ia sz x i, none⟩ ⟨t, loc, al, h⟩ K ↔ VK (iaV (pickH last h h0) sz (ov t x) (ov t i)) fun v => K ⟨upd t d v, loc, al, h⟩ :=
  sf_val (fun s => by simp [MOp.free, MOp.want, MI.makes, MI.reads]) (by simp only [MI.run, val_ov, oval_ov, vals_ov, places_ov]; (try rfl))
theorem so_ix {x i : Opd} : SO T X ⟨some d, .ix x i, none⟩ ⟨t, loc, al, h⟩ K ↔ VK (ixV (ov t x) (ov t i)) fun v => K ⟨upd t d v, loc, al, h⟩ :=
  so_val (fun s => rfl) (by simp only [MI.run, val_ov, oval_ov, vals_ov, places_ov]; (try rfl))
theorem sf_ix {x i : Opd} : SF T X last h0 ⟨some d, .ix x i, none⟩ ⟨t, loc, al, h⟩ K ↔ VK (ixV (ov t x) (ov t i)) fun v => K ⟨upd t d v, loc, al, h⟩ :=
  sf_val (fun s => by simp [MOp.free, MOp.want, MI.makes, MI.reads]) (by simp only [MI.run, val_ov, oval_ov, vals_ov, places_ov]; (try rfl))
theorem so_fl {off n : Nat} {agg : Bool} {x : Opd} : SO T X ⟨some d, .fl off n agg x, none⟩ ⟨t, loc, al, h⟩ K ↔ VK (flV off n agg (ov t x)) fun v => K ⟨upd t d v, loc, al, h⟩ :=
  so_val (fun s => rfl) (by simp only [MI.run, val_ov, oval_ov, vals_ov, places_ov]; unfold flV; (cases ov t x with | agg a => (obtain ⟨a⟩ := a; simp only []; split <;> rfl) | _ => rfl))
theorem sf_fl {off n : Nat} {agg : Bool} {x : Opd} : SF T X last h0 ⟨some d, .fl off n agg x, none⟩ ⟨t, loc, al, h⟩ K ↔ VK (flV off n agg (ov t x)) fun v => K ⟨upd t d v, loc, al, h⟩ :=
  sf_val (fun s => by simp [MOp.free, MOp.want, MI.makes, MI.reads]) (by simp only [MI.run, val_ov, oval_ov, vals_ov, places_ov]; unfold flV; (cases ov t x with | agg a => (obtain ⟨a⟩ := a; simp only []; split <;> rfl) | _ => rfl))
theorem so_slS {x : Opd} {lo hi : Option Opd} : SO T X ⟨some d, .slS x lo hi, none⟩ ⟨t, loc, al, h⟩ K ↔ VK (slSV (ov t x) (oov t lo) (oov t hi)) fun v => K ⟨upd t d v, loc, al, h⟩ :=
  so_val (fun s => rfl) (by simp only [MI.run, val_ov, oval_ov, vals_ov, places_ov]; (try rfl))
theorem sf_slS {x : Opd} {lo hi : Option Opd} : SF T X last h0 ⟨some d, .slS x lo hi, none⟩ ⟨t, loc, al, h⟩ K ↔ VK (slSV (ov t x) (oov t lo) (oov t hi)) fun v => K ⟨upd t d v, loc, al, h⟩ :=
  sf_val (fun s => by simp [MOp.free, MOp.want, MI.makes, MI.reads]) (by simp only [MI.run, val_ov, oval_ov, vals_ov, places_ov]; (try rfl))
theorem so_slL {sz : Nat} {x : Opd} {lo hi : Option Opd} : SO T X ⟨some d, .slL sz x lo hi, none⟩ ⟨t, loc, al, h⟩ K ↔ VK (slLV sz (ov t x) (oov t lo) (oov t hi) h) fun v => K ⟨upd t d v, loc, al, h⟩ :=
  so_val (fun s => rfl) (by simp only [MI.run, val_ov, oval_ov, vals_ov, places_ov]; (try rfl))
theorem sf_slL {sz : Nat} {x : Opd} {lo hi : Option Opd} : SF T X last h0 ⟨some d, .slL sz x lo hi, none⟩ ⟨t, loc, al, h⟩ K ↔ VK (slLV sz (ov t x) (oov t lo) (oov t hi) (pickH last h h0)) fun v => K ⟨upd t d v, loc, al, h⟩ :=
  sf_val (fun s => by simp [MOp.free, MOp.want, MI.makes, MI.reads]) (by simp only [MI.run, val_ov, oval_ov, vals_ov, places_ov]; (try rfl))
theorem so_ln {x : Opd} : SO T X ⟨some d, .ln x, none⟩ ⟨t, loc, al, h⟩ K ↔ VK (lnV h (ov t x)) fun v => K ⟨upd t d v, loc, al, h⟩ :=
  so_val (fun s => rfl) (by simp only [MI.run, val_ov, oval_ov, vals_ov, places_ov]; (try rfl))
theorem sf_ln {x : Opd} : SF T X last h0 ⟨some d, .ln x, none⟩ ⟨t, loc, al, h⟩ K ↔ VK (lnV (pickH last h h0) (ov t x)) fun v => K ⟨upd t d v, loc, al, h⟩ :=
  sf_val (fun s => by simp [MOp.free, MOp.want, MI.makes, MI.reads]) (by simp only [MI.run, val_ov, oval_ov, vals_ov, places_ov]; (try rfl))
theorem so_lnS {x : Opd} : SO T X ⟨some d, .lnS x, none⟩ ⟨t, loc, al, h⟩ K ↔ VK (lnSV (ov t x)) fun v => K ⟨upd t d v, loc, al, h⟩ :=
  so_val (fun s => rfl) (by simp only [MI.run, val_ov, oval_ov, vals_ov, places_ov]; unfold lnSV; cases ov t x <;> rfl)
theorem sf_lnS {x : Opd} : SF T X last h0 ⟨some d, .lnS x, none⟩ ⟨t, loc, al, h⟩ K ↔ VK (lnSV (ov t x)) fun v => K ⟨upd t d v, loc, al, h⟩ :=
  sf_val (fun s => by simp [MOp.free, MOp.want, MI.makes, MI.reads]) (by simp only [MI.run, val_ov, oval_ov, vals_ov, places_ov]; unfold lnSV; cases ov t x <;> rfl)
theorem so_bld {z : List Value} {ps : List (Nat × Nat × Opd)} : SO T X ⟨some d, .bld z ps, none⟩ ⟨t, loc, al, h⟩ K ↔ VK ((fillOff z (pls t ps)).map fun cs => .agg ⟨cs⟩) fun v => K ⟨upd t d v, loc, al, h⟩ :=
  so_val (fun s => rfl) (by simp only [MI.run, val_ov, oval_ov, vals_ov, places_ov]; rw [pls_map]; simp [Option.map_map, Function.comp_def])
theorem sf_bld {z : List Value} {ps : List (Nat × Nat × Opd)} : SF T X last h0 ⟨some d, .bld z ps, none⟩ ⟨t, loc, al, h⟩ K ↔ VK ((fillOff z (pls t ps)).map fun cs => .agg ⟨cs⟩) fun v => K ⟨upd t d v, loc, al, h⟩ :=
  sf_val (fun s => by simp [MOp.free, MOp.want, MI.makes, MI.reads]) (by simp only [MI.run, val_ov, oval_ov, vals_ov, places_ov]; rw [pls_map]; simp [Option.map_map, Function.comp_def])
theorem so_ext {i : Nat} {x : Opd} : SO T X ⟨some d, .ext i x, none⟩ ⟨t, loc, al, h⟩ K ↔ VK (extV i (ov t x)) fun v => K ⟨upd t d v, loc, al, h⟩ :=
  so_val (fun s => rfl) (by simp only [MI.run, val_ov, oval_ov, vals_ov, places_ov]; unfold extV; (cases ov t x with | tuple a => (obtain ⟨a⟩ := a; rfl) | _ => rfl))
theorem sf_ext {i : Nat} {x : Opd} : SF T X last h0 ⟨some d, .ext i x, none⟩ ⟨t, loc, al, h⟩ K ↔ VK (extV i (ov t x)) fun v => K ⟨upd t d v, loc, al, h⟩ :=
  sf_val (fun s => by simp [MOp.free, MOp.want, MI.makes, MI.reads]) (by simp only [MI.run, val_ov, oval_ov, vals_ov, places_ov]; unfold extV; (cases ov t x with | tuple a => (obtain ⟨a⟩ := a; rfl) | _ => rfl))
theorem so_chk {x : Opd} : SO T X ⟨some d, .chk x, none⟩ ⟨t, loc, al, h⟩ K ↔ VK (chkV h (ov t x)) fun v => K ⟨upd t d v, loc, al, h⟩ :=
  so_val (fun s => rfl) (by simp only [MI.run, val_ov, oval_ov, vals_ov, places_ov]; simp [chkV, Option.map_map, Function.comp_def])
theorem sf_chk {x : Opd} : SF T X last h0 ⟨some d, .chk x, none⟩ ⟨t, loc, al, h⟩ K ↔ VK (chkV (pickH last h h0) (ov t x)) fun v => K ⟨upd t d v, loc, al, h⟩ :=
  sf_val (fun s => by simp [MOp.free, MOp.want, MI.makes, MI.reads]) (by simp only [MI.run, val_ov, oval_ov, vals_ov, places_ov]; simp [chkV, Option.map_map, Function.comp_def])
theorem so_mm {m : Bool} {x y : Opd} : SO T X ⟨some d, .mm m x y, none⟩ ⟨t, loc, al, h⟩ K ↔ VK (mmV m (ov t x) (ov t y)) fun v => K ⟨upd t d v, loc, al, h⟩ :=
  so_val (fun s => rfl) (by simp only [MI.run, val_ov, oval_ov, vals_ov, places_ov]; unfold mmV; (cases ov t x with | int k a => (cases ov t y <;> rfl) | _ => rfl))
theorem sf_mm {m : Bool} {x y : Opd} : SF T X last h0 ⟨some d, .mm m x y, none⟩ ⟨t, loc, al, h⟩ K ↔ VK (mmV m (ov t x) (ov t y)) fun v => K ⟨upd t d v, loc, al, h⟩ :=
  sf_val (fun s => by simp [MOp.free, MOp.want, MI.makes, MI.reads]) (by simp only [MI.run, val_ov, oval_ov, vals_ov, places_ov]; unfold mmV; (cases ov t x with | int k a => (cases ov t y <;> rfl) | _ => rfl))
theorem so_fn {f : Fn} {l : List Opd} : SO T X ⟨some d, .fn f l, none⟩ ⟨t, loc, al, h⟩ K ↔ VK (fnV f (ovs t l)) fun v => K ⟨upd t d v, loc, al, h⟩ :=
  so_val (fun s => rfl) (by simp only [MI.run, val_ov, oval_ov, vals_ov, places_ov]; unfold fnV; split <;> rfl)
theorem sf_fn {f : Fn} {l : List Opd} : SF T X last h0 ⟨some d, .fn f l, none⟩ ⟨t, loc, al, h⟩ K ↔ VK (fnV f (ovs t l)) fun v => K ⟨upd t d v, loc, al, h⟩ :=
  sf_val (fun s => by simp [MOp.free, MOp.want, MI.makes, MI.reads]) (by simp only [MI.run, val_ov, oval_ov, vals_ov, places_ov]; unfold fnV; split <;> rfl)
theorem so_ldB {n : Nat} {agg : Bool} {e : Nat} : SO T X ⟨some d, .ldB n agg e, none⟩ ⟨t, loc, al, h⟩ K ↔ VK (ldBV n agg (loc e)) fun v => K ⟨upd t d v, loc, al, h⟩ :=
  so_val (fun s => rfl) (by simp only [MI.run, val_ov, oval_ov, vals_ov, places_ov]; unfold ldBV; (cases loc e with | none => rfl | some cs => (simp only []; split <;> rfl)))
theorem sf_ldB {n : Nat} {agg : Bool} {e : Nat} : SF T X last h0 ⟨some d, .ldB n agg e, none⟩ ⟨t, loc, al, h⟩ K ↔ VK (ldBV n agg (loc e)) fun v => K ⟨upd t d v, loc, al, h⟩ :=
  sf_val (fun s => by simp [MOp.free, MOp.want, MI.makes, MI.reads]) (by simp only [MI.run, val_ov, oval_ov, vals_ov, places_ov]; unfold ldBV; (cases loc e with | none => rfl | some cs => (simp only []; split <;> rfl)))
theorem so_ldE {n : Nat} {agg : Bool} {e f : Nat} : SO T X ⟨some d, .ldE n agg e f, none⟩ ⟨t, loc, al, h⟩ K ↔ VK (ldEV n agg e (al f) (loc e)) fun v => K ⟨upd t d v, loc, al, h⟩ :=
  so_val (fun s => rfl) (by simp only [MI.run, val_ov, oval_ov, vals_ov, places_ov]; unfold ldEV; (cases al f with | none => rfl | some p => (obtain ⟨a, b⟩ := p; cases loc e with | none => rfl | some cs => (simp only []; split <;> rfl))))
theorem sf_ldE {n : Nat} {agg : Bool} {e f : Nat} : SF T X last h0 ⟨some d, .ldE n agg e f, none⟩ ⟨t, loc, al, h⟩ K ↔ VK (ldEV n agg e (al f) (loc e)) fun v => K ⟨upd t d v, loc, al, h⟩ :=
  sf_val (fun s => by simp [MOp.free, MOp.want, MI.makes, MI.reads]) (by simp only [MI.run, val_ov, oval_ov, vals_ov, places_ov]; unfold ldEV; (cases al f with | none => rfl | some p => (obtain ⟨a, b⟩ := p; cases loc e with | none => rfl | some cs => (simp only []; split <;> rfl))))
theorem so_strL {n e : Nat} : SO T X ⟨some d, .strL n e, none⟩ ⟨t, loc, al, h⟩ K ↔ VK (strLV n (loc e)) fun v => K ⟨upd t d v, loc, al, h⟩ :=
  so_val (fun s => rfl) (by simp only [MI.run, val_ov, oval_ov, vals_ov, places_ov]; unfold strLV; (cases loc e with | none => rfl | some cs => (simp only []; split <;> simp [Option.map_map, Function.comp_def])))
theorem sf_strL {n e : Nat} : SF T X last h0 ⟨some d, .strL n e, none⟩ ⟨t, loc, al, h⟩ K ↔ VK (strLV n (loc e)) fun v => K ⟨upd t d v, loc, al, h⟩ :=
  sf_val (fun s => by simp [MOp.free, MOp.want, MI.makes, MI.reads]) (by simp only [MI.run, val_ov, oval_ov, vals_ov, places_ov]; unfold strLV; (cases loc e with | none => rfl | some cs => (simp only []; split <;> simp [Option.map_map, Function.comp_def])))
theorem so_app {sz : Nat} {ty : TypeId} {b : Nat} {x y : Opd} : SO T X ⟨some d, .app sz ty b x y, none⟩ ⟨t, loc, al, h⟩ K ↔ VK (appW h sz ty (ov t x) (ov t y)) fun r => K ⟨upd t d r.1, loc, al, r.2⟩ :=
  so_make (fun s => rfl) (by simp only [MI.run, val_ov]; unfold appW; cases ov t y <;> rfl)
theorem sf_app {sz : Nat} {ty : TypeId} {b : Nat} {x y : Opd} : SF T X last h0 ⟨some d, .app sz ty b x y, none⟩ ⟨t, loc, al, h⟩ K ↔ VK (appW h sz ty (ov t x) (ov t y)) fun r => (last = true ∨ h0 <+: r.2) ∧ K ⟨upd t d r.1, loc, al, r.2⟩ :=
  sf_make (fun s => by simp [MOp.free, MOp.want, MI.makes, MI.reads]) (by simp only [MI.run, val_ov]; unfold appW; cases ov t y <;> rfl)
theorem so_appL {sz : Nat} {ty : TypeId} {b n : Nat} {x : Opd} {e : Nat} : SO T X ⟨some d, .appL sz ty b n x e, none⟩ ⟨t, loc, al, h⟩ K ↔ VK (appLW h sz ty n (ov t x) (loc e)) fun r => K ⟨upd t d r.1, loc, al, r.2⟩ :=
  so_make (fun s => rfl) (by simp only [MI.run, val_ov]; unfold appLW; cases loc e <;> rfl)
theorem sf_appL {sz : Nat} {ty : TypeId} {b n : Nat} {x : Opd} {e : Nat} : SF T X last h0 ⟨some d, .appL sz ty b n x e, none⟩ ⟨t, loc, al, h⟩ K ↔ VK (appLW h sz ty n (ov t x) (loc e)) fun r => (last = true ∨ h0 <+: r.2) ∧ K ⟨upd t d r.1, loc, al, r.2⟩ :=
  sf_make (fun s => by simp [MOp.free, MOp.want, MI.makes, MI.reads]) (by simp only [MI.run, val_ov]; unfold appLW; cases loc e <;> rfl)
theorem so_lit {n sz : Nat} {ty : TypeId} {z : List Value} {ps : List (Nat × Opd)} : SO T X ⟨some d, .lit n sz ty z ps, none⟩ ⟨t, loc, al, h⟩ K ↔ VK ((fillAt sz (zeros z n) (prs t ps)).map fun cs => (.slice (some ⟨h.length, 0, none⟩) n n, h ++ [⟨cs, sz, ty, true⟩])) fun r => K ⟨upd t d r.1, loc, al, r.2⟩ :=
  so_make (fun s => rfl) (by simp only [MI.run, val_ov]; rw [prs_map])
theorem so_mk {sz : Nat} {ty : TypeId} {b : Nat} {z : List Value} {x : Opd} : SO T X ⟨some d, .mk sz ty b z x, none⟩ ⟨t, loc, al, h⟩ K ↔ VK (mkW h sz ty z (ov t x)) fun r => K ⟨upd t d r.1, loc, al, r.2⟩ :=
  so_make (fun s => rfl) (by simp only [MI.run, val_ov]; unfold mkW; (cases ov t x with | int k a => (cases k <;> rfl) | _ => rfl))
theorem so_nw {ty : TypeId} {cs : List Value} : SO T X ⟨some d, .nw ty cs, none⟩ ⟨t, loc, al, h⟩ K ↔ VK (some (.pointer (some ⟨h.length, 0, some cs.length⟩), h ++ [⟨cs, cs.length, ty, true⟩])) fun r => K ⟨upd t d r.1, loc, al, r.2⟩ :=
  so_make (fun s => rfl) (by simp only [MI.run, val_ov]; (try rfl))
theorem so_bx {ty : TypeId} {n : Nat} {x : Opd} : SO T X ⟨some d, .bx ty n x, none⟩ ⟨t, loc, al, h⟩ K ↔ VK (bxW h ty n (ov t x)) fun r => K ⟨upd t d r.1, loc, al, r.2⟩ :=
  so_make (fun s => rfl) (by simp only [MI.run, val_ov]; unfold bxW; cases cellsOf (ov t x) <;> rfl)
theorem so_call {f : FuncId} {l : List Opd} : SO T X ⟨some d, .call f l, none⟩ ⟨t, loc, al, h⟩ K ↔ VK (C T X f (ovs t l) h) fun r => K ⟨upd t d r.1, loc, al, r.2⟩ := by
  unfold SO MOp.step
  simp only [MOp.want, MOp.go, vals_ov, VK]
  cases C T X f (ovs t l) h <;> simp [St.put]
theorem so_call0 {f : FuncId} {l : List Opd} : SO T X ⟨none, .call f l, none⟩ ⟨t, loc, al, h⟩ K ↔ VK (C T X f (ovs t l) h) fun r => K ⟨t, loc, al, r.2⟩ := by
  unfold SO MOp.step
  simp only [MOp.want, MOp.go, vals_ov, VK]
  cases C T X f (ovs t l) h <;> simp [St.put]
open Classical in
theorem sf_call {f : FuncId} {l : List Opd} : SF T X last h0 ⟨some d, .call f l, none⟩ ⟨t, loc, al, h⟩ K ↔ VK (C T X f (ovs t l) h) fun r => (last = true ∨ h <+: r.2) ∧ K ⟨upd t d r.1, loc, al, r.2⟩ := by
  unfold SF MOp.free
  simp only [MOp.want, vals_ov, VK]
  cases C T X f (ovs t l) h with
  | none => simp
  | some r => 
    simp only [Option.bind_some, Option.some.injEq, exists_eq_left']
    by_cases hc : last = true ∨ h <+: r.2
    · simp [hc, St.put]
    · simp [hc]
open Classical in
theorem sf_call0 {f : FuncId} {l : List Opd} : SF T X last h0 ⟨none, .call f l, none⟩ ⟨t, loc, al, h⟩ K ↔ VK (C T X f (ovs t l) h) fun r => (last = true ∨ h <+: r.2) ∧ K ⟨t, loc, al, r.2⟩ := by
  unfold SF MOp.free
  simp only [MOp.want, vals_ov, VK]
  cases C T X f (ovs t l) h with
  | none => simp
  | some r => 
    simp only [Option.bind_some, Option.some.injEq, exists_eq_left']
    by_cases hc : last = true ∨ h <+: r.2
    · simp [hc, St.put]
    · simp [hc]
theorem pickH_true {h h0 : Heap} : pickH true h h0 = h := rfl
theorem pickH_false {h h0 : Heap} : pickH false h h0 = h0 := rfl
def litArg (n sz : Nat) (ty : TypeId) (h : Heap) (x : Option (List Value)) : Option (Value × Heap) := match x with
  | some cs => if cs.length = n * sz ∧ 0 < sz ∧ n ≤ lim then some (.slice (some ⟨h.length, 0, none⟩) n n, h ++ [⟨cs, sz, ty, false⟩]) else none
  | none => none
theorem litArg_some {n sz : Nat} {ty : TypeId} {cs : List Value} (hc : cs.length = n * sz ∧ 0 < sz ∧ n ≤ lim) : litArg n sz ty h (some cs) = some (.slice (some ⟨h.length, 0, none⟩) n n, h ++ [⟨cs, sz, ty, false⟩]) := if_pos hc
theorem so_callL {f : FuncId} {n sz : Nat} {ty : TypeId} {e : Nat} : SO T X ⟨some d, .callL f n sz ty e, none⟩ ⟨t, loc, al, h⟩ K ↔ VK (litArg n sz ty h (loc e)) fun p => VK (C T X f [p.1] p.2) fun r => K ⟨upd t d r.1, upd loc e none, al, r.2⟩ := by
  unfold SO MOp.step litArg
  simp only [MOp.want, MOp.go, VK]
  cases loc e with
  | none => simp
  | some cs =>
    by_cases hc : cs.length = n * sz ∧ 0 < sz ∧ n ≤ lim
    · simp only [if_pos hc, Option.some.injEq, exists_eq_left']
      cases C T X f [.slice (some ⟨h.length, 0, none⟩) n n] (h ++ [⟨cs, sz, ty, false⟩]) <;> simp [St.put]
    · simp only [if_neg hc]; simp
theorem so_callL0 {f : FuncId} {n sz : Nat} {ty : TypeId} {e : Nat} : SO T X ⟨none, .callL f n sz ty e, none⟩ ⟨t, loc, al, h⟩ K ↔ VK (litArg n sz ty h (loc e)) fun p => VK (C T X f [p.1] p.2) fun r => K ⟨t, upd loc e none, al, r.2⟩ := by
  unfold SO MOp.step litArg
  simp only [MOp.want, MOp.go, VK]
  cases loc e with
  | none => simp
  | some cs =>
    by_cases hc : cs.length = n * sz ∧ 0 < sz ∧ n ≤ lim
    · simp only [if_pos hc, Option.some.injEq, exists_eq_left']
      cases C T X f [.slice (some ⟨h.length, 0, none⟩) n n] (h ++ [⟨cs, sz, ty, false⟩]) <;> simp [St.put]
    · simp only [if_neg hc]; simp
open Classical in
theorem sf_callL {f : FuncId} {n sz : Nat} {ty : TypeId} {e : Nat} : SF T X last h0 ⟨some d, .callL f n sz ty e, none⟩ ⟨t, loc, al, h⟩ K ↔ VK (litArg n sz ty h (loc e)) fun p => VK (C T X f [p.1] p.2) fun r => (last = true ∨ h <+: r.2) ∧ K ⟨upd t d r.1, upd loc e none, al, r.2⟩ := by
  unfold SF MOp.free litArg
  simp only [MOp.want, VK]
  cases loc e with
  | none => simp
  | some cs =>
    by_cases hc : cs.length = n * sz ∧ 0 < sz ∧ n ≤ lim
    · simp only [if_pos hc, Option.some.injEq, exists_eq_left']
      cases hr : C T X f [.slice (some ⟨h.length, 0, none⟩) n n] (h ++ [⟨cs, sz, ty, false⟩]) with
      | none => simp
      | some r =>
        simp only [Option.bind_some, Option.some.injEq, exists_eq_left']
        by_cases hc : last = true ∨ h <+: r.2
        · simp [hc, St.put]
        · simp [hc]
    · simp only [if_neg hc]; simp
theorem sf_mk {sz : Nat} {ty : TypeId} {b : Nat} {z : List Value} {x : Opd} : SF T X last h0 ⟨some d, .mk sz ty b z x, none⟩ ⟨t, loc, al, h⟩ K ↔ VK (mkW h sz ty z (ov t x)) fun r => (last = true ∨ h0 <+: r.2) ∧ K ⟨upd t d r.1, loc, al, r.2⟩ :=
  sf_make (fun s => by simp [MOp.free, MOp.want, MI.makes, MI.reads]) (by simp only [MI.run, val_ov]; unfold mkW; (cases ov t x with | int k a => (cases k <;> rfl) | _ => rfl))
theorem sf_nw {ty : TypeId} {cs : List Value} : SF T X last h0 ⟨some d, .nw ty cs, none⟩ ⟨t, loc, al, h⟩ K ↔ VK (some (.pointer (some ⟨h.length, 0, some cs.length⟩), h ++ [⟨cs, cs.length, ty, true⟩])) fun r => (last = true ∨ h0 <+: r.2) ∧ K ⟨upd t d r.1, loc, al, r.2⟩ :=
  sf_make (fun s => by simp [MOp.free, MOp.want, MI.makes, MI.reads]) (by simp only [MI.run, val_ov]; (try rfl))
theorem sf_bx {ty : TypeId} {n : Nat} {x : Opd} : SF T X last h0 ⟨some d, .bx ty n x, none⟩ ⟨t, loc, al, h⟩ K ↔ VK (bxW h ty n (ov t x)) fun r => (last = true ∨ h0 <+: r.2) ∧ K ⟨upd t d r.1, loc, al, r.2⟩ :=
  sf_make (fun s => by simp [MOp.free, MOp.want, MI.makes, MI.reads]) (by simp only [MI.run, val_ov]; unfold bxW; cases cellsOf (ov t x) <;> rfl)
open Classical in
theorem sf_st {n : Nat} {x y : Opd} : SF T X last h0 ⟨none, .st n x y, none⟩ ⟨t, loc, al, h⟩ K ↔ VK (cellsOf (ov t y)) fun vs => vs.length = n ∧ VK (stC h (ov t x) vs) fun h' => (last = true ∨ h0 <+: h') ∧ K ⟨t, loc, al, h'⟩ := by
  unfold SF MOp.free
  simp only [MOp.want, MOp.go, val_ov, VK]
  cases cellsOf (ov t y) with
  | none => simp
  | some vs =>
    simp only [Option.some.injEq, exists_eq_left']
    by_cases hc : vs.length = n
    · simp only [hc, if_true, true_and]
      cases stC h (ov t x) vs with
      | none => simp
      | some h' =>
        simp only [Option.map_some, Option.bind_some, Option.some.injEq, exists_eq_left']
        by_cases hp : last = true ∨ h0 <+: h'
        · simp [hp]
        · simp [hp]
    · simp [hc]
theorem sf_lit {n sz : Nat} {ty : TypeId} {z : List Value} {ps : List (Nat × Opd)} : SF T X last h0 ⟨some d, .lit n sz ty z ps, none⟩ ⟨t, loc, al, h⟩ K ↔ VK ((fillAt sz (zeros z n) (prs t ps)).map fun cs => (.slice (some ⟨h.length, 0, none⟩) n n, h ++ [⟨cs, sz, ty, true⟩])) fun r => (last = true ∨ h0 <+: r.2) ∧ K ⟨upd t d r.1, loc, al, r.2⟩ :=
  sf_make (fun s => by simp [MOp.free, MOp.want, MI.makes, MI.reads]) (by simp only [MI.run, val_ov]; rw [prs_map])
def fnC : Value → Option (FuncId × List Value)
  | .func (.func g) ⟨[]⟩ ⟨caps⟩ => some (g, caps)
  | _ => none
theorem so_callV {f : Opd} {l : List Opd} : SO T X ⟨some d, .callV f l, none⟩ ⟨t, loc, al, h⟩ K ↔ VK (fnC (ov t f)) fun p => VK (C T X p.1 (ovs t l ++ p.2) h) fun r => K ⟨upd t d r.1, loc, al, r.2⟩ := by
  unfold SO MOp.step
  simp only [MOp.want, MOp.go, vals_ov, val_ov, VK]
  cases ov t f with
  | func f fs cs =>
    obtain ⟨fs⟩ := fs
    obtain ⟨cs⟩ := cs
    cases f with
    | func g =>
      cases fs with
      | nil => simp only [fnC, Option.some.injEq, exists_eq_left']; cases C T X g (ovs t l ++ cs) h <;> simp [St.put]
      | cons a l => simp [fnC]
    | _ => simp [fnC]
  | _ => simp [fnC]
theorem so_callV0 {f : Opd} {l : List Opd} : SO T X ⟨none, .callV f l, none⟩ ⟨t, loc, al, h⟩ K ↔ VK (fnC (ov t f)) fun p => VK (C T X p.1 (ovs t l ++ p.2) h) fun r => K ⟨t, loc, al, r.2⟩ := by
  unfold SO MOp.step
  simp only [MOp.want, MOp.go, vals_ov, val_ov, VK]
  cases ov t f with
  | func f fs cs =>
    obtain ⟨fs⟩ := fs
    obtain ⟨cs⟩ := cs
    cases f with
    | func g =>
      cases fs with
      | nil => simp only [fnC, Option.some.injEq, exists_eq_left']; cases C T X g (ovs t l ++ cs) h <;> simp [St.put]
      | cons a l => simp [fnC]
    | _ => simp [fnC]
  | _ => simp [fnC]
theorem so_newL {cs : List Value} : SO T X ⟨some d, .newL cs, none⟩ ⟨t, loc, al, h⟩ K ↔ K ⟨upd t d undef, upd loc d (some cs), unal al d, h⟩ := by
  simp [SO, MOp.step, MOp.want, MOp.go]
theorem so_boxL {n : Nat} {x : Opd} : SO T X ⟨some d, .boxL n x, none⟩ ⟨t, loc, al, h⟩ K ↔ VK (cellsOf (ov t x)) fun cs => cs.length = n ∧ K ⟨upd t d undef, upd loc d (some cs), unal al d, h⟩ := by
  simp only [SO, MOp.step, MOp.want, MOp.go, val_ov, VK]
  cases cellsOf (ov t x) with
  | none => simp
  | some cs => simp only []; split <;> simp [*]
def isSome' {α : Type} : Option α → Prop
  | some _ => True
  | none => False
theorem so_faB {off e : Nat} : SO T X ⟨some d, .faB off e, none⟩ ⟨t, loc, al, h⟩ K ↔ isSome' (loc e) ∧ K ⟨upd t d undef, loc, upd al d (some (e, off)), h⟩ := by
  simp only [SO, MOp.step, MOp.want, MOp.go]
  cases loc e <;> simp [isSome']
theorem so_faE {off e f : Nat} : SO T X ⟨some d, .faE off e f, none⟩ ⟨t, loc, al, h⟩ K ↔ isSome' (loc e) ∧ VK (al f) fun p => p.1 = e ∧ K ⟨upd t d undef, loc, upd al d (some (e, p.2 + off)), h⟩ := by
  simp only [SO, MOp.step, MOp.want, MOp.go, VK]
  cases loc e <;> cases al f <;> simp [isSome']
  rename_i p
  obtain ⟨a, b⟩ := p
  by_cases hc : a = e <;> simp [hc]
theorem so_stB {n e : Nat} {x : Opd} : SO T X ⟨none, .stB n e x, none⟩ ⟨t, loc, al, h⟩ K ↔ VK (loc e) fun cs => VK (cellsOf (ov t x)) fun vs => (vs.length = n ∧ n ≤ cs.length) ∧ K ⟨t, upd loc e (some (putAt cs 0 vs)), al, h⟩ := by
  simp only [SO, MOp.step, MOp.want, MOp.go, val_ov, VK]
  cases loc e <;> cases cellsOf (ov t x) <;> simp
  rename_i cs vs
  by_cases hc : vs.length = n ∧ n ≤ cs.length <;> simp [hc]
theorem so_stE {n e f : Nat} {x : Opd} : SO T X ⟨none, .stE n e f x, none⟩ ⟨t, loc, al, h⟩ K ↔ VK (al f) fun p => VK (loc e) fun cs => VK (cellsOf (ov t x)) fun vs => (p.1 = e ∧ vs.length = n ∧ p.2 + n ≤ cs.length) ∧ K ⟨t, upd loc e (some (putAt cs p.2 vs)), al, h⟩ := by
  simp only [SO, MOp.step, MOp.want, MOp.go, val_ov, VK]
  cases loc e <;> cases cellsOf (ov t x) <;> cases al f <;> simp
  rename_i cs vs p
  obtain ⟨a, b⟩ := p
  by_cases hc : a = e ∧ vs.length = n ∧ b + n ≤ cs.length <;> simp [hc]
theorem so_litL {n sz : Nat} {z : List Value} {ps : List (Nat × Opd)} : SO T X ⟨some d, .litL n sz z ps, none⟩ ⟨t, loc, al, h⟩ K ↔ VK (fillAt sz (zeros z n) (prs t ps)) fun cs => K ⟨upd t d undef, upd loc d (some cs), al, h⟩ := by
  simp only [SO, MOp.step, MOp.want, MOp.go, parts_ov, VK]
  cases fillAt sz (zeros z n) (prs t ps) <;> simp
theorem so_st {n : Nat} {x y : Opd} : SO T X ⟨none, .st n x y, none⟩ ⟨t, loc, al, h⟩ K ↔ VK (cellsOf (ov t y)) fun vs => vs.length = n ∧ VK (stC h (ov t x) vs) fun h' => K ⟨t, loc, al, h'⟩ := by
  simp only [SO, MOp.step, MOp.want, MOp.go, val_ov, VK]
  cases cellsOf (ov t y) with
  | none => simp
  | some vs =>
    simp only [Option.some.injEq, exists_eq_left']
    by_cases hc : vs.length = n
    · simp only [hc, if_true, true_and]
      cases stC h (ov t x) vs <;> simp
    · simp [hc]
theorem sf_so {o : MOp} (hf : o.free (C T X) last h0 ⟨t, loc, al, h⟩ = o.step (C T X) ⟨t, loc, al, h⟩) : SF T X last h0 o ⟨t, loc, al, h⟩ K ↔ SO T X o ⟨t, loc, al, h⟩ K := by
  unfold SF SO
  rw [hf]
theorem sf_newL {cs : List Value} : SF T X last h0 ⟨some d, .newL cs, none⟩ ⟨t, loc, al, h⟩ K ↔ K ⟨upd t d undef, upd loc d (some cs), unal al d, h⟩ := by
  rw [sf_so (by simp [MOp.free, MOp.step, MOp.want]), so_newL]
theorem sf_faB {off e : Nat} : SF T X last h0 ⟨some d, .faB off e, none⟩ ⟨t, loc, al, h⟩ K ↔ isSome' (loc e) ∧ K ⟨upd t d undef, loc, upd al d (some (e, off)), h⟩ := by
  rw [sf_so (by simp [MOp.free, MOp.step, MOp.want]), so_faB]
theorem sf_faE {off e f : Nat} : SF T X last h0 ⟨some d, .faE off e f, none⟩ ⟨t, loc, al, h⟩ K ↔ isSome' (loc e) ∧ VK (al f) fun p => p.1 = e ∧ K ⟨upd t d undef, loc, upd al d (some (e, p.2 + off)), h⟩ := by
  rw [sf_so (by simp [MOp.free, MOp.step, MOp.want]), so_faE]
theorem sf_stB {n e : Nat} {x : Opd} : SF T X last h0 ⟨none, .stB n e x, none⟩ ⟨t, loc, al, h⟩ K ↔ VK (loc e) fun cs => VK (cellsOf (ov t x)) fun vs => (vs.length = n ∧ n ≤ cs.length) ∧ K ⟨t, upd loc e (some (putAt cs 0 vs)), al, h⟩ := by
  rw [sf_so (by simp [MOp.free, MOp.step, MOp.want]), so_stB]
theorem sf_stE {n e f : Nat} {x : Opd} : SF T X last h0 ⟨none, .stE n e f x, none⟩ ⟨t, loc, al, h⟩ K ↔ VK (al f) fun p => VK (loc e) fun cs => VK (cellsOf (ov t x)) fun vs => (p.1 = e ∧ vs.length = n ∧ p.2 + n ≤ cs.length) ∧ K ⟨t, upd loc e (some (putAt cs p.2 vs)), al, h⟩ := by
  rw [sf_so (by simp [MOp.free, MOp.step, MOp.want]), so_stE]
theorem sf_litL {n sz : Nat} {z : List Value} {ps : List (Nat × Opd)} : SF T X last h0 ⟨some d, .litL n sz z ps, none⟩ ⟨t, loc, al, h⟩ K ↔ VK (fillAt sz (zeros z n) (prs t ps)) fun cs => K ⟨upd t d undef, upd loc d (some cs), al, h⟩ := by
  rw [sf_so (by simp [MOp.free, MOp.step, MOp.want]), so_litL]
/-- A guard. -/
def WG (v : Value) (b : Bool) (A B : Prop) : Prop := match v with
  | .bool c => if c = b then A else B
  | .map none => B
  | _ => False
theorem WG_bool {c b : Bool} {A B : Prop} : WG (.bool c) b A B ↔ if c = b then A else B := Iff.rfl
theorem WG_gone {b : Bool} {A B : Prop} : WG gone b A B ↔ B := Iff.rfl
theorem so_guard {i : MI} {j : Nat} {b : Bool} : SO T X ⟨some d, i, some (j, b)⟩ ⟨t, loc, al, h⟩ K ↔ WG (t j) b (SO T X ⟨some d, i, none⟩ ⟨t, loc, al, h⟩ K) (K ⟨upd t d gone, upd loc d none, upd al d none, h⟩) := by
  unfold SO MOp.step
  simp only [MOp.want]
  have hg : MOp.go (C T X) ⟨some d, i, some (j, b)⟩ ⟨t, loc, al, h⟩ = MOp.go (C T X) ⟨some d, i, none⟩ ⟨t, loc, al, h⟩ := by cases i <;> rfl
  unfold WG
  cases t j with
  | bool c => cases c <;> cases b <;> simp [hg, MOp.skip]
  | map x => cases x <;> simp [MOp.skip]
  | _ => simp
theorem so_guard0 {i : MI} {j : Nat} {b : Bool} : SO T X ⟨none, i, some (j, b)⟩ ⟨t, loc, al, h⟩ K ↔ WG (t j) b (SO T X ⟨none, i, none⟩ ⟨t, loc, al, h⟩ K) (K ⟨t, loc, al, h⟩) := by
  unfold SO MOp.step
  simp only [MOp.want]
  have hg : MOp.go (C T X) ⟨none, i, some (j, b)⟩ ⟨t, loc, al, h⟩ = MOp.go (C T X) ⟨none, i, none⟩ ⟨t, loc, al, h⟩ := by cases i <;> rfl
  unfold WG
  cases t j with
  | bool c => cases c <;> cases b <;> simp [hg, MOp.skip]
  | map x => cases x <;> simp [MOp.skip]
  | _ => simp
open Classical in
theorem sf_guard {i : MI} {j : Nat} {b : Bool} : SF T X last h0 ⟨some d, i, some (j, b)⟩ ⟨t, loc, al, h⟩ K ↔ WG (t j) b (SF T X last h0 ⟨some d, i, none⟩ ⟨t, loc, al, h⟩ K) (K ⟨upd t d gone, upd loc d none, upd al d none, h⟩) := by
  unfold SF
  have hg : MOp.want ⟨some d, i, some (j, b)⟩ ⟨t, loc, al, h⟩ = some true → MOp.free (C T X) last h0 ⟨some d, i, some (j, b)⟩ ⟨t, loc, al, h⟩ = MOp.free (C T X) last h0 ⟨some d, i, none⟩ ⟨t, loc, al, h⟩ := by
    intro hw
    unfold MOp.free
    rw [hw]
    cases i <;> rfl
  unfold WG
  cases ht : t j with
  | bool c =>
    by_cases hcb : c = b
    · subst hcb
      rw [hg (by simp [MOp.want, ht])]
      simp
    · have hw : MOp.want ⟨some d, i, some (j, b)⟩ ⟨t, loc, al, h⟩ = some false := by simp [MOp.want, ht, hcb]
      simp [MOp.free, hw, MOp.skip, hcb]
  | map x =>
    cases x with
    | none =>
      have hw : MOp.want ⟨some d, i, some (j, b)⟩ ⟨t, loc, al, h⟩ = some false := by simp [MOp.want, ht]
      simp [MOp.free, hw, MOp.skip]
    | some x =>
      have hw : MOp.want ⟨some d, i, some (j, b)⟩ ⟨t, loc, al, h⟩ = none := by simp [MOp.want, ht]
      simp [MOp.free, hw]
  | _ =>
    have hw : MOp.want ⟨some d, i, some (j, b)⟩ ⟨t, loc, al, h⟩ = none := by simp [MOp.want, ht]
    simp [MOp.free, hw]
/-- A branch. -/
def WC (T : FuncId → Option Fun) (X : CallF) (v : Value) (x y : IR) (s : St) (Q : Exit → St → Prop) : Prop := match v with
  | .bool c => if c = true then W T X x s Q else W T X y s Q
  | _ => False
theorem w_cond {c : Opd} {x y : IR} : W T X (.cond c x y) ⟨t, loc, al, h⟩ Q ↔ WC T X (ov t c) x y ⟨t, loc, al, h⟩ Q := by
  unfold WC
  rw [← val_ov (loc := loc) (al := al) (h := h)]
  cases hv : St.val ⟨t, loc, al, h⟩ c with
  | bool b => exact W_cond T X hv
  | _ => simp [W, exec, hv]
theorem wc_bool {c : Bool} {x y : IR} {s : St} : WC T X (.bool c) x y s Q ↔ if c = true then W T X x s Q else W T X y s Q := Iff.rfl
theorem WG_tt {A B : Prop} : WG (.bool true) true A B ↔ A := by simp [WG]
theorem WG_ft {A B : Prop} : WG (.bool false) true A B ↔ B := by simp [WG]
theorem WG_tf {A B : Prop} : WG (.bool true) false A B ↔ B := by simp [WG]
theorem WG_ff {A B : Prop} : WG (.bool false) false A B ↔ A := by simp [WG]
theorem WC_tt {x y : IR} {s : St} : WC T X (.bool true) x y s Q ↔ W T X x s Q := by simp [WC]
theorem WC_ff {x y : IR} {s : St} : WC T X (.bool false) x y s Q ↔ W T X y s Q := by simp [WC]
@[congr] theorem WG_congr {v v' : Value} {b : Bool} {A B : Prop} (h : v = v') : WG v b A B = WG v' b A B := by rw [h]
@[congr] theorem WC_congr {v v' : Value} {x y : IR} {s : St} (h : v = v') : WC T X v x y s Q = WC T X v' x y s Q := by rw [h]
@[congr] theorem VK_congr {α : Type} {o o' : Option α} {K : α → Prop} (h : o = o') : VK o K = VK o' K := by rw [h]
/-- An open test: both ways. -/
theorem WG_open {p : Prop} [Decidable p] {A B : Prop} (h1 : p → A) (h2 : ¬ p → B) : WG (.bool (decide p)) true A B := by
  by_cases hp : p
  · simp only [hp, decide_true, WG_tt]; exact h1 hp
  · simp only [hp, decide_false, WG_ft]; exact h2 hp
theorem WG_open' {p : Prop} [Decidable p] {A B : Prop} (h1 : p → B) (h2 : ¬ p → A) : WG (.bool (decide p)) false A B := by
  by_cases hp : p
  · simp only [hp, decide_true, WG_tf]; exact h1 hp
  · simp only [hp, decide_false, WG_ff]; exact h2 hp
theorem WC_open {p : Prop} [Decidable p] {x y : IR} {s : St} (h1 : p → W T X x s Q) (h2 : ¬ p → W T X y s Q) : WC T X (.bool (decide p)) x y s Q := by
  by_cases hp : p
  · simp only [hp, decide_true, WC_tt]; exact h1 hp
  · simp only [hp, decide_false, WC_ff]; exact h2 hp
theorem WG_any {c : Bool} {A B : Prop} (h1 : c = true → A) (h2 : c = false → B) : WG (.bool c) true A B := by
  cases c
  · exact (WG_ft).2 (h2 rfl)
  · exact (WG_tt).2 (h1 rfl)
theorem WG_any' {c : Bool} {A B : Prop} (h1 : c = true → B) (h2 : c = false → A) : WG (.bool c) false A B := by
  cases c
  · exact (WG_ff).2 (h2 rfl)
  · exact (WG_tf).2 (h1 rfl)
theorem WC_any {c : Bool} {x y : IR} {s : St} (h1 : c = true → W T X x s Q) (h2 : c = false → W T X y s Q) : WC T X (.bool c) x y s Q := by
  cases c
  · exact (WC_ff).2 (h2 rfl)
  · exact (WC_tt).2 (h1 rfl)
theorem so_gt {i : MI} {j : Nat} {b : Bool} (hg : t j = .bool b) : SO T X ⟨some d, i, some (j, b)⟩ ⟨t, loc, al, h⟩ K ↔ SO T X ⟨some d, i, none⟩ ⟨t, loc, al, h⟩ K := by
  rw [so_guard, hg]; simp [WG]
theorem so_gf {i : MI} {j : Nat} (hg : t j = .bool false) : SO T X ⟨some d, i, some (j, true)⟩ ⟨t, loc, al, h⟩ K ↔ K ⟨upd t d gone, upd loc d none, upd al d none, h⟩ := by
  rw [so_guard, hg]; simp [WG]
theorem so_gf' {i : MI} {j : Nat} (hg : t j = .bool true) : SO T X ⟨some d, i, some (j, false)⟩ ⟨t, loc, al, h⟩ K ↔ K ⟨upd t d gone, upd loc d none, upd al d none, h⟩ := by
  rw [so_guard, hg]; simp [WG]
theorem so_gg {i : MI} {j : Nat} {b : Bool} (hg : t j = gone) : SO T X ⟨some d, i, some (j, b)⟩ ⟨t, loc, al, h⟩ K ↔ K ⟨upd t d gone, upd loc d none, upd al d none, h⟩ := by
  rw [so_guard, hg]; rfl
theorem so_0t {i : MI} {j : Nat} {b : Bool} (hg : t j = .bool b) : SO T X ⟨none, i, some (j, b)⟩ ⟨t, loc, al, h⟩ K ↔ SO T X ⟨none, i, none⟩ ⟨t, loc, al, h⟩ K := by
  rw [so_guard0, hg]; simp [WG]
theorem so_0f {i : MI} {j : Nat} (hg : t j = .bool false) : SO T X ⟨none, i, some (j, true)⟩ ⟨t, loc, al, h⟩ K ↔ K ⟨t, loc, al, h⟩ := by
  rw [so_guard0, hg]; simp [WG]
theorem so_0f' {i : MI} {j : Nat} (hg : t j = .bool true) : SO T X ⟨none, i, some (j, false)⟩ ⟨t, loc, al, h⟩ K ↔ K ⟨t, loc, al, h⟩ := by
  rw [so_guard0, hg]; simp [WG]
theorem so_0g {i : MI} {j : Nat} {b : Bool} (hg : t j = gone) : SO T X ⟨none, i, some (j, b)⟩ ⟨t, loc, al, h⟩ K ↔ K ⟨t, loc, al, h⟩ := by
  rw [so_guard0, hg]; rfl
theorem sf_gt {i : MI} {j : Nat} {b : Bool} (hg : t j = .bool b) : SF T X last h0 ⟨some d, i, some (j, b)⟩ ⟨t, loc, al, h⟩ K ↔ SF T X last h0 ⟨some d, i, none⟩ ⟨t, loc, al, h⟩ K := by
  rw [sf_guard, hg]; simp [WG]
theorem sf_gf {i : MI} {j : Nat} (hg : t j = .bool false) : SF T X last h0 ⟨some d, i, some (j, true)⟩ ⟨t, loc, al, h⟩ K ↔ K ⟨upd t d gone, upd loc d none, upd al d none, h⟩ := by
  rw [sf_guard, hg]; simp [WG]
theorem sf_gf' {i : MI} {j : Nat} (hg : t j = .bool true) : SF T X last h0 ⟨some d, i, some (j, false)⟩ ⟨t, loc, al, h⟩ K ↔ K ⟨upd t d gone, upd loc d none, upd al d none, h⟩ := by
  rw [sf_guard, hg]; simp [WG]
theorem sf_gg {i : MI} {j : Nat} {b : Bool} (hg : t j = gone) : SF T X last h0 ⟨some d, i, some (j, b)⟩ ⟨t, loc, al, h⟩ K ↔ K ⟨upd t d gone, upd loc d none, upd al d none, h⟩ := by
  rw [sf_guard, hg]; rfl
theorem w_ct {c : Opd} {x y : IR} (hc : ov t c = .bool true) : W T X (.cond c x y) ⟨t, loc, al, h⟩ Q ↔ W T X x ⟨t, loc, al, h⟩ Q := by
  rw [w_cond, hc, WC_tt]
theorem w_cf {c : Opd} {x y : IR} (hc : ov t c = .bool false) : W T X (.cond c x y) ⟨t, loc, al, h⟩ Q ↔ W T X y ⟨t, loc, al, h⟩ Q := by
  rw [w_cond, hc, WC_ff]
/-- An open branch: both ways. -/
theorem w_open {p : Prop} [Decidable p] {c : Opd} {x y : IR} (hc : ov t c = .bool (decide p)) (h1 : p → W T X x ⟨t, loc, al, h⟩ Q) (h2 : ¬ p → W T X y ⟨t, loc, al, h⟩ Q) : W T X (.cond c x y) ⟨t, loc, al, h⟩ Q := by
  rw [w_cond, hc]; exact WC_open h1 h2
theorem w_any {b : Bool} {c : Opd} {x y : IR} (hc : ov t c = .bool b) (h1 : b = true → W T X x ⟨t, loc, al, h⟩ Q) (h2 : b = false → W T X y ⟨t, loc, al, h⟩ Q) : W T X (.cond c x y) ⟨t, loc, al, h⟩ Q := by
  rw [w_cond, hc]; exact WC_any h1 h2
theorem so_any {b : Bool} {i : MI} {j : Nat} (hc : t j = .bool b) (h1 : b = true → SO T X ⟨some d, i, none⟩ ⟨t, loc, al, h⟩ K) (h2 : b = false → K ⟨upd t d gone, upd loc d none, upd al d none, h⟩) : SO T X ⟨some d, i, some (j, true)⟩ ⟨t, loc, al, h⟩ K := by
  rw [so_guard, hc]; exact WG_any h1 h2
theorem so_any' {b : Bool} {i : MI} {j : Nat} (hc : t j = .bool b) (h1 : b = true → K ⟨upd t d gone, upd loc d none, upd al d none, h⟩) (h2 : b = false → SO T X ⟨some d, i, none⟩ ⟨t, loc, al, h⟩ K) : SO T X ⟨some d, i, some (j, false)⟩ ⟨t, loc, al, h⟩ K := by
  rw [so_guard, hc]; exact WG_any' h1 h2
theorem sf_any {b : Bool} {i : MI} {j : Nat} (hc : t j = .bool b) (h1 : b = true → SF T X last h0 ⟨some d, i, none⟩ ⟨t, loc, al, h⟩ K) (h2 : b = false → K ⟨upd t d gone, upd loc d none, upd al d none, h⟩) : SF T X last h0 ⟨some d, i, some (j, true)⟩ ⟨t, loc, al, h⟩ K := by
  rw [sf_guard, hc]; exact WG_any h1 h2
theorem sf_any' {b : Bool} {i : MI} {j : Nat} (hc : t j = .bool b) (h1 : b = true → K ⟨upd t d gone, upd loc d none, upd al d none, h⟩) (h2 : b = false → SF T X last h0 ⟨some d, i, none⟩ ⟨t, loc, al, h⟩ K) : SF T X last h0 ⟨some d, i, some (j, false)⟩ ⟨t, loc, al, h⟩ K := by
  rw [sf_guard, hc]; exact WG_any' h1 h2
theorem ndec {p : Prop} [Decidable p] : (!decide p) = decide (¬ p) := by simp
theorem close_mk : St.close ⟨t, loc, al, h⟩ = ⟨t, loc, fun _ => none, h⟩ := rfl
theorem then_normal {b : IR} {s : St} : andThen T X b Q .normal s ↔ W T X b s Q := Iff.rfl
theorem then_exit {b : IR} {s : St} {i : Nat} : andThen T X b Q (.exit i) s ↔ Q (.exit i) s := Iff.rfl
theorem then_ret {b : IR} {s : St} : andThen T X b Q .ret s ↔ Q .ret s := Iff.rfl
theorem catch_normal {s : St} {i : Nat} : catchAt i Q .normal s ↔ Q .normal s := Iff.rfl
theorem catch_exit {s : St} {i j : Nat} : catchAt i Q (.exit j) s ↔ if j = i then Q .normal s else Q (.exit j) s := Iff.rfl
theorem catch_ret {s : St} {i : Nat} : catchAt i Q .ret s ↔ Q .ret s := Iff.rfl
theorem upd_at {α : Type} {f : Nat → α} {i j : Nat} {v : α} : upd f i v j = if j = i then v else f j := rfl
def unalAt (d : Nat) : Option (Nat × Nat) → Option (Nat × Nat)
  | some (d', off) => if d' = d then none else some (d', off)
  | none => none
theorem unal_at {d e : Nat} : unal al d e = unalAt d (al e) := by
  unfold unal unalAt
  rfl
theorem w_while {x : IR} {s : St} (I : Nat → St → Prop) (n : Nat) (h0 : I n s) (step : ∀ n s, I n s → W T X x s fun e s' => match e with | .normal => ∃ m, m < n ∧ I m s' | e => Q e s') : W T X (.loop x) s Q :=
  W_while T X I step n s h0
theorem finish_same {v : Value} : finish h (v, h) = (v, h) := by unfold finish; split <;> rfl
theorem finish_flat {v : Value} {h' : Heap} (hf : flat v = true) (hp : h <+: h') : finish h (v, h') = (v, h) := by unfold finish; rw [if_pos ⟨hf, hp⟩]
theorem finish_deep {v : Value} {h' : Heap} (hf : flat v = false) : finish h (v, h') = (v, h') := by unfold finish; rw [if_neg (by simp [hf])]
/-- One result in a slot. -/
theorem rets_slot {F : Fun} {r : Value × Heap} {e : Exit} {d : Nat} (hF : F.res = [.slot d]) (he : e = .ret ∨ e = .normal) (hl : live (t d) = true) (hf : finish h0 (t d, h) = r) : Rets F h0 r e ⟨t, loc, al, h⟩ := by
  refine ⟨he.symm, t d, ?_, hf⟩
  rw [hF]
  simp [results1, Res.get, hl]
end
end Go.Proofs.YthfeahanmbmjhaaGreatDoor.Ab
/- The stepping rules as one set. No conditions. -/
namespace Go.Proofs.YthfeahanmbmjhaaGreatDoor.Ab
/-- Is a guarded operation taken? -/
def gd : Value → Bool → Option Bool
  | .bool c, b => some (c == b)
  | .map none, _ => some false
  | _, _ => none
theorem gd_tt : gd (.bool true) true = some true := rfl
theorem gd_tf : gd (.bool true) false = some false := rfl
theorem gd_ft : gd (.bool false) true = some false := rfl
theorem gd_ff : gd (.bool false) false = some true := rfl
theorem gd_gone {b : Bool} : gd gone b = some false := rfl
/-- One place more that says one thing. -/
def skp {α : Type} (t : Nat → α) (v : α) (d : Nat) : Nat → α := upd t d v
/-- A row of places that say one thing. -/
def rng {α : Type} (t : Nat → α) (v : α) (lo hi : Nat) : Nat → α := fun i => if lo ≤ i ∧ i < hi then v else t i
section
variable {α : Type} {t : Nat → α} {v w : α} {d e lo hi i j : Nat}
theorem rng_at : rng t v lo hi j = if lo ≤ j ∧ j < hi then v else t j := rfl
theorem skp_at : skp t v d j = if j = d then v else t j := rfl
theorem skp_upd : skp (upd t i w) v d = rng (upd t i w) v d (d + 1) := by
  funext k; simp only [skp, rng, upd]
  by_cases h : k = d
  · subst h; simp
  · have : ¬ (d ≤ k ∧ k < d + 1) := by omega
    simp [h, this]
theorem skp_rng : skp (rng t v lo hi) v d = if d = hi ∧ lo ≤ d then rng t v lo (d + 1) else rng (rng t v lo hi) v d (d + 1) := by
  funext k
  split
  · rename_i h
    obtain ⟨rfl, h⟩ := h
    simp only [skp, rng, upd]
    by_cases h1 : k = d
    · subst h1; simp [h]
    · have : (lo ≤ k ∧ k < d + 1) ↔ (lo ≤ k ∧ k < d) := by omega
      simp only [h1, if_false, this]
  · simp only [skp, rng, upd]
    by_cases h1 : k = d
    · subst h1; simp
    · have : ¬ (d ≤ k ∧ k < d + 1) := by omega
      simp only [h1, if_false, this]
theorem skp_skp : skp (skp t v d) v e = if e = d + 1 then rng t v d (e + 1) else rng (skp t v d) v e (e + 1) := by
  funext k
  split
  · rename_i h
    subst h
    simp only [skp, rng, upd]
    by_cases h1 : k = d + 1
    · subst h1; simp
    · by_cases h2 : k = d
      · subst h2
        have : k ≤ k ∧ k < k + 1 + 1 := by omega
        simp only [h1, if_false, this, if_true]
        simp
      · have : ¬ (d ≤ k ∧ k < d + 1 + 1) := by omega
        simp only [h1, h2, if_false, this]
  · simp only [skp, rng, upd]
    by_cases h1 : k = e
    · subst h1; simp
    · have : ¬ (e ≤ k ∧ k < e + 1) := by omega
      simp only [h1, if_false, this]
end
section
variable {T : FuncId → Option Fun} {X : CallF} {t : Nat → Value} {loc : Nat → Option (List Value)} {al : Nat → Option (Nat × Nat)} {h h0 : Heap} {d j : Nat} {b : Bool} {K : St → Prop} {last : Bool} {i : MI}
theorem gd_true {v : Value} (h : gd v b = some true) : v = .bool b := by
  unfold gd at h
  split at h
  · rename_i c
    have : (c == b) = true := Option.some.inj h
    rw [show c = b by simpa using this]
  · simp at h
  · simp at h
theorem gd_false {v : Value} (h : gd v b = some false) : v = .bool (!b) ∨ v = gone := by
  unfold gd at h
  split at h
  · rename_i c
    have : (c == b) = false := Option.some.inj h
    refine .inl ?_
    cases c <;> cases b <;> first | rfl | (simp at this)
  · exact .inr rfl
  · simp at h
theorem so_gT (hg : gd (t j) b = some true) : SO T X ⟨some d, i, some (j, b)⟩ ⟨t, loc, al, h⟩ K ↔ SO T X ⟨some d, i, none⟩ ⟨t, loc, al, h⟩ K := so_gt (gd_true hg)
theorem so_gF (hg : gd (t j) b = some false) : SO T X ⟨some d, i, some (j, b)⟩ ⟨t, loc, al, h⟩ K ↔ K ⟨skp t gone d, skp loc none d, skp al none d, h⟩ := by
  rcases gd_false hg with h1 | h1
  · cases b
    · exact so_gf' h1
    · exact so_gf h1
  · exact so_gg h1
theorem sf_gT (hg : gd (t j) b = some true) : SF T X last h0 ⟨some d, i, some (j, b)⟩ ⟨t, loc, al, h⟩ K ↔ SF T X last h0 ⟨some d, i, none⟩ ⟨t, loc, al, h⟩ K := sf_gt (gd_true hg)
theorem sf_gF (hg : gd (t j) b = some false) : SF T X last h0 ⟨some d, i, some (j, b)⟩ ⟨t, loc, al, h⟩ K ↔ K ⟨skp t gone d, skp loc none d, skp al none d, h⟩ := by
  rcases gd_false hg with h1 | h1
  · cases b
    · exact sf_gf' h1
    · exact sf_gf h1
  · exact sf_gg h1
theorem so_0T (hg : gd (t j) b = some true) : SO T X ⟨none, i, some (j, b)⟩ ⟨t, loc, al, h⟩ K ↔ SO T X ⟨none, i, none⟩ ⟨t, loc, al, h⟩ K := so_0t (gd_true hg)
theorem so_0F (hg : gd (t j) b = some false) : SO T X ⟨none, i, some (j, b)⟩ ⟨t, loc, al, h⟩ K ↔ K ⟨t, loc, al, h⟩ := by
  rcases gd_false hg with h1 | h1
  · cases b
    · exact so_0f' h1
    · exact so_0f h1
  · exact so_0g h1
end
/-- These slots, and no others. -/
def keepT (t : Nat → Value) : List Nat → Nat → Value
  | [] => fun _ => undef
  | g :: gs => upd (keepT t gs) g (t g)
def keepL (loc : Nat → Option (List Value)) : List Nat → Nat → Option (List Value)
  | [] => fun _ => none
  | g :: gs => upd (keepL loc gs) g (loc g)
theorem keepT_eq {t : Nat → Value} : ∀ l : List Nat, keepT t l = fun i => if l.contains i = true then t i else undef
  | [] => by funext i; simp [keepT]
  | g :: gs => by
    funext i
    simp only [keepT, upd, keepT_eq gs, List.contains_cons]
    by_cases h : i = g
    · subst h; simp
    · simp [h]
theorem keepL_eq {loc : Nat → Option (List Value)} : ∀ l : List Nat, keepL loc l = fun i => if l.contains i = true then loc i else none
  | [] => by funext i; simp [keepL]
  | g :: gs => by
    funext i
    simp only [keepL, upd, keepL_eq gs, List.contains_cons]
    by_cases h : i = g
    · subst h; simp
    · simp [h]
theorem keepT_nil {t : Nat → Value} : keepT t [] = fun _ => undef := rfl
theorem keepT_cons {t : Nat → Value} {g : Nat} {gs : List Nat} : keepT t (g :: gs) = upd (keepT t gs) g (t g) := rfl
theorem keepL_nil {t : Nat → Option (List Value)} : keepL t [] = fun _ => none := rfl
theorem keepL_cons {t : Nat → Option (List Value)} {g : Nat} {gs : List Nat} : keepL t (g :: gs) = upd (keepL t gs) g (t g) := rfl
/-- Two things are reckoned first. -/
def KP {α β : Type} (a : α) (b : β) (F : α → β → Prop) : Prop := F a b
theorem KP_go {α β : Type} {a : α} {b : β} {F : α → β → Prop} : KP a b F ↔ F a b := Iff.rfl
theorem KP_congr {α β : Type} {a a' : α} {b b' : β} {F : α → β → Prop} (ha : a = a') (hb : b = b') : KP a b F = KP a' b' F := by rw [ha, hb]
attribute [congr] KP_congr
theorem W_keep {T : FuncId → Option Fun} {X : CallF} {t : Nat → Value} {loc : Nat → Option (List Value)} {al : Nat → Option (Nat × Nat)} {h : Heap} {l : List Nat} {Q : Exit → St → Prop} :
    W T X (.keep l) ⟨t, loc, al, h⟩ Q ↔ KP (keepT t l) (keepL loc l) fun t loc => Q .normal ⟨t, loc, fun _ => none, h⟩ := by
  rw [W_keep', KP, keepT_eq, keepL_eq]
  rfl
theorem getD_nil' {n : Nat} {d : Value} : ([] : List Value).getD n d = d := rfl
attribute [go_sem ↓] W_keep keepT_nil keepT_cons keepL_nil keepL_cons
attribute [go_sem] KP_go getD_nil'
attribute [go_sem] gd_tt gd_tf gd_ft gd_ff gd_gone
attribute [go_sem ↓] rng_at skp_at skp_upd skp_rng skp_skp so_gT so_gF sf_gT sf_gF so_0T so_0F
attribute [go_sem ↓] so_mov sf_mov so_pick sf_pick so_bin sf_bin so_binB sf_binB so_eqS sf_eqS so_un sf_un so_conv sf_conv so_str sf_str so_ld sf_ld so_fa sf_fa so_ia sf_ia so_ix sf_ix so_fl sf_fl so_slS sf_slS so_slL sf_slL so_ln sf_ln so_lnS sf_lnS so_bld sf_bld so_ext sf_ext so_chk sf_chk so_mm sf_mm so_fn sf_fn so_ldB sf_ldB so_ldE sf_ldE so_strL sf_strL so_app sf_app so_appL sf_appL pickH_true pickH_false so_lit sf_lit sf_mk sf_nw sf_bx sf_st so_callL so_callL0 sf_callL so_mk so_nw so_bx so_call so_call0 sf_call sf_call0 so_callV so_callV0 so_newL so_boxL so_faB so_faE so_stB so_stE so_litL so_st sf_newL sf_faB sf_faE sf_stB sf_stE sf_litL close_mk then_normal then_exit then_ret catch_normal catch_exit catch_ret VK_some VK_none W_skip W_exit W_ret W_ops W_free W_opn WN_nil WN_c WN_m WN_l allH_nil allH_cons dropH_0 dropH_1 dropH_2 dropH_3 dropH_4 dropH_5 dropH_6 snocH_nil snocH_cons W_seq W_block WO_nil WO_cons WF_nil WF_cons w_ct w_cf upd_at unal_at ov_t ov_c oov_some oov_none ovs_nil ovs_cons pls_nil pls_cons prs_nil prs_cons
/-- Bits. -/
def andI (k : IntKind) (a b : Int) : Int := k.wrap (BitVec.ofInt k.bits a &&& BitVec.ofInt k.bits b).toNat
def orI (k : IntKind) (a b : Int) : Int := k.wrap (BitVec.ofInt k.bits a ||| BitVec.ofInt k.bits b).toNat
def xorI (k : IntKind) (a b : Int) : Int := k.wrap (BitVec.ofInt k.bits a ^^^ BitVec.ofInt k.bits b).toNat
theorem binV_add {k : IntKind} {a b : Int} : binV .add (.int k a) (.int k b) = some (.int k (k.wrap (a + b))) := by simp [binV, andI, orI, xorI]
theorem binV_sub {k : IntKind} {a b : Int} : binV .sub (.int k a) (.int k b) = some (.int k (k.wrap (a - b))) := by simp [binV, andI, orI, xorI]
theorem binV_mul {k : IntKind} {a b : Int} : binV .mul (.int k a) (.int k b) = some (.int k (k.wrap (a * b))) := by simp [binV, andI, orI, xorI]
theorem binV_quo {k : IntKind} {a b : Int} : binV .quo (.int k a) (.int k b) = if b ≠ 0 then some (.int k (k.wrap (a.tdiv b))) else none := by simp [binV, andI, orI, xorI]
theorem binV_rem {k : IntKind} {a b : Int} : binV .rem (.int k a) (.int k b) = if b ≠ 0 then some (.int k (a.tmod b)) else none := by simp [binV, andI, orI, xorI]
theorem binV_and {k : IntKind} {a b : Int} : binV .and (.int k a) (.int k b) = some (.int k (andI k a b)) := by simp [binV, andI, orI, xorI]
theorem binV_or {k : IntKind} {a b : Int} : binV .or (.int k a) (.int k b) = some (.int k (orI k a b)) := by simp [binV, andI, orI, xorI]
theorem binV_xor {k : IntKind} {a b : Int} : binV .xor (.int k a) (.int k b) = some (.int k (xorI k a b)) := by simp [binV, andI, orI, xorI]
theorem binV_eql {k : IntKind} {a b : Int} : binV .eql (.int k a) (.int k b) = some (.bool (decide (a = b))) := by simp [binV, andI, orI, xorI]
theorem binV_neq {k : IntKind} {a b : Int} : binV .neq (.int k a) (.int k b) = some (.bool (!decide (a = b))) := by simp [binV, andI, orI, xorI]
theorem binV_lss {k : IntKind} {a b : Int} : binV .lss (.int k a) (.int k b) = some (.bool (decide (a < b))) := by simp [binV, andI, orI, xorI]
theorem binV_leq {k : IntKind} {a b : Int} : binV .leq (.int k a) (.int k b) = some (.bool (decide (a ≤ b))) := by simp [binV, andI, orI, xorI]
theorem binV_gtr {k : IntKind} {a b : Int} : binV .gtr (.int k a) (.int k b) = some (.bool (decide (a > b))) := by simp [binV, andI, orI, xorI]
theorem binV_geq {k : IntKind} {a b : Int} : binV .geq (.int k a) (.int k b) = some (.bool (decide (a ≥ b))) := by simp [binV, andI, orI, xorI]
theorem binV_shl {k k' : IntKind} {a b : Int} : binV .shl (.int k a) (.int k' b) = if b < 0 then none else some (.int k (k.wrap (a * 2 ^ min b.toNat k.bits))) := rfl
theorem binV_shr {k k' : IntKind} {a b : Int} : binV .shr (.int k a) (.int k' b) = if b < 0 then none else some (.int k (a.fdiv (2 ^ min b.toNat k.bits))) := rfl
theorem binS_add {a b : ByteArray} : binV .add (.string a) (.string b) = if a.size + b.size ≤ 9223372036854775807 then some (.string (a ++ b)) else none := rfl
theorem binS_eql {a b : ByteArray} : binV .eql (.string a) (.string b) = some (.bool (a.toList == b.toList)) := rfl
theorem binS_neq {a b : ByteArray} : binV .neq (.string a) (.string b) = some (.bool (!(a.toList == b.toList))) := rfl
theorem binS_lss {a b : ByteArray} : binV .lss (.string a) (.string b) = some (.bool (Op.bytesLess a.toList b.toList)) := rfl
theorem binS_leq {a b : ByteArray} : binV .leq (.string a) (.string b) = some (.bool (Op.bytesLess a.toList b.toList || a.toList == b.toList)) := rfl
theorem binS_gtr {a b : ByteArray} : binV .gtr (.string a) (.string b) = some (.bool !(Op.bytesLess a.toList b.toList || a.toList == b.toList)) := rfl
theorem binS_geq {a b : ByteArray} : binV .geq (.string a) (.string b) = some (.bool !(Op.bytesLess a.toList b.toList)) := rfl
attribute [go_sem] binV_add binV_sub binV_mul binV_quo binV_rem binV_and binV_or binV_xor binV_eql binV_neq binV_lss binV_leq binV_gtr binV_geq binV_shl binV_shr binS_add binS_eql binS_neq binS_lss binS_leq binS_gtr binS_geq
theorem cellsOf_int {k : IntKind} {n : Int} : cellsOf (.int k n) = some [.int k n] := rfl
theorem cellsOf_bool {b : Bool} : cellsOf (.bool b) = some [.bool b] := rfl
theorem cellsOf_string {b : ByteArray} : cellsOf (.string b) = some [.string b] := rfl
theorem cellsOf_slice {a : Option Addr} {n c : Nat} : cellsOf (.slice a n c) = some [.slice a n c] := rfl
theorem cellsOf_pointer {a : Option Addr} : cellsOf (.pointer a) = some [.pointer a] := rfl
theorem cellsOf_agg {l : List Value} : cellsOf (.agg ⟨l⟩) = some l := rfl
theorem cellsOf_func {f : Fn} {a : Array Value} {l : List Value} : cellsOf (.func f a ⟨l⟩) = some [.func f a ⟨l⟩] := rfl
attribute [go_sem] unalAt pickV convV lnSV extV mmV ldBV ldEV isSome' binBV unV cellsOf_int cellsOf_bool cellsOf_string cellsOf_slice cellsOf_pointer cellsOf_agg cellsOf_func ofCells bnd putAt Option.bind_some Option.map_some Option.map_none Option.bind_none List.length_cons List.length_nil List.drop_zero List.drop_succ_cons List.take_zero List.take_succ_cons List.take_nil List.drop_nil List.cons_append List.nil_append List.append_nil if_true if_false decide_eq_true_eq true_and and_true and_self Bool.false_eq_true Bool.true_eq_false Nat.succ_ne_zero List.getD_cons_zero List.getD_cons_succ ge_iff_le gt_iff_lt decide_true decide_false Bool.not_true Bool.not_false Bool.and_true Bool.and_false Bool.true_and Bool.false_and not_true_eq_false not_false_eq_true false_and and_false ndec beq_self_eq_true
end Go.Proofs.YthfeahanmbmjhaaGreatDoor.Ab
/- Calls and loops by rules that leave plain sentences behind. No conditions. -/
namespace Go.Proofs.YthfeahanmbmjhaaGreatDoor.Ab
open Go.RowKit
/-- What a function hands back. -/
def resV (t : Nat → Value) (loc : Nat → Option (List Value)) : List Res → Option (List Value)
  | [] => some []
  | .slot d :: rs => (resV t loc rs).map fun vs => t d :: vs
  | .box d n agg :: rs => match loc d with
    | some cs => if n ≤ cs.length then (ofCells agg (cs.take n)).bind fun v => (resV t loc rs).map fun vs => v :: vs else none
    | none => none
theorem resV_mapM {t : Nat → Value} {loc : Nat → Option (List Value)} {al : Nat → Option (Nat × Nat)} {h : Heap} : ∀ rs : List Res, rs.mapM (Res.get ⟨t, loc, al, h⟩) = resV t loc rs
  | [] => rfl
  | .slot d :: rs => by
    rw [List.mapM_cons, resV_mapM rs]
    simp only [Res.get, resV]
    cases resV t loc rs <;> rfl
  | .box d n agg :: rs => by
    rw [List.mapM_cons, resV_mapM rs]
    simp only [Res.get, resV]
    cases loc d with
    | none => rfl
    | some cs =>
      simp only
      split
      · cases ofCells agg (List.take n cs) with
        | none => rfl
        | some v => simp only [Option.bind_some]; cases resV t loc rs <;> rfl
      · rfl
/-- The results make up the answer. -/
def RetV (h0 h : Heap) (r : Value × Heap) : List Value → Prop
  | [v] => live v = true ∧ finish h0 (v, h) = r
  | vs => vs.all live = true ∧ finish h0 (.tuple ⟨vs⟩, h) = r
/-- The code ends so that these results are the answer. -/
def RetR (rs : List Res) (h0 : Heap) (r : Value × Heap) (e : Exit) (s : St) : Prop := (e = .normal ∨ e = .ret) ∧ VK (resV s.t s.loc rs) (RetV h0 s.h r)
section
variable {T : FuncId → Option Fun} {X : CallF} {t : Nat → Value} {loc : Nat → Option (List Value)} {h h0 : Heap} {r : Value × Heap} {Q : Exit → St → Prop}
theorem C_go {f : FuncId} {l : List Value} {F : Fun} (hT : T f = some F) (hl : l.length = F.np) (hw : W T X F.body ⟨fun i => l.getD i undef, fun _ => none, fun _ => none, h⟩ (RetR F.res h r)) : C T X f l h = some r := by
  refine C_intro T X hT hl (hw.mono T X fun e s hq => ?_)
  obtain ⟨he, vs, hv, hr⟩ := hq
  refine ⟨he, ?_⟩
  obtain ⟨t, loc, al, h'⟩ := s
  unfold results1
  rw [resV_mapM, hv]
  match vs, hr with
  | [], ⟨h1, h2⟩ => exact ⟨_, by simp, h2⟩
  | [v], ⟨h1, h2⟩ => exact ⟨v, by simp [h1], h2⟩
  | a :: b :: vs, ⟨h1, h2⟩ => exact ⟨_, by simp only [h1, if_true], h2⟩
theorem ret_ret {rs : List Res} {al : Nat → Option (Nat × Nat)} : RetR rs h0 r .ret ⟨t, loc, al, h⟩ ↔ VK (resV t loc rs) (RetV h0 h r) := by simp [RetR]
theorem ret_normal {rs : List Res} {al : Nat → Option (Nat × Nat)} : RetR rs h0 r .normal ⟨t, loc, al, h⟩ ↔ VK (resV t loc rs) (RetV h0 h r) := by simp [RetR]
theorem ret1 {v : Value} : RetV h0 h r [v] ↔ live v = true ∧ finish h0 (v, h) = r := Iff.rfl
theorem ret0 : RetV h0 h r [] ↔ finish h0 (.tuple ⟨[]⟩, h) = r := by simp [RetV]
theorem ret2 {a b : Value} : RetV h0 h r [a, b] ↔ (live a = true ∧ live b = true) ∧ finish h0 (.tuple ⟨[a, b]⟩, h) = r := by simp [RetV]
theorem ret3 {a b c : Value} : RetV h0 h r [a, b, c] ↔ (live a = true ∧ live b = true ∧ live c = true) ∧ finish h0 (.tuple ⟨[a, b, c]⟩, h) = r := by simp [RetV]
theorem ret4 {a b c d : Value} : RetV h0 h r [a, b, c, d] ↔ (live a = true ∧ live b = true ∧ live c = true ∧ live d = true) ∧ finish h0 (.tuple ⟨[a, b, c, d]⟩, h) = r := by simp [RetV]
theorem resV_nil : resV t loc [] = some [] := rfl
theorem resV_slot {d : Nat} {rs : List Res} : resV t loc (.slot d :: rs) = (resV t loc rs).map fun vs => t d :: vs := rfl
theorem resV_box {d n : Nat} {agg : Bool} {rs : List Res} {cs : List Value} (hl : loc d = some cs) : resV t loc (.box d n agg :: rs) = if n ≤ cs.length then (ofCells agg (cs.take n)).bind fun v => (resV t loc rs).map fun vs => v :: vs else none := by
  simp only [resV, hl]
theorem live_bool {b : Bool} : live (.bool b) = true := rfl
theorem live_int {k : IntKind} {n : Int} : live (.int k n) = true := rfl
theorem live_string {b : ByteArray} : live (.string b) = true := rfl
theorem live_slice {a : Option Addr} {n c : Nat} : live (.slice a n c) = true := rfl
theorem live_pointer {a : Option Addr} : live (.pointer a) = true := rfl
theorem live_agg {a : Array Value} : live (.agg a) = true := rfl
/-- What is known of the slots is kept, all else forgotten. -/
theorem w_cut {x : IR} {al : Nat → Option (Nat × Nat)} (P : (Nat → Value) → (Nat → Option (List Value)) → Prop) (h1 : P t loc) (h2 : ∀ t loc, P t loc → W T X x ⟨t, loc, al, h⟩ Q) : W T X x ⟨t, loc, al, h⟩ Q := h2 t loc h1
/-- The next round of a loop that counts. -/
def Nx (i N : Nat) (I : Nat → (Nat → Value) → (Nat → Option (List Value)) → Heap → Prop) (Q : Exit → St → Prop) : Exit → St → Prop
  | .normal, s => i < N ∧ s.al = (fun _ => none) ∧ I (i + 1) s.t s.loc s.h
  | e, s => Q e s
/-- A loop that counts. -/
theorem w_for {x : IR} (N : Nat) (I : Nat → (Nat → Value) → (Nat → Option (List Value)) → Heap → Prop) (h1 : I 0 t loc h)
    (step : ∀ (i : Nat) (t : Nat → Value) (loc : Nat → Option (List Value)) (h : Heap), i ≤ N → I i t loc h → W T X x ⟨t, loc, fun _ => none, h⟩ (Nx i N I Q)) : W T X (.loop x) ⟨t, loc, fun _ => none, h⟩ Q := by
  refine w_while (fun n s => ∃ i, n = N - i ∧ i ≤ N ∧ s.al = (fun _ => none) ∧ I i s.t s.loc s.h) N ⟨0, rfl, Nat.zero_le _, rfl, h1⟩ ?_
  rintro n ⟨t, loc, al, h⟩ ⟨i, rfl, hi, rfl, hI⟩
  refine (step i t loc h hi hI).mono T X fun e s hq => ?_
  cases e with
  | normal =>
    obtain ⟨h1, h2, h3⟩ := hq
    exact ⟨N - (i + 1), by omega, i + 1, rfl, by omega, h2, h3⟩
  | _ => exact hq
theorem nx_normal {i N : Nat} {I : Nat → (Nat → Value) → (Nat → Option (List Value)) → Heap → Prop} : Nx i N I Q .normal ⟨t, loc, fun _ => none, h⟩ ↔ i < N ∧ I (i + 1) t loc h := by simp [Nx]
theorem nx_exit {i N k : Nat} {I : Nat → (Nat → Value) → (Nat → Option (List Value)) → Heap → Prop} {s : St} : Nx i N I Q (.exit k) s ↔ Q (.exit k) s := Iff.rfl
theorem nx_ret {i N : Nat} {I : Nat → (Nat → Value) → (Nat → Option (List Value)) → Heap → Prop} {s : St} : Nx i N I Q .ret s ↔ Q .ret s := Iff.rfl
/-- The next round of a loop that has a measure. -/
def Mx (n : Nat) (I : Nat → (Nat → Value) → (Nat → Option (List Value)) → Heap → Prop) (Q : Exit → St → Prop) : Exit → St → Prop
  | .normal, s => ∃ m, m < n ∧ s.al = (fun _ => none) ∧ I m s.t s.loc s.h
  | e, s => Q e s
theorem w_meas {x : IR} (N : Nat) (I : Nat → (Nat → Value) → (Nat → Option (List Value)) → Heap → Prop) (h1 : I N t loc h)
    (step : ∀ (n : Nat) (t : Nat → Value) (loc : Nat → Option (List Value)) (h : Heap), I n t loc h → W T X x ⟨t, loc, fun _ => none, h⟩ (Mx n I Q)) : W T X (.loop x) ⟨t, loc, fun _ => none, h⟩ Q := by
  refine w_while (fun n s => s.al = (fun _ => none) ∧ I n s.t s.loc s.h) N ⟨rfl, h1⟩ ?_
  rintro n ⟨t, loc, al, h⟩ ⟨rfl, hI⟩
  refine (step n t loc h hI).mono T X fun e s hq => ?_
  cases e with
  | normal => exact hq
  | _ => exact hq
theorem mx_normal {n : Nat} {I : Nat → (Nat → Value) → (Nat → Option (List Value)) → Heap → Prop} : Mx n I Q .normal ⟨t, loc, fun _ => none, h⟩ ↔ ∃ m, m < n ∧ I m t loc h := by simp [Mx]
theorem mx_exit {n k : Nat} {I : Nat → (Nat → Value) → (Nat → Option (List Value)) → Heap → Prop} {s : St} : Mx n I Q (.exit k) s ↔ Q (.exit k) s := Iff.rfl
theorem mx_ret {n : Nat} {I : Nat → (Nat → Value) → (Nat → Option (List Value)) → Heap → Prop} {s : St} : Mx n I Q .ret s ↔ Q .ret s := Iff.rfl
end
attribute [go_sem ↓] ret_ret ret_normal nx_normal nx_exit nx_ret mx_normal mx_exit mx_ret
attribute [go_sem] ret0 ret1 ret2 ret3 ret4 resV_nil resV_slot resV_box live_bool live_int live_string live_slice live_pointer live_agg finish_same Prod.mk.injEq Value.bool.injEq Value.int.injEq Option.some.injEq
end Go.Proofs.YthfeahanmbmjhaaGreatDoor.Ab
/- Calls of which only something is told. No conditions. -/
namespace Go.Proofs.YthfeahanmbmjhaaGreatDoor.Ab
open Go.RowKit
/-- What is told of an answer. -/
def RetW (h0 h : Heap) (P : Value → Heap → Prop) : List Value → Prop
  | [v] => live v = true ∧ P (finish h0 (v, h)).1 (finish h0 (v, h)).2
  | vs => vs.all live = true ∧ P (finish h0 (.tuple ⟨vs⟩, h)).1 (finish h0 (.tuple ⟨vs⟩, h)).2
def RetQ (rs : List Res) (h0 : Heap) (P : Value → Heap → Prop) (e : Exit) (s : St) : Prop := (e = .normal ∨ e = .ret) ∧ VK (resV s.t s.loc rs) (RetW h0 s.h P)
section
variable {T : FuncId → Option Fun} {X : CallF} {t : Nat → Value} {loc : Nat → Option (List Value)} {h h0 : Heap} {P : Value → Heap → Prop} {Q : Exit → St → Prop}
theorem C_ex {f : FuncId} {l : List Value} {F : Fun} (hT : T f = some F) (hl : l.length = F.np) (hw : W T X F.body ⟨fun i => l.getD i undef, fun _ => none, fun _ => none, h⟩ (RetQ F.res h P)) : ∃ v hh, C T X f l h = some (v, hh) ∧ P v hh := by
  obtain ⟨n, e, s, he, hq⟩ := hw
  obtain ⟨hen, vs, hv, hr⟩ := hq
  have key : ∃ v, results1 s F.res = some v ∧ P (finish h (v, s.h)).1 (finish h (v, s.h)).2 := by
    obtain ⟨t, loc, al, h'⟩ := s
    unfold results1
    rw [resV_mapM, hv]
    match vs, hr with
    | [], ⟨h1, h2⟩ => exact ⟨_, by simp, h2⟩
    | [v], ⟨h1, h2⟩ => exact ⟨v, by simp [h1], h2⟩
    | a :: b :: vs, ⟨h1, h2⟩ => exact ⟨_, by simp only [h1, if_true], h2⟩
  obtain ⟨v, h1, h2⟩ := key
  exact ⟨_, _, C_intro T X hT hl ⟨n, e, s, he, hen, v, h1, rfl⟩, h2⟩
theorem C_exH {f : FuncId} {l : List Value} {F : Fun} {c : Value} {P : Heap → Prop} (hT : T f = some F) (hl : l.length = F.np) (hw : W T X F.body ⟨fun i => l.getD i undef, fun _ => none, fun _ => none, h⟩ (RetQ F.res h fun v hh => v = c ∧ P hh)) : ∃ hh, C T X f l h = some (c, hh) ∧ P hh := by
  obtain ⟨v, hh, h1, rfl, h2⟩ := C_ex hT hl hw
  exact ⟨hh, h1, h2⟩
theorem retq_ret {rs : List Res} {al : Nat → Option (Nat × Nat)} : RetQ rs h0 P .ret ⟨t, loc, al, h⟩ ↔ VK (resV t loc rs) (RetW h0 h P) := by simp [RetQ]
theorem retq_normal {rs : List Res} {al : Nat → Option (Nat × Nat)} : RetQ rs h0 P .normal ⟨t, loc, al, h⟩ ↔ VK (resV t loc rs) (RetW h0 h P) := by simp [RetQ]
theorem retw1 {v : Value} : RetW h0 h P [v] ↔ live v = true ∧ P (finish h0 (v, h)).1 (finish h0 (v, h)).2 := Iff.rfl
theorem retw0 : RetW h0 h P [] ↔ P (finish h0 (.tuple ⟨[]⟩, h)).1 (finish h0 (.tuple ⟨[]⟩, h)).2 := by simp [RetW]
theorem retw2 {a b : Value} : RetW h0 h P [a, b] ↔ (live a = true ∧ live b = true) ∧ P (finish h0 (.tuple ⟨[a, b]⟩, h)).1 (finish h0 (.tuple ⟨[a, b]⟩, h)).2 := by simp [RetW]
theorem retw3 {a b c : Value} : RetW h0 h P [a, b, c] ↔ (live a = true ∧ live b = true ∧ live c = true) ∧ P (finish h0 (.tuple ⟨[a, b, c]⟩, h)).1 (finish h0 (.tuple ⟨[a, b, c]⟩, h)).2 := by simp [RetW]
theorem retw4 {a b c d : Value} : RetW h0 h P [a, b, c, d] ↔ (live a = true ∧ live b = true ∧ live c = true ∧ live d = true) ∧ P (finish h0 (.tuple ⟨[a, b, c, d]⟩, h)).1 (finish h0 (.tuple ⟨[a, b, c, d]⟩, h)).2 := by simp [RetW]
/-- The same room, other things in it: nothing is dropped. -/
theorem finish_room {v : Value} {h' : Heap} (hl : h'.length = h.length) : finish h (v, h') = (v, h') := by
  unfold finish
  split
  · rename_i hc
    have : h = h' := hc.2.eq_of_length hl.symm
    rw [this]
  · rfl
theorem finish_fst {v : Value} {h' : Heap} : (finish h (v, h')).1 = v := by unfold finish; split <;> rfl
/-- What the memory may be behind a call. -/
theorem finish_cases {v : Value} {h' : Heap} (hp : h <+: h') : ∃ hh, finish h (v, h') = (v, hh) ∧ h <+: hh ∧ (hh = h' ∨ (flat v = true ∧ hh = h)) := by
  by_cases hf : flat v = true
  · exact ⟨h, finish_flat hf hp, List.prefix_refl _, .inr ⟨hf, rfl⟩⟩
  · exact ⟨h', finish_deep (by simpa using hf), hp, .inl rfl⟩
end
attribute [go_sem ↓] retq_ret retq_normal
attribute [go_sem] retw0 retw1 retw2 retw3 retw4 false_or or_true true_or or_false
attribute [go_sem_proc] reduceIte Nat.reduceEqDiff Nat.reduceAdd Nat.reduceMul Nat.reduceLT Nat.reduceLeDiff reduceCtorEq Int.reduceEq Int.reduceLT Int.reduceLE Int.reduceNeg Int.reduceToNat
attribute [go_sem] ne_eq
end Go.Proofs.YthfeahanmbmjhaaGreatDoor.Ab
