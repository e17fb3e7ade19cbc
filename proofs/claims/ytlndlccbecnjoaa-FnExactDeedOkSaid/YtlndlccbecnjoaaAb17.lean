/- A region whose order is open: one walk in the text's order serves every order. No conditions. -/
import Derived.Test.YtlndlccbecnjoaaAb16
namespace Go.Proofs.Ytlndlccbecnjoaa.Ab
set_option linter.unusedSimpArgs false
set_option linter.unusedVariables false
set_option linter.unnecessarySimpa false
open Go.RowKit

/-- Two states agree at a slot. -/
def AgreeAt (s q : St) (i : Nat) : Prop := q.t i = s.t i ∧ q.loc i = s.loc i ∧ q.al i = s.al i
def Agree (s q : St) (l : List Nat) : Prop := ∀ i ∈ l, AgreeAt s q i

theorem Agree.left {s q : St} {l m : List Nat} (h : Agree s q (l ++ m)) : Agree s q l := fun i hi => h i (List.mem_append_left _ hi)
theorem Agree.right {s q : St} {l m : List Nat} (h : Agree s q (l ++ m)) : Agree s q m := fun i hi => h i (List.mem_append_right _ hi)

theorem val_agree {s q : St} {x : Opd} (h : Agree s q x.slots) : q.val x = s.val x := by
  cases x with
  | c v => rfl
  | t n => exact (h n (by simp [Opd.slots])).1
theorem oval_agree {s q : St} {x : Option Opd} (h : Agree s q (oSlots x)) : x.map q.val = x.map s.val := by
  cases x with
  | none => rfl
  | some x => simp only [Option.map_some]; rw [val_agree h]
theorem vals_agree {s q : St} : ∀ {l : List Opd}, Agree s q (l.flatMap Opd.slots) → l.map q.val = l.map s.val
  | [], _ => rfl
  | x :: l, h => by
    rw [List.flatMap_cons] at h
    rw [List.map_cons, List.map_cons, val_agree h.left, vals_agree h.right]
theorem parts_agree {s q : St} : ∀ {l : List (Nat × Opd)}, Agree s q (l.flatMap fun p => p.2.slots) → (l.map fun p => (p.1, q.val p.2)) = l.map fun p => (p.1, s.val p.2)
  | [], _ => rfl
  | x :: l, h => by
    rw [List.flatMap_cons] at h
    rw [List.map_cons, List.map_cons, val_agree h.left, parts_agree h.right]
theorem places_agree {s q : St} : ∀ {l : List (Nat × Nat × Opd)}, Agree s q (l.flatMap fun p => p.2.2.slots) → (l.map fun p => (p.1, p.2.1, q.val p.2.2)) = l.map fun p => (p.1, p.2.1, s.val p.2.2)
  | [], _ => rfl
  | x :: l, h => by
    rw [List.flatMap_cons] at h
    rw [List.map_cons, List.map_cons, val_agree h.left, places_agree h.right]

/-- What a read, or what appends, gives hangs on the slots that it looks at, and the memory. -/
theorem run_agree {i : MI} {s q : St} (hi : i.reads = true ∨ (i.makes = true ∧ ∀ f l, i ≠ .call f l)) (h : Agree s q i.slots) (hh : q.h = s.h) : i.run q = i.run s := by
  cases i
  case mov x => simp only [MI.run, hh]; rw [val_agree h]
  case pick c x y => simp only [MI.slots] at h; simp only [MI.run, hh]; rw [val_agree h.left.left, val_agree h.left.right, val_agree h.right]
  case bin op x y => simp only [MI.slots] at h; simp only [MI.run, hh]; rw [val_agree h.left, val_agree h.right]
  case binB op x y => simp only [MI.slots] at h; simp only [MI.run, hh]; rw [val_agree h.left, val_agree h.right]
  case eqS ks neg x y => simp only [MI.slots] at h; simp only [MI.run, hh]; rw [val_agree h.left, val_agree h.right]
  case un op x => simp only [MI.run, hh]; rw [val_agree h]
  case conv k x => simp only [MI.run, hh]; rw [val_agree h]
  case str x => simp only [MI.run, hh]; rw [val_agree h]
  case ld n agg x => simp only [MI.run, hh]; rw [val_agree h]
  case fa off x => simp only [MI.run, hh]; rw [val_agree h]
  case ia sz x j => simp only [MI.slots] at h; simp only [MI.run, hh]; rw [val_agree h.left, val_agree h.right]
  case ix x j => simp only [MI.slots] at h; simp only [MI.run, hh]; rw [val_agree h.left, val_agree h.right]
  case fl off n agg x => simp only [MI.run, hh]; rw [val_agree h]
  case slS x lo hi => simp only [MI.slots] at h; simp only [MI.run, hh]; rw [val_agree h.left.left, oval_agree h.left.right, oval_agree h.right]
  case slL sz x lo hi => simp only [MI.slots] at h; simp only [MI.run, hh]; rw [val_agree h.left.left, oval_agree h.left.right, oval_agree h.right]
  case ln x => simp only [MI.run, hh]; rw [val_agree h]
  case lnS x => simp only [MI.run, hh]; rw [val_agree h]
  case app sz ty b x y => simp only [MI.slots] at h; simp only [MI.run, hh]; rw [val_agree h.left, val_agree h.right]
  case bld z ps => simp only [MI.slots] at h; simp only [MI.run, hh]; rw [places_agree h]
  case ext j x => simp only [MI.run, hh]; rw [val_agree h]
  case chk x => simp only [MI.run, hh]; rw [val_agree h]
  case mm m x y => simp only [MI.slots] at h; simp only [MI.run, hh]; rw [val_agree h.left, val_agree h.right]
  case fn f caps => simp only [MI.slots] at h; simp only [MI.run, hh]; rw [vals_agree h]
  case ldB n agg d => simp only [MI.slots] at h; simp only [MI.run, hh]; rw [(h d (by simp)).2.1]
  case ldE n agg d e => simp only [MI.slots] at h; simp only [MI.run, hh]; rw [(h d (by simp)).2.1, (h e (by simp)).2.2]
  case appL sz ty b n x e => simp only [MI.slots] at h; simp only [MI.run, hh]; rw [(h e (by simp)).2.1, val_agree fun j hj => h j (List.mem_cons_of_mem _ hj)]
  case strL n e => simp only [MI.slots] at h; simp only [MI.run, hh]; rw [(h e (by simp)).2.1]
  case call f l => rcases hi with hi | ⟨_, hi⟩
                   · cases hi
                   · exact absurd rfl (hi f l)
  all_goals (rcases hi with hi | ⟨hi, _⟩ <;> cases hi)

section
variable {N : Nat} {D : List Nat} {E L : List (Nat × Nat)} {call : FuncId → List Value → Heap → Option (Value × Heap)} {last : Bool} {h0 : Heap}

/-- Each alias points into the box that is its own. -/
def AlE (E : List (Nat × Nat)) (s : St) : Prop := ∀ e d off, s.al e = some (d, off) → E.lookup e = some d

theorem mem_of_lookup {l : List (Nat × Nat)} {e d : Nat} (h : l.lookup e = some d) : (e, d) ∈ l := by
  induction l with
  | nil => simp at h
  | cons p l ih =>
    obtain ⟨a, b⟩ := p
    rw [List.lookup_cons] at h
    split at h
    · rename_i he
      cases h
      have : e = a := by simpa using he
      subst this
      exact List.mem_cons_self
    · exact List.mem_cons_of_mem _ (ih h)

theorem AgreeAt.refl (s : St) (i : Nat) : AgreeAt s s i := ⟨rfl, rfl, rfl⟩
theorem AgreeAt.symm {s q : St} {i : Nat} (h : AgreeAt s q i) : AgreeAt q s i := ⟨h.1.symm, h.2.1.symm, h.2.2.symm⟩
theorem AgreeAt.trans {s q r : St} {i : Nat} (h : AgreeAt s q i) (k : AgreeAt q r i) : AgreeAt s r i := ⟨k.1.trans h.1, k.2.1.trans h.2.1, k.2.2.trans h.2.2⟩

/-- What an operation of an open region does: its own slots, and the memory where it turns it; and that by what it looks at alone. -/
structure FrameOf (E : List (Nat × Nat)) (call : FuncId → List Value → Heap → Option (Value × Heap)) (last : Bool) (h0 : Heap) (x : MOp) (s s1 : St) : Prop where
  off : ∀ i, i ∉ x.outs E → AgreeAt s s1 i
  mem : x.ins.makes = false → s1.h = s.h
  al : AlE E s1
  move : ∀ q, AlE E q → Agree s q (x.slots ++ x.outs E) → (x.ins.makes = true → q.h = s.h) →
    ∃ q1, x.free call last h0 q = some q1 ∧ (∀ i, i ∈ x.outs E → AgreeAt s1 q1 i) ∧ (∀ i, i ∉ x.outs E → AgreeAt q q1 i) ∧ (x.ins.makes = true → q1.h = s1.h) ∧ (x.ins.makes = false → q1.h = q.h)

theorem want_agree {x : MOp} {s q : St} (h : Agree s q x.slots) : x.want q = x.want s := by
  unfold MOp.want
  cases hg : x.guard with
  | none => rfl
  | some p =>
    obtain ⟨j, b⟩ := p
    have : q.t j = s.t j := (h j (by simp [MOp.slots, hg])).1
    simp only [this]

theorem slots_ins {x : MOp} {s q : St} (h : Agree s q x.slots) : Agree s q x.ins.slots := fun i hi => h i (by unfold MOp.slots; exact List.mem_append_left _ hi)

/-- An operation that lays one slot, from what it looks at. -/
theorem frame_put {x : MOp} {s : St} {d : Nat} {v : Value} {h1 : Heap} (hA : AlE E s) (hd : x.dst = some d) (ho : x.outs E = [d]) (hm : x.ins.makes = false → h1 = s.h)
    (hq : ∀ q, AlE E q → Agree s q (x.slots ++ x.outs E) → (x.ins.makes = true → q.h = s.h) → x.free call last h0 q = some { q.put (some d) v with h := if x.ins.makes = true then h1 else q.h }) :
    FrameOf E call last h0 x s { s.put (some d) v with h := h1 } := by
  refine ⟨fun i hi => ?_, fun h => hm h, hA, fun q hAq hag hh => ⟨_, hq q hAq hag hh, fun i hi => ?_, fun i hi => ?_, fun h => ?_, fun h => ?_⟩⟩
  · rw [ho] at hi
    have hne : i ≠ d := by simpa using hi
    exact ⟨by show upd s.t d v i = _; rw [upd_ne _ _ hne], rfl, rfl⟩
  · rw [ho] at hi
    have hie : i = d := by simpa using hi
    subst hie
    have := hag i (by rw [ho]; simp)
    exact ⟨by show upd q.t i v i = upd s.t i v i; rw [upd_same, upd_same], this.2.1, this.2.2⟩
  · rw [ho] at hi
    have hne : i ≠ d := by simpa using hi
    exact ⟨by show upd q.t d v i = _; rw [upd_ne _ _ hne], rfl, rfl⟩
  · simp only [h, if_true]
  · simp only [h, Bool.false_eq_true, if_false]

theorem outs_of {x : MOp} (hk : dstOk D E L N x.ins x.dst = true) {d : Nat} (hd : x.dst = some d) (hn : ∀ c, x.ins ≠ .newL c) : x.outs E = [d] := by
  unfold MOp.outs
  rw [hd] at hk ⊢
  cases hi : x.ins <;> rw [hi] at hk <;> first | exact absurd hi (hn _) | rfl | (simp [dstOk] at hk)

/-- A slot that is written is one of the operation's own. -/
theorem dst_outs {x : MOp} (hk : dstOk D E L N x.ins x.dst = true) {d : Nat} (hd : x.dst = some d) : d ∈ x.outs E := by
  by_cases hn : ∀ c, x.ins ≠ .newL c
  · rw [outs_of hk hd hn]; simp
  · simp only [Classical.not_forall, Classical.not_not] at hn
    obtain ⟨c, hc⟩ := hn
    unfold MOp.outs
    rw [hc, hd]
    simp

theorem AlE.upd {s : St} {t : Nat → Value} {loc : Nat → Option (List Value)} {h : Heap} (hA : AlE E s) {e d off : Nat} (he : E.lookup e = some d) : AlE E ⟨t, loc, upd s.al e (some (d, off)), h⟩ := by
  intro e' d' off' h'
  simp only at h'
  by_cases hee : e' = e
  · subst hee
    rw [upd_same] at h'
    cases h'
    exact he
  · rw [upd_ne _ _ hee] at h'
    exact hA _ _ _ h'

theorem AlE.unal {s : St} {t : Nat → Value} {loc : Nat → Option (List Value)} {h : Heap} (hA : AlE E s) {d : Nat} : AlE E ⟨t, loc, Ab.unal s.al d, h⟩ :=
  fun e' d' off' h' => hA _ _ _ (unal_spec h').2

theorem AlE.clear {s : St} {t : Nat → Value} {loc : Nat → Option (List Value)} {h : Heap} (hA : AlE E s) {d : Nat} : AlE E ⟨t, loc, Ab.upd s.al d none, h⟩ := by
  intro e' d' off' h'
  simp only at h'
  by_cases hee : e' = d
  · subst hee; rw [upd_same] at h'; cases h'
  · rw [upd_ne _ _ hee] at h'; exact hA _ _ _ h'

/-- An operation that writes slots alone. -/
theorem frame_slots {x : MOp} {s s1 : St} (f : St → St) (hoff : ∀ q, AlE E q → ∀ i, i ∉ x.outs E → AgreeAt q (f q) i) (hon : ∀ q, Agree s q (x.slots ++ x.outs E) → ∀ i, i ∈ x.outs E → AgreeAt (f s) (f q) i)
    (hh : ∀ q, (f q).h = q.h) (hal : ∀ q, AlE E q → AlE E (f q)) (hA : AlE E s) (h1 : s1 = f s)
    (hq : ∀ q, AlE E q → Agree s q (x.slots ++ x.outs E) → (x.ins.makes = true → q.h = s.h) → x.free call last h0 q = some (f q)) : FrameOf E call last h0 x s s1 := by
  subst h1
  exact ⟨hoff s hA, fun _ => hh s, hal s hA, fun q hAq hag hm => ⟨f q, hq q hAq hag hm, hon q hag, hoff q hAq, fun h => by rw [hh, hh, hm h], fun _ => hh q⟩⟩

theorem frame_skip {x : MOp} {s : St} (hk : dstOk D E L N x.ins x.dst = true) (hA : AlE E s) (hw : x.want s = some false) : FrameOf E call last h0 x s (x.skip s) := by
  refine frame_slots (f := x.skip) (fun q hq i hi => ?_) (fun q hag i hi => ?_) (fun q => ?_) (fun q hq => ?_) hA rfl fun q hAq hag hm => ?_
  · unfold MOp.skip
    cases hd : x.dst with
    | none => exact .refl _ _
    | some d =>
      have hne : i ≠ d := fun h => hi (h ▸ dst_outs hk hd)
      exact ⟨upd_ne _ _ hne, upd_ne _ _ hne, upd_ne _ _ hne⟩
  · have ha := hag.right i hi
    unfold MOp.skip
    cases hd : x.dst with
    | none => exact ha
    | some d =>
      by_cases hne : i = d
      · subst hne
        exact ⟨by simp [upd_same], by simp [upd_same], by simp [upd_same]⟩
      · exact ⟨by simp only [upd_ne _ _ hne]; exact ha.1, by simp only [upd_ne _ _ hne]; exact ha.2.1, by simp only [upd_ne _ _ hne]; exact ha.2.2⟩
  · unfold MOp.skip
    cases x.dst <;> rfl
  · unfold MOp.skip
    cases x.dst with
    | none => exact hq
    | some d => exact AlE.clear hq
  · unfold MOp.free
    rw [want_agree hag.left, hw]

theorem makes_ncall_outs {x : MOp} (hk : dstOk D E L N x.ins x.dst = true) {d : Nat} (hd : x.dst = some d) (hi : x.ins.reads = true ∨ x.ins.makes = true) : x.outs E = [d] :=
  outs_of hk hd fun c hc => by rw [hc] at hi; rcases hi with h | h <;> cases h

theorem agree_h {s q : St} {l : List Nat} (h : Agree s q l) (h0 : Heap) : Agree { s with h := h0 } { q with h := h0 } l := h

/-- Nothing is laid: only the memory may be turned. -/
theorem frame_none {x : MOp} {s : St} {h1 : Heap} (hA : AlE E s) (ho : x.outs E = []) (hm : x.ins.makes = false → h1 = s.h)
    (hq : ∀ q, AlE E q → Agree s q (x.slots ++ x.outs E) → (x.ins.makes = true → q.h = s.h) → x.free call last h0 q = some { q with h := if x.ins.makes = true then h1 else q.h }) :
    FrameOf E call last h0 x s { s with h := h1 } := by
  refine ⟨fun i hi => .refl _ _, fun h => hm h, hA, fun q hAq hag hh => ⟨_, hq q hAq hag hh, fun i hi => ?_, fun i hi => .refl _ _, fun h => ?_, fun h => ?_⟩⟩
  · rw [ho] at hi; cases hi
  · simp only [h, if_true]
  · simp only [h, Bool.false_eq_true, if_false]

theorem dst_none {i : MI} (h : dstOk D E L N i none = true) : (∃ n d v, i = .stB n d v) ∨ (∃ n d e v, i = .stE n d e v) ∨ (∃ n x v, i = .st n x v) ∨ (∃ f l, i = .call f l) ∨ (∃ f l, i = .callV f l) := by
  cases i <;> simp [dstOk] at h <;> simp

theorem put_h {s : St} {d : Option Nat} {v : Value} : (s.put d v).h = s.h := by cases d <;> rfl

open Classical in
/-- What an operation of an open region does. -/
theorem free_frame {x : MOp} {s s1 : St} (hf : x.ins.freely = true) (hk : dstOk D E L N x.ins x.dst = true) (hA : AlE E s) (h : x.free call last h0 s = some s1) : FrameOf E call last h0 x s s1 := by
  have h' := h
  unfold MOp.free at h
  split at h
  · rename_i hw
    have wq : ∀ {q : St}, Agree s q (x.slots ++ x.outs E) → x.want q = some true := fun hag => by rw [want_agree hag.left, hw]
    split at h
    · -- faB
      rename_i off d hi
      unfold MOp.go at h
      rw [hi] at h
      simp only at h
      split at h
      · rename_i e cs hd hl
        cases h
        have ho := outs_of hk hd (fun c hc => by rw [hi] at hc; cases hc)
        refine frame_slots (f := fun q => { q with t := upd q.t e undef, al := upd q.al e (some (d, off)) }) (fun q hq i hi' => ?_) (fun q hag i hi' => ?_) (fun q => rfl) (fun q hq => ?_) hA rfl fun q hAq hag hm => ?_
        · rw [ho] at hi'
          have hne : i ≠ e := by simpa using hi'
          exact ⟨upd_ne _ _ hne, rfl, upd_ne _ _ hne⟩
        · have ha := hag.right i hi'
          rw [ho] at hi'
          have hne : i = e := by simpa using hi'
          subst hne
          exact ⟨by simp [upd_same], ha.2.1, by simp [upd_same]⟩
        · rw [hi, hd] at hk
          simp only [dstOk, Bool.and_eq_true, beq_iff_eq] at hk
          exact hq.upd hk.1.1.1
        · have hld : q.loc d = some cs := by rw [(hag.left d (by simp [MOp.slots, hi, MI.slots])).2.1, hl]
          unfold MOp.free
          rw [wq hag]
          simp only [hi, MOp.go, hd, hld]
      · cases h
    · -- faE
      rename_i off d e hi
      unfold MOp.go at h
      rw [hi] at h
      simp only at h
      split at h
      · rename_i e' d' off' cs hd hal hl
        split at h
        · rename_i hdd
          subst hdd
          cases h
          have ho := outs_of hk hd (fun c hc => by rw [hi] at hc; cases hc)
          refine frame_slots (f := fun q => { q with t := upd q.t e' undef, al := upd q.al e' (some (d', off' + off)) }) (fun q hq i hi' => ?_) (fun q hag i hi' => ?_) (fun q => rfl) (fun q hq => ?_) hA rfl fun q hAq hag hm => ?_
          · rw [ho] at hi'
            have hne : i ≠ e' := by simpa using hi'
            exact ⟨upd_ne _ _ hne, rfl, upd_ne _ _ hne⟩
          · have ha := hag.right i hi'
            rw [ho] at hi'
            have hne : i = e' := by simpa using hi'
            subst hne
            exact ⟨by simp [upd_same], ha.2.1, by simp [upd_same]⟩
          · rw [hi, hd] at hk
            simp only [dstOk, Bool.and_eq_true, beq_iff_eq] at hk
            exact hq.upd hk.1.1.1
          · have hld : q.loc d' = some cs := by rw [(hag.left d' (by simp [MOp.slots, hi, MI.slots])).2.1, hl]
            have hle : q.al e = some (d', off') := by rw [(hag.left e (by simp [MOp.slots, hi, MI.slots])).2.2, hal]
            unfold MOp.free
            rw [wq hag]
            simp only [hi, MOp.go, hd, hld, hle, if_true]
        · cases h
      · cases h
    · -- stB
      rename_i n d y hi
      unfold MOp.go at h
      rw [hi] at h
      simp only at h
      split at h
      · rename_i cs vs hd hl hvs
        split at h
        · rename_i hcond
          cases h
          have ho : x.outs E = [d] := by unfold MOp.outs; rw [hi]
          refine frame_slots (f := fun q => { q with loc := upd q.loc d (some (putAt cs 0 vs)) }) (fun q hq i hi' => ?_) (fun q hag i hi' => ?_) (fun q => rfl) (fun q hq => hq) hA rfl fun q hAq hag hm => ?_
          · rw [ho] at hi'
            have hne : i ≠ d := by simpa using hi'
            exact ⟨rfl, upd_ne _ _ hne, rfl⟩
          · have ha := hag.right i hi'
            rw [ho] at hi'
            have hne : i = d := by simpa using hi'
            subst hne
            exact ⟨ha.1, by simp [upd_same], ha.2.2⟩
          · have hld : q.loc d = some cs := by rw [(hag.left d (by simp [MOp.slots, hi, MI.slots])).2.1, hl]
            have hv : q.val y = s.val y := val_agree fun j hj => hag.left j (by simp [MOp.slots, hi, MI.slots, hj])
            unfold MOp.free
            rw [wq hag]
            simp only [hi, MOp.go, hd, hld, hv, hvs, hcond, and_self, if_true]
        · cases h
      · cases h
    · -- stE
      rename_i n d e y hi
      unfold MOp.go at h
      rw [hi] at h
      simp only at h
      split at h
      · rename_i d' off vs cs hd hal hvs hl
        split at h
        · rename_i hcond
          have hdd := hcond.1
          subst hdd
          cases h
          have ho : x.outs E = [d'] := by unfold MOp.outs; rw [hi]
          refine frame_slots (f := fun q => { q with loc := upd q.loc d' (some (putAt cs off vs)) }) (fun q hq i hi' => ?_) (fun q hag i hi' => ?_) (fun q => rfl) (fun q hq => hq) hA rfl fun q hAq hag hm => ?_
          · rw [ho] at hi'
            have hne : i ≠ d' := by simpa using hi'
            exact ⟨rfl, upd_ne _ _ hne, rfl⟩
          · have ha := hag.right i hi'
            rw [ho] at hi'
            have hne : i = d' := by simpa using hi'
            subst hne
            exact ⟨ha.1, by simp [upd_same], ha.2.2⟩
          · have hld : q.loc d' = some cs := by rw [(hag.left d' (by simp [MOp.slots, hi, MI.slots])).2.1, hl]
            have hle : q.al e = some (d', off) := by rw [(hag.left e (by simp [MOp.slots, hi, MI.slots])).2.2, hal]
            have hv : q.val y = s.val y := val_agree fun j hj => hag.left j (by simp [MOp.slots, hi, MI.slots, hj])
            unfold MOp.free
            rw [wq hag]
            simp only [hi, MOp.go, hd, hld, hle, hv, hvs, hcond, and_self, if_true]
        · cases h
      · cases h
    · -- litL
      rename_i n sz zero parts hi
      unfold MOp.go at h
      rw [hi] at h
      simp only at h
      split at h
      · rename_i e cs hd hcs
        cases h
        have ho := outs_of hk hd (fun c hc => by rw [hi] at hc; cases hc)
        refine frame_slots (f := fun q => { q with t := upd q.t e undef, loc := upd q.loc e (some cs) }) (fun q hq i hi' => ?_) (fun q hag i hi' => ?_) (fun q => rfl) (fun q hq => hq) hA rfl fun q hAq hag hm => ?_
        · rw [ho] at hi'
          have hne : i ≠ e := by simpa using hi'
          exact ⟨upd_ne _ _ hne, upd_ne _ _ hne, rfl⟩
        · have ha := hag.right i hi'
          rw [ho] at hi'
          have hne : i = e := by simpa using hi'
          subst hne
          exact ⟨by simp [upd_same], by simp [upd_same], ha.2.2⟩
        · have hp := parts_agree (s := s) (q := q) (l := parts) fun j hj => hag.left j (by unfold MOp.slots; rw [hi]; exact List.mem_append_left _ hj)
          unfold MOp.free
          rw [wq hag]
          simp only [hi, MOp.go, hd, hp, hcs]
      · cases h
    · -- newL
      rename_i cells hi
      unfold MOp.go at h
      rw [hi] at h
      simp only at h
      split at h
      · rename_i d hd
        cases h
        have ho : x.outs E = d :: (E.filter fun p => p.2 == d).map (·.1) := by unfold MOp.outs; rw [hi, hd]
        refine frame_slots (f := fun q => { q with t := upd q.t d undef, loc := upd q.loc d (some cells), al := unal q.al d }) (fun q hq i hi' => ?_) (fun q hag i hi' => ?_) (fun q => rfl) (fun q hq => hq.unal) hA rfl fun q hAq hag hm => ?_
        · rw [ho] at hi'
          simp only [List.mem_cons, List.mem_map, List.mem_filter, not_or] at hi'
          refine ⟨upd_ne _ _ hi'.1, upd_ne _ _ hi'.1, ?_⟩
          show unal q.al d i = q.al i
          unfold unal
          split
          · rename_i d' off hal
            split
            · rename_i hdd
              subst hdd
              exact absurd ⟨(i, d'), ⟨mem_of_lookup (hq _ _ _ hal), by simp⟩, rfl⟩ hi'.2
            · exact hal.symm
          · rename_i hal
            exact hal.symm
        · have ha := hag.right i hi'
          refine ⟨?_, ?_, ?_⟩
          · show upd q.t d undef i = upd s.t d undef i
            unfold upd
            split
            · rfl
            · exact ha.1
          · show upd q.loc d (some cells) i = upd s.loc d (some cells) i
            unfold upd
            split
            · rfl
            · exact ha.2.1
          · show unal q.al d i = unal s.al d i
            unfold unal
            rw [ha.2.2]
        · unfold MOp.free
          rw [wq hag]
          simp only [hi, MOp.go, hd]
      · cases h
    · -- call
      rename_i f args hi
      simp only [Option.bind_eq_some_iff] at h
      obtain ⟨⟨v, h2⟩, hr, h⟩ := h
      split at h
      · rename_i hpre
        simp only [Option.some.injEq] at h
        subst h
        have key : ∀ q, Agree s q (x.slots ++ x.outs E) → (x.ins.makes = true → q.h = s.h) → x.free call last h0 q = some { q.put x.dst v with h := if x.ins.makes = true then h2 else q.h } := by
          intro q hag hm
          have hv : args.map q.val = args.map s.val := vals_agree fun j hj => hag.left j (by unfold MOp.slots; rw [hi]; exact List.mem_append_left _ hj)
          have hh := hm (by rw [hi]; rfl)
          unfold MOp.free
          rw [wq hag]
          simp only [hi, hv, hh, hr, Option.bind_some, MI.makes, if_true]
          exact if_pos hpre
        cases hd : x.dst with
        | some d =>
          rw [hd] at key
          exact frame_put hA hd (makes_ncall_outs hk hd (.inr (by rw [hi]; rfl))) (fun h => by rw [hi] at h; cases h) fun q _ hag hm => key q hag hm
        | none =>
          rw [hd] at key
          exact frame_none hA (by unfold MOp.outs; rw [hi, hd]) (fun h => by rw [hi] at h; cases h) fun q _ hag hm => key q hag hm
      · cases h
    · rename_i hn1 hn2 hn3 hn4 hn5 hn6 hn7
      have hex : ∀ q, x.want q = some true → x.free call last h0 q = if x.ins.makes = true then (x.ins.run q).bind fun r => if last = true ∨ h0 <+: r.2 then some { q.put x.dst r.1 with h := r.2 } else none
        else if x.ins.reads = true then (x.ins.run { q with h := h0 }).map fun r => q.put x.dst r.1 else none := by
        intro q hq
        unfold MOp.free
        rw [hq]
        cases hi : x.ins <;> first | rfl | exact absurd hi (hn1 _ _) | exact absurd hi (hn2 _ _ _) | exact absurd hi (hn3 _ _ _) | exact absurd hi (hn4 _ _ _ _) | exact absurd hi (hn5 _ _ _ _) | exact absurd hi (hn6 _) | exact absurd hi (hn7 _ _)
      split at h
      · rename_i hmk
        simp only [Option.bind_eq_some_iff] at h
        obtain ⟨⟨v, h2⟩, hr, h⟩ := h
        split at h
        · rename_i hc
          simp only [Option.some.injEq] at h
          subst h
          cases hd : x.dst with
          | none =>
            rw [hd] at hk
            rcases dst_none hk with ⟨_, _, _, hi⟩ | ⟨_, _, _, _, hi⟩ | ⟨_, _, _, hi⟩ | ⟨_, _, hi⟩ | ⟨_, _, hi⟩
            · exact absurd hi (hn3 _ _ _)
            · exact absurd hi (hn4 _ _ _ _)
            · rw [hi] at hmk; cases hmk
            · exact absurd hi (hn7 _ _)
            · rw [hi] at hmk; cases hmk
          | some d =>
            refine frame_put hA hd (makes_ncall_outs hk hd (.inr hmk)) (fun h => by rw [hmk] at h; cases h) fun q _ hag hm => ?_
            rw [hex q (wq hag), if_pos hmk, run_agree (.inr ⟨hmk, hn7⟩) (slots_ins hag.left) (hm hmk), hr]
            simp only [Option.bind_some, hmk, if_true, hd]
            rw [if_pos hc]
        · cases h
      · rename_i hmk
        split at h
        · rename_i hrd
          simp only [Option.map_eq_some_iff] at h
          obtain ⟨⟨v, h2⟩, hr, rfl⟩ := h
          have hmk' : x.ins.makes = false := by simpa using hmk
          cases hd : x.dst with
          | none =>
            rw [hd] at hk
            rcases dst_none hk with ⟨_, _, _, hi⟩ | ⟨_, _, _, _, hi⟩ | ⟨_, _, _, hi⟩ | ⟨_, _, hi⟩ | ⟨_, _, hi⟩
            · exact absurd hi (hn3 _ _ _)
            · exact absurd hi (hn4 _ _ _ _)
            · rw [hi] at hrd; cases hrd
            · exact absurd hi (hn7 _ _)
            · rw [hi] at hrd; cases hrd
          | some d =>
            refine frame_put (s := s) (h1 := s.h) hA hd (makes_ncall_outs hk hd (.inl hrd)) (fun _ => rfl) fun q _ hag hm => ?_
            rw [hex q (wq hag), if_neg hmk, if_pos hrd, run_agree (s := { s with h := h0 }) (.inl hrd) (agree_h (slots_ins hag.left) h0) rfl, hr]
            simp only [Option.map_some, hmk', hd, Bool.false_eq_true, if_false]
            rfl
        · cases h
  · rename_i hw
    cases h
    exact frame_skip hk hA hw
  · cases h


theorem ext_st {s q : St} (h : ∀ i, AgreeAt s q i) (hh : q.h = s.h) : q = s := by
  obtain ⟨t, loc, al, m⟩ := s
  obtain ⟨t', loc', al', m'⟩ := q
  simp only at hh
  subst hh
  have h1 : t' = t := funext fun i => (h i).1
  have h2 : loc' = loc := funext fun i => (h i).2.1
  have h3 : al' = al := funext fun i => (h i).2.2
  subst h1 h2 h3
  rfl

theorem apart_spec {x y : MOp} (h : x.apart E y = true) : (x.ins.makes = true → y.ins.makes = false) ∧ (∀ d, d ∈ x.outs E → d ∉ y.outs E ∧ d ∉ y.slots) ∧ (∀ d, d ∈ y.outs E → d ∉ x.slots) := by
  unfold MOp.apart at h
  simp only [Bool.and_eq_true, Bool.not_eq_true', Bool.and_eq_false_iff, List.all_eq_true, List.contains_eq_mem, decide_eq_false_iff_not] at h
  obtain ⟨⟨h1, h2⟩, h3⟩ := h
  exact ⟨fun hx => h1.resolve_left (by simp [hx]), h2, h3⟩

/-- What may be freely placed and is written well. -/
def Good (N : Nat) (D : List Nat) (E L : List (Nat × Nat)) (x : MOp) : Prop := x.ins.freely = true ∧ dstOk D E L N x.ins x.dst = true

/-- Two operations change places. -/
theorem comm {x y : MOp} {s s1 s2 : St} (gx : Good N D E L x) (gy : Good N D E L y) (hA : AlE E s) (hap : x.apart E y = true) (h1 : x.free call last h0 s = some s1) (h2 : y.free call last h0 s1 = some s2) :
    ∃ s1', y.free call last h0 s = some s1' ∧ x.free call last h0 s1' = some s2 := by
  obtain ⟨a1, a2, a3⟩ := apart_spec hap
  have fx := free_frame gx.1 gx.2 hA h1
  have fy := free_frame gy.1 gy.2 fx.al h2
  have offx : ∀ i, (i ∈ y.slots ∨ i ∈ y.outs E) → i ∉ x.outs E := fun i hi hx => by
    rcases hi with hi | hi
    · exact (a2 i hx).2 hi
    · exact (a2 i hx).1 hi
  have offy : ∀ i, (i ∈ x.slots ∨ i ∈ x.outs E) → i ∉ y.outs E := fun i hi hy => by
    rcases hi with hi | hi
    · exact a3 i hy hi
    · exact (a2 i hi).1 hy
  obtain ⟨s1', g1, g2, g3, g4, g5⟩ := fy.move s hA (fun i hi => (fx.off i (offx i (List.mem_append.1 hi))).symm) fun hm => (fx.mem (by
    cases hmx : x.ins.makes with
    | false => rfl
    | true => rw [a1 hmx] at hm; cases hm)).symm
  have fy' := free_frame gy.1 gy.2 hA g1
  obtain ⟨s2', k1, k2, k3, k4, k5⟩ := fx.move s1' fy'.al (fun i hi => fy'.off i (offy i (List.mem_append.1 hi))) fun hm => g5 (a1 hm)
  have : s2' = s2 := by
    refine ext_st (fun i => ?_) ?_
    · by_cases hx : i ∈ x.outs E
      · have := k2 i hx
        exact (fy.off i (offy i (.inr hx))).symm.trans this
      · by_cases hy : i ∈ y.outs E
        · exact (g2 i hy).trans (k3 i hx)
        · exact ((fy.off i hy).symm.trans (fx.off i hx).symm).trans ((g3 i hy).trans (k3 i hx))
    · cases hmx : x.ins.makes with
      | true => rw [k4 hmx, ← fy.mem (a1 hmx)]
      | false =>
        rw [k5 hmx]
        cases hmy : y.ins.makes with
        | true => rw [g4 hmy]
        | false => rw [g5 hmy, fy.mem hmy, fx.mem hmx]
  subst this
  exact ⟨s1', g1, k1⟩

/-- An operation steps to the front. -/
theorem front {x : MOp} (gx : Good N D E L x) {l2 : List MOp} {s' : St} : ∀ {l1 : List MOp} {s : St}, (∀ y ∈ l1, Good N D E L y ∧ y.apart E x = true) → AlE E s → runFree call last h0 (l1 ++ x :: l2) s = some s' →
    ∃ s1, x.free call last h0 s = some s1 ∧ runFree call last h0 (l1 ++ l2) s1 = some s'
  | [], s, _, _, h => by
    simp only [List.nil_append, runFree, Option.bind_eq_some_iff] at h
    exact h
  | y :: l1, s, hl, hA, h => by
    simp only [List.cons_append, runFree, Option.bind_eq_some_iff] at h
    obtain ⟨t, ht, h⟩ := h
    obtain ⟨gy, hay⟩ := hl y List.mem_cons_self
    obtain ⟨t1, h1, h2⟩ := front gx (fun z hz => hl z (List.mem_cons_of_mem _ hz)) (free_frame gy.1 gy.2 hA ht).al h
    obtain ⟨s1, k1, k2⟩ := comm gy gx hA hay ht h1
    refine ⟨s1, k1, ?_⟩
    simp only [List.cons_append, runFree, k2, Option.bind_some]
    exact h2

theorem pre_get {h0 h : Heap} (hp : h0 <+: h) {b : Nat} {blk : Blk} (hb : h0[b]? = some blk) : h[b]? = some blk := by
  obtain ⟨t, rfl⟩ := hp
  rw [List.getElem?_append_left (List.getElem?_eq_some_iff.1 hb).1]
  exact hb

theorem ldC_up {h0 h : Heap} (hp : h0 <+: h) {p : Value} {n : Nat} {cs : List Value} (hr : ldC h0 p n = some cs) : ldC h p n = some cs := by
  unfold ldC at hr ⊢
  split at hr
  · split at hr
    · rename_i blk hb
      simp only [pre_get hp hb]
      exact hr
    · cases hr
  · cases hr
theorem faV_up {h0 h : Heap} (hp : h0 <+: h) {p v : Value} {n : Nat} (hr : faV h0 p n = some v) : faV h p n = some v := by
  unfold faV at hr ⊢
  split at hr
  · split at hr
    · rename_i blk hb
      simp only [pre_get hp hb]
      exact hr
    · cases hr
  · cases hr
theorem iaV_up {h0 h : Heap} (hp : h0 <+: h) {x i v : Value} {n : Nat} (hr : iaV h0 n x i = some v) : iaV h n x i = some v := by
  unfold iaV at hr ⊢
  split at hr
  · split at hr
    · rename_i blk hb
      simp only [pre_get hp hb]
      exact hr
    · cases hr
  · cases hr
theorem slLV_up {h0 h : Heap} (hp : h0 <+: h) {x v : Value} {lo hi : Option Value} {n : Nat} (hr : slLV n x lo hi h0 = some v) : slLV n x lo hi h = some v := by
  unfold slLV at hr ⊢
  split at hr
  · exact hr
  · split at hr
    · rename_i blk hb
      simp only [pre_get hp hb]
      exact hr
    · cases hr
  · cases hr
theorem lnV_up {h0 h : Heap} (hp : h0 <+: h) {x v : Value} (hr : lnV h0 x = some v) : lnV h x = some v := by
  unfold lnV at hr ⊢
  split at hr
  · exact hr
  · split at hr
    · rename_i blk hb
      simp only [pre_get hp hb]
      exact hr
    · cases hr
  · cases hr
theorem rowC_up {h0 h : Heap} (hp : h0 <+: h) {x : Value} {n : Nat} {cs : List Value} (hr : rowC h0 n x = some cs) : rowC h n x = some cs := by
  unfold rowC at hr ⊢
  split at hr
  · exact hr
  · split at hr
    · rename_i blk hb
      simp only [pre_get hp hb]
      exact hr
    · cases hr
  · cases hr

theorem map_up {o o' : Option Value} {v : Value} {h0 h1 h : Heap} (hf : ∀ v, o = some v → o' = some v) (hr : (o.map fun v => (v, h0)) = some (v, h1)) : (o'.map fun v => (v, h)) = some (v, h) := by
  cases o with
  | none => cases hr
  | some u =>
    cases hr
    rw [hf _ rfl]
    rfl

theorem val_h {s : St} {h : Heap} (x : Opd) : St.val { s with h := h } x = s.val x := by cases x <;> rfl
theorem ovals_h {s : St} {h : Heap} (x : Option Opd) : x.map (St.val { s with h := h }) = x.map s.val := by cases x <;> simp [val_h]
theorem vals_h {s : St} {h : Heap} (l : List Opd) : l.map (St.val { s with h := h }) = l.map s.val := List.map_congr_left fun x _ => val_h x
theorem places_h {s : St} {h : Heap} (l : List (Nat × Nat × Opd)) : (l.map fun p => (p.1, p.2.1, St.val { s with h := h } p.2.2)) = l.map fun p => (p.1, p.2.1, s.val p.2.2) := List.map_congr_left fun x _ => by rw [val_h]

/-- What does not look into the memory. -/
theorem run_blind {i : MI} {s : St} (hi : i.reads = true) (hl : i.looks = false) (h : Heap) : i.run { s with h := h } = ((i.run { s with h := [] }).map Prod.fst).map fun v => (v, h) := by
  cases i
  case ldB n agg d => simp only [MI.run]; split <;> (try split) <;> simp [Option.map_map, Function.comp_def]
  case ldE n agg d e => simp only [MI.run]; split <;> (try split) <;> simp [Option.map_map, Function.comp_def]
  case strL n e => simp only [MI.run]; split <;> (try split) <;> simp [Option.map_map, Function.comp_def]
  case fl off n agg x => simp only [MI.run, val_h]; split <;> (try split) <;> simp [Option.map_map, Function.comp_def]
  case fn f caps => simp only [MI.run, vals_h]; split <;> simp
  case bld z ps => simp only [MI.run, places_h]; simp [Option.map_map, Function.comp_def]
  case eqS ks neg x y => simp only [MI.run, val_h]; split <;> simp [Option.map_map, Function.comp_def]
  case pick c x y => simp only [MI.run, val_h]; split <;> simp
  case conv k x => simp only [MI.run, val_h]; split <;> simp
  case lnS x => simp only [MI.run, val_h]; split <;> simp
  case ext j x => simp only [MI.run, val_h]; split <;> simp [Option.map_map, Function.comp_def]
  case mm m x y => simp only [MI.run, val_h]; split <;> simp
  case mov x => simp only [MI.run, val_h]; simp
  case bin op x y => simp only [MI.run, val_h]; simp [Option.map_map, Function.comp_def]
  case binB op x y => simp only [MI.run, val_h]; simp [Option.map_map, Function.comp_def]
  case un op x => simp only [MI.run, val_h]; simp [Option.map_map, Function.comp_def]
  case ix x j => simp only [MI.run, val_h]; simp [Option.map_map, Function.comp_def]
  case slS x lo hi => simp only [MI.run, val_h, ovals_h]; simp [Option.map_map, Function.comp_def]
  all_goals first | (cases hl; done) | (cases hi; done)

/-- A read of the earlier memory is one of the later. -/
theorem run_up {i : MI} {s : St} {v : Value} {h1 : Heap} (hi : i.reads = true) (hp : h0 <+: s.h ∨ i.looks = false) (hr : i.run { s with h := h0 } = some (v, h1)) : i.run s = some (v, s.h) := by
  rcases hp with hp | hp
  · by_cases hlk : i.looks = false
    · rw [run_blind hi hlk] at hr
      have := run_blind (s := s) hi hlk s.h
      rw [show i.run s = i.run { s with h := s.h } from rfl, this]
      exact map_up (fun _ h => h) hr
    · cases i
      case str x => 
        simp only [MI.run, val_h] at hr ⊢
        refine map_up (fun u h2 => ?_) hr
        unfold strV at h2 ⊢
        split at h2
        · rename_i cs hc
          rw [rowC_up hp hc]
          exact h2
        · cases h2
      case ld n agg x =>
        simp only [MI.run, val_h] at hr ⊢
        refine map_up (fun u h2 => ?_) hr
        simp only [Option.bind_eq_some_iff] at h2 ⊢
        obtain ⟨cs, h2, h3⟩ := h2
        exact ⟨cs, ldC_up hp h2, h3⟩
      case fa n x => simp only [MI.run, val_h] at hr ⊢; exact map_up (fun u h2 => faV_up hp h2) hr
      case ia n x j => simp only [MI.run, val_h] at hr ⊢; exact map_up (fun u h2 => iaV_up hp h2) hr
      case slL n x lo hi => simp only [MI.run, val_h, ovals_h] at hr ⊢; exact map_up (fun u h2 => slLV_up hp h2) hr
      case ln x => simp only [MI.run, val_h] at hr ⊢; exact map_up (fun u h2 => lnV_up hp h2) hr
      case chk x =>
        simp only [MI.run, val_h] at hr ⊢
        cases hc : ldC h0 (s.val x) 0 with
        | none => rw [hc] at hr; cases hr
        | some cs =>
          rw [hc] at hr
          cases hr
          rw [ldC_up hp hc]
          rfl
      all_goals exact absurd rfl hlk
  · rw [run_blind hi hp] at hr
    have := run_blind (s := s) hi hp s.h
    rw [show i.run s = i.run { s with h := s.h } from rfl, this]
    exact map_up (fun _ h => h) hr

end
end Go.Proofs.Ytlndlccbecnjoaa.Ab
