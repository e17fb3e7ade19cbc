/- A region whose order is open: one walk in the text's order serves every order. No conditions. -/
import Derived.Test.YtlndlccbecnjoaaAb17
namespace Go.Proofs.Ytlndlccbecnjoaa.Ab
set_option linter.unusedSimpArgs false
set_option linter.unusedVariables false
set_option linter.unnecessarySimpa false
open Go.RowKit
section
variable {P : Program} {N : Nat} {D : List Nat} {E L : List (Nat × Nat)} {μ0 : Map} {hb : Heap} {w0 : World} {call : FuncId → List Value → Heap → Option (Value × Heap)} {last : Bool} {h0 : Heap}

open Classical in
/-- A read or a making, taken in an open region, is what it is anywhere. -/
theorem free_go {x : MOp} {s s1 : St} (hf : x.ins.freely = true) (hw : x.want s = some true) (hp : h0 <+: s.h ∨ x.ins.looks = false) (h : x.free call last h0 s = some s1) : x.go call s = some s1 := by
  unfold MOp.free at h
  rw [hw] at h
  simp only at h
  split at h
  · exact h
  · exact h
  · exact h
  · exact h
  · exact h
  · exact h
  · rename_i f args hi
    simp only [Option.bind_eq_some_iff] at h
    obtain ⟨⟨v, h2⟩, hr, h⟩ := h
    split at h
    · cases h
      unfold MOp.go
      simp only [hi, hr, Option.map_some]
    · cases h
  · rename_i hn1 hn2 hn3 hn4 hn5 hn6 hn7
    have hex : (x.ins.reads = true ∨ x.ins.makes = true) → x.go call s = (x.ins.run s).map fun r => { s.put x.dst r.1 with h := r.2 } := by
      intro hq
      unfold MOp.go
      cases hi : x.ins <;> first | rfl | (rw [hi] at hq; rcases hq with hq | hq <;> cases hq; done) | exact absurd hi (hn7 _ _)
    split at h
    · rename_i hmk
      simp only [Option.bind_eq_some_iff] at h
      obtain ⟨⟨v, h2⟩, hr, h⟩ := h
      split at h
      · cases h
        rw [hex (.inr hmk), hr]
        rfl
      · cases h
    · split at h
      · rename_i hrd
        simp only [Option.map_eq_some_iff] at h
        obtain ⟨⟨v, h2⟩, hr, rfl⟩ := h
        rw [hex (.inl hrd), run_up hrd hp hr]
        simp only [Option.map_some, Option.some.injEq]
        cases x.dst <;> rfl
      · cases h

/-- What is not yet listed. -/
def left (n : Nat) (listed : Array Bool) : List Nat := (List.range n).filter fun j => !listed.getD j true

theorem mem_left {n : Nat} {listed : Array Bool} {j : Nat} : j ∈ left n listed ↔ j < n ∧ listed.getD j true = false := by
  simp [left]

theorem left_split {n i : Nat} {listed : Array Bool} (hi : i ∈ left n listed) : ∃ l1 l2, left n listed = l1 ++ i :: l2 ∧ (∀ y ∈ l1, y < i) ∧ left n (listed.setIfInBounds i true) = l1 ++ l2 := by
  obtain ⟨l1, l2, h⟩ := List.append_of_mem hi
  have hp : (left n listed).Pairwise (· < ·) := List.Pairwise.filter _ List.pairwise_lt_range
  rw [h, List.pairwise_append] at hp
  obtain ⟨p1, p2, p3⟩ := hp
  rw [List.pairwise_cons] at p2
  refine ⟨l1, l2, h, fun y hy => p3 y hy i List.mem_cons_self, ?_⟩
  have e : left n (listed.setIfInBounds i true) = (left n listed).filter fun j => j != i := by
    unfold left
    rw [List.filter_filter]
    apply List.filter_congr
    intro j hj
    by_cases hji : j = i
    · subst hji
      have hlt : j < listed.size ∨ listed.size ≤ j := Nat.lt_or_ge _ _
      rcases hlt with hlt | hlt
      · simp [hlt]
      · simp [Array.getElem?_eq_none hlt]
    · rw [getD_set_ne true (Ne.symm hji)]
      simp [hji]
  rw [e, h, List.filter_append, List.filter_cons]
  simp only [bne_self_eq_false, Bool.false_eq_true, if_false]
  rw [List.filter_eq_self.2 fun y hy => by simp; have := p3 y hy i List.mem_cons_self; omega, List.filter_eq_self.2 fun y hy => by simp; have := p2.1 y hy; omega]

/-- What is listed stands on what is listed. -/
def Down (ops : List Oper) (listed : Array Bool) : Prop := ∀ (j : Nat) (o : Oper), ops[j]? = some o → listed.getD j false = true → ∀ e ∈ o.after, Region.binds .any e = true → listed.getD e.on false = true

theorem anc_listed {ops : List Oper} {listed : Array Bool} (hd : Down ops listed) {a : Nat} : ∀ (n i : Nat), (∀ o, ops[i]? = some o → ∀ e ∈ o.after, Region.binds .any e = true → listed.getD e.on false = true) → anc ops n i a = true → listed.getD a false = true
  | 0, _, _, h => by cases h
  | n + 1, i, hi, h => by
    simp only [anc] at h
    split at h
    · rename_i o ho
      simp only [List.any_eq_true, Bool.and_eq_true, Bool.or_eq_true, beq_iff_eq] at h
      obtain ⟨e, he, hb, h⟩ := h
      have hl := hi o ho e (by simpa using he) hb
      rcases h with h | h
      · rw [← h]; exact hl
      · exact anc_listed hd n e.on (fun o' ho' => hd e.on o' ho' hl) h
    · cases h

theorem getD_true_false {listed : Array Bool} {j : Nat} (h : listed.getD j true = false) : listed.getD j false ≠ true := by
  rcases Nat.lt_or_ge j listed.size with h' | h'
  · simp [h'] at h ⊢; exact h
  · simp [Array.getElem?_eq_none h'] at h

theorem freeOk_spec {ops : List Oper} {ms : List MOp} (h : freeOk E ops ms = true) :
    (∀ m ∈ ms, m.ins.freely = true) ∧ (∀ (i : Nat) (o : Oper), ops[i]? = some o → ∀ e ∈ o.after, Region.binds .any e = true → e.on < i) ∧
    (∀ (i a : Nat) (x y : MOp), a < i → ms[a]? = some x → ms[i]? = some y → x.apart E y = true ∨ anc ops 12 i a = true) := by
  unfold freeOk at h
  simp only [Bool.and_eq_true, List.all_eq_true] at h
  obtain ⟨⟨⟨_, h1⟩, h2⟩, h3⟩ := h
  refine ⟨h1, fun i o ho e he hb => ?_, fun i a x y hai hx hy => ?_⟩
  · have := h2 i (List.mem_range.2 (List.getElem?_eq_some_iff.1 ho).1)
    rw [ho] at this
    simp only [List.all_eq_true, Bool.or_eq_true, Bool.not_eq_true', decide_eq_true_eq] at this
    rcases this e (by simpa using he) with h | h
    · rw [hb] at h; cases h
    · exact h
  · have := h3 i (List.mem_range.2 (List.getElem?_eq_some_iff.1 hy).1) a (List.mem_range.2 hai)
    rw [hx, hy] at this
    simpa using this

theorem lastOk_spec {ops : List Oper} {ms : List MOp} (h : lastOk ops ms = true) {i a : Nat} {x y : MOp} (hx : ms[a]? = some x) (hy : ms[i]? = some y) (hm : y.ins.makes = true) (hl : x.ins.looks = true) : anc ops 12 i a = true := by
  unfold lastOk at h
  simp only [List.all_eq_true] at h
  have := h i (List.mem_range.2 (List.getElem?_eq_some_iff.1 hy).1) a (List.mem_range.2 (List.getElem?_eq_some_iff.1 hx).1)
  rw [hx, hy] at this
  simpa [hm, hl] using this

open Classical in
/-- How the memory stands behind an operation. -/
theorem free_mem {x : MOp} {s s1 : St} (hm : x.ins.makes = true) (h : x.free call last h0 s = some s1) : s1.h = s.h ∨ last = true ∨ s.h <+: s1.h ∨ h0 <+: s1.h := by
  unfold MOp.free at h
  split at h
  · rename_i hw
    split at h
    · rename_i hi; rw [hi] at hm; cases hm
    · rename_i hi; rw [hi] at hm; cases hm
    · rename_i hi; rw [hi] at hm; cases hm
    · rename_i hi; rw [hi] at hm; cases hm
    · rename_i hi; rw [hi] at hm; cases hm
    · rename_i hi; rw [hi] at hm; cases hm
    · rename_i f args hi
      simp only [Option.bind_eq_some_iff] at h
      obtain ⟨⟨v, h2⟩, hr, h⟩ := h
      split at h
      · rename_i hp
        cases h
        exact .inr (.inr (.inl hp))
      · cases h
    · rw [if_pos hm] at h
      simp only [Option.bind_eq_some_iff] at h
      obtain ⟨⟨v, h2⟩, hr, h⟩ := h
      split at h
      · rename_i hp
        cases h
        rcases hp with hp | hp
        · exact .inr (.inl hp)
        · exact .inr (.inr (.inr hp))
      · cases h
  · cases h
    refine .inl ?_
    unfold MOp.skip
    cases x.dst <;> rfl
  · cases h

theorem ready_all {ops : Array Oper} {listed : Array Bool} (hsz : listed.size = ops.size) (hb : ∀ (i : Nat) (o : Oper), ops.toList[i]? = some o → ∀ e ∈ o.after, Region.binds .any e = true → e.on < i)
    (hr : Region.ready .any ops listed = []) : left ops.size listed = [] := by
  have key : ∀ j, j < ops.size → listed.getD j true = true := by
    intro j
    induction j using Nat.strongRecOn with
    | _ j ih =>
      intro hj
      cases hl : listed.getD j true with
      | true => rfl
      | false =>
        exfalso
        have ho : ops[j]? = some ops[j] := Array.getElem?_eq_getElem hj
        have : j ∈ Region.ready .any ops listed := mem_ready.2 ⟨hl, ops[j], ho, fun e he hbd => by
          have hlt := hb j ops[j] (by simp) e he hbd
          have := ih e.on hlt (by omega)
          have hs : e.on < listed.size := by omega
          simp [hs] at this ⊢
          exact this⟩
        rw [hr] at this
        cases this
  refine List.eq_nil_iff_forall_not_mem.2 fun j hj => ?_
  obtain ⟨h1, h2⟩ := mem_left.1 hj
  rw [key j h1] at h2
  cases h2

/-- One walk serves every order. -/
theorem any_ok {ops : Array Oper} {ms : List MOp} {s' : St} {Q : Exit → Act → World → Prop} (hS : SoundC P call) (hlen : ms.length = ops.toList.length) (hrd : ∀ (j : Nat) (o : Oper), ops.toList[j]? = some o → ∃ m, ms[j]? = some m ∧ Read1 P N D E L ops o m)
    (hfree : freeOk E ops.toList ms = true) (hlast : last = lastOk ops.toList ms) (hQ : ∀ a w, Shows N D E L μ0 hb w0 s' a w → Q .normal a w) :
    ∀ (fuel : Nat) (listed : Array Bool) (s : St) (a : Act) (w : World), listed.size = ops.size → Down ops.toList listed → (left ops.size listed).length ≤ fuel → AlE E s →
      (h0 <+: s.h ∨ ∀ j ∈ left ops.size listed, ∀ x, ms[j]? = some x → x.ins.looks = false) → runFree call last h0 ((left ops.size listed).filterMap (ms[·]?)) s = some s' → Shows N D E L μ0 hb w0 s a w → wpAny P .any ops Q fuel listed a w := by
  obtain ⟨f1, f2, f3⟩ := freeOk_spec hfree
  have hget : ∀ j, j < ops.size → ∃ o m, ops[j]? = some o ∧ ms[j]? = some m ∧ Read1 P N D E L ops o m := fun j hj => by
    have ho : ops[j]? = some ops[j] := Array.getElem?_eq_getElem hj
    obtain ⟨m, q1, q2⟩ := hrd j ops[j] (by simp)
    exact ⟨_, m, ho, q1, q2⟩
  have hgood : ∀ {j m}, ms[j]? = some m → Good N D E L m := fun {j m} hm => by
    refine ⟨f1 m (List.mem_of_getElem? hm), ?_⟩
    have hj : j < ops.size := by have := (List.getElem?_eq_some_iff.1 hm).1; simpa [hlen] using this
    obtain ⟨o, m', q1, q2, q3⟩ := hget j hj
    rw [hm] at q2
    cases q2
    rw [q3.same]
    exact q3.dst
  have done : ∀ (listed : Array Bool) (s : St) (a : Act) (w : World), listed.size = ops.size → runFree call last h0 ((left ops.size listed).filterMap (ms[·]?)) s = some s' → Shows N D E L μ0 hb w0 s a w → Region.ready .any ops listed = [] → Q .normal a w := by
    intro listed s a w hsz hr hR h0
    rw [ready_all hsz f2 h0] at hr
    simp only [List.filterMap_nil, runFree, Option.some.injEq] at hr
    subst hr
    exact hQ _ _ hR
  intro fuel
  induction fuel with
  | zero =>
    intro listed s a w hsz hdn hfu hA hp hr hR
    have hl : left ops.size listed = [] := List.eq_nil_of_length_eq_zero (by omega)
    have hrd : Region.ready .any ops listed = [] := by
      refine List.eq_nil_iff_forall_not_mem.2 fun j hj => ?_
      obtain ⟨h1, o, h2, _⟩ := mem_ready.1 hj
      have : j ∈ left ops.size listed := mem_left.2 ⟨(Array.getElem?_eq_some_iff.1 h2).1, h1⟩
      rw [hl] at this
      cases this
    exact ⟨hrd, done listed s a w hsz hr hR hrd⟩
  | succ fuel ih =>
    intro listed s a w hsz hdn hfu hA hp hr hR
    refine ⟨done listed s a w hsz hr hR, fun i hi => ?_⟩
    obtain ⟨hiun, oi, hoi, hall⟩ := mem_ready.1 hi
    have hin : i < ops.size := (Array.getElem?_eq_some_iff.1 hoi).1
    have hil : i ∈ left ops.size listed := mem_left.2 ⟨hin, hiun⟩
    obtain ⟨l1, l2, e1, e2, e3⟩ := left_split hil
    obtain ⟨o', m, q1, hm, hrm⟩ := hget i hin
    rw [hoi] at q1
    cases q1
    have hanc : ∀ j, anc ops.toList 12 i j = true → listed.getD j true ≠ false := fun j hj hf => by
      have := anc_listed hdn 12 i (fun o ho => by
        have : o = oi := by
          have h2 : ops.toList[i]? = some oi := by simpa using hoi
          rw [h2] at ho
          exact (Option.some.inj ho).symm
        subst this
        exact hall) hj
      exact getD_true_false hf this
    have hr' := hr
    rw [e1, List.filterMap_append, List.filterMap_cons, hm] at hr'
    have hgm := hgood hm
    obtain ⟨s1, k1, k2⟩ := front hgm (fun y hy => by
      obtain ⟨j, hj, hjy⟩ := List.mem_filterMap.1 hy
      refine ⟨hgood hjy, (f3 i j y m (e2 j hj) hjy hm).resolve_right fun hc => ?_⟩
      have : j ∈ left ops.size listed := by rw [e1]; exact List.mem_append_left _ hj
      exact hanc j hc (mem_left.1 this).2) hA hr'
    rw [← List.filterMap_append, ← e3] at k2
    have hsub : ∀ j, j ∈ left ops.size (listed.setIfInBounds i true) → j ∈ left ops.size listed := fun j hj => by
      rw [e3] at hj
      rw [e1]
      rcases List.mem_append.1 hj with h | h
      · exact List.mem_append_left _ h
      · exact List.mem_append_right _ (List.mem_cons_of_mem _ h)
    have hA1 := (free_frame hgm.1 hgm.2 hA k1).al
    have next : ∀ a w, Shows N D E L μ0 hb w0 s1 a w → wpAny P .any ops Q fuel (listed.setIfInBounds i true) a w := fun a w hR1 => by
      refine ih _ s1 a w (by simpa using hsz) ?_ ?_ hA1 ?_ k2 hR1
      · intro j o ho hj e he hbd
        by_cases hji : j = i
        · subst hji
          have : o = oi := by
            have h2 : ops.toList[j]? = some oi := by simpa using hoi
            rw [h2] at ho
            exact (Option.some.inj ho).symm
          subst this
          exact getD_set_true (hall e he hbd)
        · rw [getD_set_ne false (Ne.symm hji)] at hj
          exact getD_set_true (hdn j o ho hj e he hbd)
      · rw [e3]
        rw [e1] at hfu
        simp only [List.length_append, List.length_cons] at hfu ⊢
        omega
      · cases hmk : m.ins.makes with
        | false =>
          rw [(free_frame hgm.1 hgm.2 hA k1).mem hmk]
          exact hp.imp id fun h j hj => h j (hsub j hj)
        | true =>
          rcases free_mem hmk k1 with h | h | h | h
          · rw [h]
            exact hp.imp id fun h j hj => h j (hsub j hj)
          · refine .inr fun j hj x hx => ?_
            cases hlk : x.ins.looks with
            | false => rfl
            | true =>
              rw [hlast] at h
              exact absurd (mem_left.1 (hsub j hj)).2 (hanc j (lastOk_spec h hx hm hmk hlk))
          · exact hp.imp (fun g => g.trans h) fun h j hj => h j (hsub j hj)
          · exact .inl h
    obtain ⟨lam, μ, R⟩ := hR
    unfold wpOp
    simp only [hoi]
    cases hw : m.want s with
    | none => unfold MOp.free at k1; rw [hw] at k1; cases k1
    | some b =>
      rw [guard_ok R hrm.guard hw]
      cases b with
      | true =>
        rw [if_pos rfl]
        refine .inl (Oper.wp_mono (fun a w h => next a w h) (go_ok hS R hrm.ins hrm.dst hrm.same (free_go hgm.1 hw ?_ k1)))
        exact hp.imp id fun h => h i hil m hm
      | false =>
        rw [if_neg (by simp)]
        have : s1 = m.skip s := by
          unfold MOp.free at k1
          rw [hw] at k1
          exact (Option.some.inj k1).symm
        subst this
        refine next _ _ ⟨lam, μ, ?_⟩
        rw [← hrm.same]
        exact R.skip (fun d hd => dst_lt hrm.dst d (by rw [← hrm.same]; exact hd))

theorem Shows.drawn {s : St} {a : Act} {w : World} {k : Nat} (h : Shows N D E L μ0 hb w0 s a w) : Shows N D E L μ0 hb w0 s a { w with drawn := k } := by
  obtain ⟨lam, μ, R⟩ := h
  exact ⟨lam, μ, R.rt, R.hr.count k, R.to.trans (To.count _ _ _ k), R.loc, R.locs, R.al, R.alD, R.dfr⟩

theorem range_get {α : Type} : ∀ (l : List α) (m : List α), (List.range' m.length l.length).filterMap ((m ++ l)[·]?) = l
  | [], m => rfl
  | x :: l, m => by
    have ih := range_get l (m ++ [x])
    simp only [List.length_append, List.length_cons, List.length_nil, List.append_assoc, List.singleton_append] at ih
    rw [List.length_cons, List.range'_succ, List.filterMap_cons]
    simp only [List.getElem?_append_right (Nat.le_refl _), Nat.sub_self, List.getElem?_cons_zero]
    exact congrArg _ ih

/-- A region whose order is open. -/
theorem free_ok (hS : SoundC P call) : FreeOk P N D E L call := by
  intro μ0 h0 w0 id ops ms s s' a w hms hfree hmix hrun hal hR
  obtain ⟨g1, g2⟩ := compOps_get hms
  refine wp_region_any hmix (any_ok (last := lastOk ops.toList ms) (h0 := s.h) (s' := s') hS g1 (fun j o hj => ?_) hfree rfl (fun a w h => ⟨rfl, h⟩) ops.size _ s a _ (by simp) ?_ ?_ ?_ (.inl (List.prefix_refl _)) ?_ hR.drawn)
  · obtain ⟨m, q1, q2⟩ := g2 j o hj
    exact ⟨m, q1, compOp_read q2⟩
  · intro j o ho hj
    exfalso
    have hlt : j < ops.size := by have := (List.getElem?_eq_some_iff.1 ho).1; simpa using this
    simp [hlt] at hj
  · exact Nat.le_trans (List.length_filter_le _ _) (by simp)
  · intro e d off h
    rw [hal] at h
    cases h
  · have e : left ops.size (Array.replicate ops.size false) = List.range ops.size := by
      unfold left
      refine List.filter_eq_self.2 fun j hj => ?_
      have hlt := List.mem_range.1 hj
      simp [hlt]
    have e2 : (List.range ops.size).filterMap (ms[·]?) = ms := by
      have hl : ms.length = ops.size := by simpa using g1
      rw [← hl]
      have := range_get ms []
      simpa [List.range_eq_range'] using this
    rw [e, e2]
    exact hrun

end
end Go.Proofs.Ytlndlccbecnjoaa.Ab
