/- Lists of lists of one's own. No conditions. -/
import Derived.Test.YtioogligololoaaP0
set_option linter.unusedSimpArgs false
set_option linter.unusedVariables false
set_option linter.unnecessarySimpa false
set_option maxHeartbeats 4000000
namespace Go.Proofs.Ytioogligololoaa.Ab
open Go.RowKit

abbrev nilV : Value := .slice none 0 0
/-- The place of a slice's block, and the one behind it. -/
def tlo : Value → Nat
  | .slice (some a) _ _ => a.block
  | _ => 0
def thi : Value → Nat
  | .slice (some a) _ _ => a.block + 1
  | _ => 0
/-- Two slices have different blocks. -/
def Sep (v w : Value) : Prop := thi v ≤ tlo w ∨ thi w ≤ tlo v
theorem Sep.symm {v w : Value} (h : Sep v w) : Sep w v := Or.symm h
theorem sep_nil {v : Value} : Sep v nilV := .inr (Nat.zero_le _)

section
variable {h h' : Heap} {lo hi lo' hi' sz sz' : Nat} {ty ty' : TypeId} {v w : Value} {rws rws' : List (List Value)}
theorem Own.tight (o : Own h lo hi sz ty v rws) : Own h (tlo v) (thi v) sz ty v rws := by
  refine ⟨o.len, ?_⟩
  rcases o.is with hn | ⟨b, _, _, rfl, h2⟩
  · exact .inl hn
  · exact .inr ⟨b, Nat.le_refl _, Nat.lt_succ_self _, rfl, h2⟩
theorem Own.within (o : Own h lo hi sz ty v rws) : v = nilV ∨ (lo ≤ tlo v ∧ thi v ≤ hi ∧ tlo v < thi v) := by
  rcases o.is with ⟨rfl, _⟩ | ⟨b, _, _, rfl, h2⟩
  · exact .inl rfl
  · exact .inr ⟨by assumption, by assumption, Nat.lt_succ_self _⟩
theorem Own.sep (o : Own h lo hi sz ty v rws) (q : Own h' lo' hi' sz' ty' w rws') (hd : hi ≤ lo' ∨ hi' ≤ lo) : Sep v w := by
  rcases o.within with rfl | ⟨h1, h2, _⟩
  · exact sep_nil.symm
  rcases q.within with rfl | ⟨h3, h4, _⟩
  · exact sep_nil
  unfold Sep
  omega
theorem Own.loose {h2 : Heap} {rr : List (List Value)} (o : Own h lo hi sz ty v rws) (q : Own h2 (tlo v) (thi v) sz ty v rr) : Own h2 lo hi sz ty v rr := by
  refine ⟨q.len, ?_⟩
  rcases q.is with hn | ⟨b, l1, l2, e, h3⟩
  · exact .inl hn
  · rcases o.within with e2 | ⟨k1, k2, _⟩
    · rw [e2] at e; cases e
    · exact .inr ⟨b, by omega, by omega, e, h3⟩
theorem Own.wider (o : Own h lo hi sz ty v rws) {g g' : Heap} (s : Same (tlo v) (thi v) g g') : Same lo hi g g' := by
  rcases o.within with rfl | ⟨k1, k2, _⟩
  · exact ⟨s.len, fun b _ => s.blk b (.inr (Nat.zero_le _))⟩
  · exact s.wide k1 k2
/-- What is written elsewhere does not turn it. -/
theorem Own.apart (o : Own h lo hi sz ty v rws) {w : Value} (a : Same (tlo w) (thi w) h h') (hs : Sep v w) : Own h' lo hi sz ty v rws := by
  have t := o.tight.same a hs
  rcases o.within with rfl | ⟨h1, h2, _⟩
  · refine ⟨o.len, .inl ⟨rfl, ?_⟩⟩
    rcases o.is with ⟨_, e⟩ | ⟨b, _, _, e, _⟩
    · exact e
    · cases e
  · exact t.wide h1 h2
end

/-- What is appended turns no other block. -/
theorem push_is {h : Heap} {lo hi sz : Nat} {ty : TypeId} {v : Value} {rws : List (List Value)} (o : Own h lo hi sz ty v rws) (hlo : lo ≤ h.length) (new : List (List Value)) (hn : ∀ r ∈ new, r.length = sz) (h1 : new ≠ []) (hl : rws.length + new.length ≤ lim) :
    ∃ v' h', appLW h sz ty new.length v (some new.flatten) = some (v', h') ∧ h.length ≤ h'.length ∧ (∀ b, b < h.length → (b < tlo v ∨ thi v ≤ b) → h'[b]? = h[b]?) ∧
      ((v = nilV ∧ tlo v' = h.length ∧ thi v' = h.length + 1 ∧ h'.length = h.length + 1) ∨ (v ≠ nilV ∧ h'.length = h.length ∧ tlo v' = tlo v ∧ thi v' = thi v)) ∧ Own h' (tlo v') (thi v') sz ty v' (rws ++ new) := by
  have hf := flatten_len hn
  have h0 : ¬ new.length = 0 := fun e => h1 (List.length_eq_zero_iff.1 e)
  have hall : ∀ r ∈ rws ++ new, r.length = sz := fun r hr => by
    rcases List.mem_append.1 hr with hr | hr
    · exact o.len r hr
    · exact hn r hr
  rcases o.is with ⟨rfl, rfl⟩ | ⟨b, l1, l2, rfl, h2⟩
  · refine ⟨.slice (some ⟨h.length, 0, none⟩) new.length new.length, h ++ [⟨new.flatten, sz, ty, true⟩], ?_, by simp, fun b hb _ => ?_, .inl ⟨rfl, rfl, rfl, by simp⟩, hall, .inr ⟨h.length, Nat.le_refl _, Nat.lt_succ_self _, rfl, by simp⟩⟩
    · simp only [appLW, appV]
      rw [if_pos hf, if_neg h0, if_pos (by simpa using hl)]
    · rw [List.getElem?_append_left hb]
  · have hb := lt_of_get h2
    have hr := flatten_len o.len
    refine ⟨.slice (some ⟨b, 0, none⟩) (rws ++ new).length (rws ++ new).length, h.set b ⟨(rws ++ new).flatten, sz, ty, true⟩, ?_, by simp, fun b' _ hb' => ?_, .inr ⟨(fun e => by cases e), by simp, rfl, rfl⟩, hall, .inr ⟨b, Nat.le_refl _, Nat.lt_succ_self _, rfl, by rw [List.getElem?_set_self hb]⟩⟩
    · simp only [appLW, appV, h2, List.length_append]
      rw [if_pos hf, if_pos (by rw [hr]; omega), if_neg h0, if_pos ⟨trivial, trivial, trivial, trivial, trivial, hl⟩]
      rw [List.flatten_append]
    · have : b' ≠ b := by simp only [tlo, thi] at hb'; omega
      rw [List.getElem?_set_ne (Ne.symm this)]
/-- A list that is there grows in its place. -/
theorem Own.grow {h : Heap} {lo hi sz : Nat} {ty : TypeId} {v : Value} {rws : List (List Value)} (o : Own h lo hi sz ty v rws) (hv : v ≠ nilV) (new : List (List Value)) (hn : ∀ r ∈ new, r.length = sz) (h1 : new ≠ []) (hl : rws.length + new.length ≤ lim) :
    ∃ v' h', appLW h sz ty new.length v (some new.flatten) = some (v', h') ∧ v' ≠ nilV ∧ Same lo hi h h' ∧ Own h' lo hi sz ty v' (rws ++ new) := by
  have hlo : lo ≤ h.length := by
    rcases o.is with ⟨rfl, _⟩ | ⟨b, l1, l2, rfl, h2⟩
    · exact absurd rfl hv
    · have := lt_of_get h2; omega
  obtain ⟨v', h', e, g, b, c, o'⟩ := push_is o hlo new hn h1 hl
  rcases c with ⟨c, _⟩ | ⟨_, c1, c2, c3⟩
  · exact absurd c hv
  · rcases o.within with w | ⟨w1, w2, w3⟩
    · exact absurd w hv
    refine ⟨v', h', e, ?_, ⟨c1, fun b' hb' => ?_⟩, by rw [c2, c3] at o'; exact o'.wide w1 w2⟩
    · rintro rfl
      have : tlo v = thi v := c2.symm.trans (show tlo nilV = thi v from c3)
      omega
    · by_cases hlt : b' < h.length
      · exact b b' hlt (by omega)
      · rw [List.getElem?_eq_none (by omega), List.getElem?_eq_none (by omega)]
theorem Own.grow1 {h : Heap} {lo hi sz : Nat} {ty : TypeId} {v : Value} {rws : List (List Value)} (o : Own h lo hi sz ty v rws) (hv : v ≠ nilV) (cs : List Value) (hc : cs.length = sz) (hl : rws.length < lim) :
    ∃ v' h', appLW h sz ty 1 v (some cs) = some (v', h') ∧ v' ≠ nilV ∧ Same lo hi h h' ∧ Own h' lo hi sz ty v' (rws ++ [cs]) := by
  obtain ⟨v', hh', h1, h2⟩ := o.grow hv [cs] (fun r hr => by rw [List.mem_singleton.1 hr]; exact hc) (by simp) (by simp; omega)
  rw [List.flatten_cons, List.flatten_nil, List.append_nil] at h1
  exact ⟨v', hh', h1, h2⟩
theorem Own.growA {h : Heap} {lo hi sz : Nat} {ty : TypeId} {v x : Value} {rws new : List (List Value)} (o : Own h lo hi sz ty v rws) (hv : v ≠ nilV) (hx : Rows h sz x new) (hl : rws.length + new.length ≤ lim) :
    ∃ v' h', appW h sz ty v x = some (v', h') ∧ v' ≠ nilV ∧ Same lo hi h h' ∧ Own h' lo hi sz ty v' (rws ++ new) := by
  have hx' := hx.row
  have e : ∃ a n c, x = .slice a n c ∧ n = new.length := by
    rcases hx.is with ⟨rfl, rfl⟩ | ⟨b, off, cap, blk, rfl, _⟩
    · exact ⟨_, _, _, rfl, rfl⟩
    · exact ⟨_, _, _, rfl, rfl⟩
  obtain ⟨a, n, c, rfl, rfl⟩ := e
  by_cases h1 : new = []
  · subst h1
    refine ⟨v, h, ?_, hv, Same.refl, by rw [List.append_nil]; exact o⟩
    simp only [appW, hx', Option.bind_some, appV]
    rcases o.is with ⟨rfl, rfl⟩ | ⟨b, l1, l2, rfl, h2⟩
    · simp
    · simp only [h2]
      rw [if_pos (by simp [flatten_len o.len])]
      simp
  · obtain ⟨v', h', h2, h3⟩ := o.grow hv new hx.len h1 hl
    refine ⟨v', h', ?_, h3⟩
    simp only [appW, hx', Option.bind_some]
    simp only [appLW] at h2
    rw [if_pos (flatten_len hx.len)] at h2
    exact h2

/-- A list of lists is shown. -/
def RowsLL (h : Heap) (v : Value) (ll : List (List Int)) : Prop := ∃ vs : List Value, vs.length = ll.length ∧ Rows h 1 v (vs.map fun x => [x]) ∧ ∀ i, i < ll.length → Rows h 1 (vs.getD i nilV) (ints (ll.getD i []))
/-- .. of one's own. -/
structure OwnLLs (h : Heap) (lo hi : Nat) (tyO tyI : TypeId) (v : Value) (ll : List (List Int)) (vs : List Value) : Prop where
  len : vs.length = ll.length
  out : Own h lo hi 1 tyO v (vs.map fun x => [x])
  ins : ∀ i, i < ll.length → Own h lo hi 1 tyI (vs.getD i nilV) (ints (ll.getD i []))
  so : ∀ i, i < ll.length → Sep v (vs.getD i nilV)
  si : ∀ i j, i < j → j < ll.length → Sep (vs.getD i nilV) (vs.getD j nilV)
def OwnLL (h : Heap) (lo hi : Nat) (tyO tyI : TypeId) (v : Value) (ll : List (List Int)) : Prop := ∃ vs, OwnLLs h lo hi tyO tyI v ll vs

section
variable {h h' h0 : Heap} {lo hi lo' hi' : Nat} {tyO tyI : TypeId} {v w : Value} {ll : List (List Int)} {l : List Int}
theorem OwnLL.rows (o : OwnLL h lo hi tyO tyI v ll) : RowsLL h v ll := by
  obtain ⟨vs, h1, h2, h3, _, _⟩ := o
  exact ⟨vs, h1, h2.rows, fun i hi => (h3 i hi).rows⟩
theorem OwnLL.up (o : OwnLL h lo hi tyO tyI v ll) (hp : h <+: h') : OwnLL h' lo hi tyO tyI v ll := by
  obtain ⟨vs, h1, h2, h3, h4, h5⟩ := o
  exact ⟨vs, h1, h2.up hp, fun i hi => (h3 i hi).up hp, h4, h5⟩
theorem OwnLL.wide (o : OwnLL h lo hi tyO tyI v ll) (k1 : lo' ≤ lo) (k2 : hi ≤ hi') : OwnLL h lo' hi' tyO tyI v ll := by
  obtain ⟨vs, h1, h2, h3, h4, h5⟩ := o
  exact ⟨vs, h1, h2.wide k1 k2, fun i hi => (h3 i hi).wide k1 k2, h4, h5⟩
theorem OwnLL.same (o : OwnLL h lo hi tyO tyI v ll) (a : Same lo' hi' h h') (hd : hi ≤ lo' ∨ hi' ≤ lo) : OwnLL h' lo hi tyO tyI v ll := by
  obtain ⟨vs, h1, h2, h3, h4, h5⟩ := o
  exact ⟨vs, h1, h2.same a hd, fun i hi => (h3 i hi).same a hd, h4, h5⟩
theorem OwnLL.nil : OwnLL h lo hi tyO tyI nilV [] := ⟨[], rfl, Own.nil, fun i hi => (by simp at hi), fun i hi => (by simp at hi), fun i j _ hi => (by simp at hi)⟩
theorem OwnLL.zero (o : Own h lo hi 1 tyO v []) : OwnLL h lo hi tyO tyI v [] := ⟨[], rfl, o, fun i hi => (by simp at hi), fun i hi => (by simp at hi), fun i j _ hi => (by simp at hi)⟩
theorem OwnLL.live (o : OwnLL h lo hi tyO tyI v ll) : live v = true := by
  obtain ⟨vs, h1, h2, _, _, _⟩ := o
  exact h2.live
theorem OwnLL.fin (hp : h <+: h') (o : OwnLL h' h.length h'.length tyO tyI v ll) : h <+: (finish h (v, h')).2 ∧ OwnLL (finish h (v, h')).2 h.length (finish h (v, h')).2.length tyO tyI (finish h (v, h')).1 ll := by
  obtain ⟨h3, e, p3, hc⟩ := finish_cases (v := v) hp
  rw [e]
  rcases hc with rfl | ⟨hf, rfl⟩
  · exact ⟨hp, o⟩
  · refine ⟨p3, ?_⟩
    obtain ⟨vs, h1, h2, h4, h5, h6⟩ := o
    rcases h2.is with ⟨rfl, e2⟩ | ⟨b, _, _, rfl, _⟩
    · have : ll = [] := by
        have : vs = [] := by simpa using e2
        subst this
        exact List.length_eq_zero_iff.1 h1.symm
      subst this
      exact OwnLL.nil
    · cases hf
theorem RowsLL.up (o : RowsLL h v ll) (hp : h <+: h') : RowsLL h' v ll := by
  obtain ⟨vs, h1, h2, h3⟩ := o
  exact ⟨vs, h1, h2.up hp, fun i hi => (h3 i hi).up hp⟩
theorem RowsLL.ln (o : RowsLL h v ll) : lnV h v = some (.int .i64 ll.length) := by
  obtain ⟨vs, h1, h2, h3⟩ := o
  rw [h2.ln, List.length_map, h1]
theorem RowsLL.el (o : RowsLL h v ll) {i : Nat} (hi : i < ll.length) : ∃ x, iaV h 1 v (.int .i64 (i : Int)) = some (elemP v 1 i 0) ∧ ldC h (elemP v 1 i 0) 1 = some [x] ∧ Rows h 1 x (ints (ll.getD i [])) := by
  obtain ⟨vs, h1, h2, h3⟩ := o
  have e := h2.el (f := fun x => [x]) nilV (i := i) (by omega)
  exact ⟨vs.getD i nilV, e.1, e.2.2, h3 i hi⟩

/-- A list of one's own is appended. -/
theorem OwnLLs.pushG {lo2 hi2 : Nat} {vs : List Value} (o : OwnLLs h lo hi tyO tyI v ll vs) (hlo : lo ≤ h.length) (hhi : hi ≤ h.length) (q : Own h lo2 hi2 1 tyI w (ints l)) (hwsepv : Sep v w) (hws : ∀ i, i < ll.length → Sep (vs.getD i nilV) w) (hd2 : hi2 ≤ h.length) (hl : ll.length < lim) :
    ∃ v' h', appLW h 1 tyO 1 v (some [w]) = some (v', h') ∧ h.length ≤ h'.length ∧ (∀ b, b < h.length → (b < tlo v ∨ thi v ≤ b) → h'[b]? = h[b]?) ∧ (v ≠ nilV → h'.length = h.length ∧ tlo v' = tlo v ∧ thi v' = thi v) ∧
      (v' ≠ nilV ∧ (v = nilV → tlo v' = h.length)) ∧ OwnLLs h' (min lo lo2) h'.length tyO tyI v' (ll ++ [l]) (vs ++ [w]) := by
  obtain ⟨h1, h2, h3, h4, h5⟩ := o
  obtain ⟨v', h', e, g, b, c, o'⟩ := push_is h2 hlo [[w]] (fun r hr => by rw [List.mem_singleton.1 hr]; rfl) (by simp) (by simp; omega)
  simp only [List.flatten_cons, List.flatten_nil, List.append_nil, List.length_cons, List.length_nil, Nat.zero_add] at e
  have same : ∀ {x : Value} {rr : List (List Value)} {p r : Nat}, Own h p r 1 tyI x rr → r ≤ h.length → Sep v x → Own h' p r 1 tyI x rr := by
    intro x rr p r ox hr hs
    refine ⟨ox.len, ?_⟩
    rcases ox.is with hn | ⟨c, l1, l2, rfl, hc⟩
    · exact .inl hn
    · exact .inr ⟨c, l1, l2, rfl, by rw [b c (by omega) (by simp only [Sep, tlo, thi] at hs ⊢; omega)]; exact hc⟩
  have hv'sep : ∀ {x : Value}, Sep v x → (x = nilV ∨ thi x ≤ h.length) → Sep v' x := by
    intro x hs hx
    rcases c with ⟨rfl, c1, c2, c3⟩ | ⟨_, _, c2, c3⟩
    · rcases hx with rfl | hx
      · exact sep_nil
      · exact .inr (by omega)
    · unfold Sep at hs ⊢; omega
  have hwin : w = nilV ∨ thi w ≤ h.length := by
    rcases q.within with h | ⟨_, h, _⟩
    · exact .inl h
    · exact .inr (by omega)
  have hlv : lo ≤ tlo v' := by
    rcases c with ⟨_, c1, _⟩ | ⟨hv, _, c2, _⟩
    · omega
    · rcases h2.within with k | k
      · exact absurd k hv
      · omega
  have hnz : thi v' ≤ h'.length ∧ tlo v' < thi v' := by
    rcases c with ⟨_, c1, c2, c3⟩ | ⟨hv, c1, c2, c3⟩
    · omega
    · rcases h2.within with k | k
      · exact absurd k hv
      · omega
  refine ⟨v', h', e, g, b, fun hv => ?_, ⟨?_, fun hv => ?_⟩, ⟨by simp [h1], ?_, fun i hi' => ?_, fun i hi' => ?_, fun i j hij hj => ?_⟩⟩
  · rcases c with ⟨k, _⟩ | ⟨_, k⟩
    · exact absurd k hv
    · exact k
  · rintro rfl
    have : tlo nilV < thi nilV := hnz.2
    exact absurd this (Nat.lt_irrefl 0)
  · rcases c with ⟨_, k, _⟩ | ⟨k, _⟩
    · exact k
    · exact absurd hv k
  · rw [List.map_append]
    exact o'.wide (by omega) hnz.1
  · by_cases hil : i < ll.length
    · have e1 : (vs ++ [w]).getD i nilV = vs.getD i nilV := by simp [List.getElem?_append_left (show i < vs.length by omega)]
      have e2 : (ll ++ [l]).getD i [] = ll.getD i [] := by simp [List.getElem?_append_left hil]
      rw [e1, e2]
      exact (same (h3 i hil) hhi (h4 i hil)).wide (by omega) (by omega)
    · have hil : i = ll.length := by simp at hi'; omega
      subst hil
      have e1 : (vs ++ [w]).getD ll.length nilV = w := by rw [← h1]; simp
      have e2 : (ll ++ [l]).getD ll.length [] = l := by simp
      rw [e1, e2]
      exact (same q hd2 hwsepv).wide (by omega) (by omega)
  · by_cases hil : i < ll.length
    · have e1 : (vs ++ [w]).getD i nilV = vs.getD i nilV := by simp [List.getElem?_append_left (show i < vs.length by omega)]
      rw [e1]
      refine hv'sep (h4 i hil) ?_
      rcases (h3 i hil).within with h | ⟨_, h, _⟩
      · exact .inl h
      · exact .inr (by omega)
    · have hil : i = ll.length := by simp at hi'; omega
      subst hil
      have e1 : (vs ++ [w]).getD ll.length nilV = w := by rw [← h1]; simp
      rw [e1]
      exact hv'sep hwsepv hwin
  · have hil : i < ll.length := by simp at hj; omega
    have e1 : (vs ++ [w]).getD i nilV = vs.getD i nilV := by simp [List.getElem?_append_left (show i < vs.length by omega)]
    rw [e1]
    by_cases hjl : j < ll.length
    · have e2 : (vs ++ [w]).getD j nilV = vs.getD j nilV := by simp [List.getElem?_append_left (show j < vs.length by omega)]
      rw [e2]
      exact h5 i j hij hjl
    · have hjl : j = ll.length := by simp at hj; omega
      subst hjl
      have e2 : (vs ++ [w]).getD ll.length nilV = w := by rw [← h1]; simp
      rw [e2]
      exact hws i hil
theorem OwnLLs.push {lo2 hi2 : Nat} {vs : List Value} (o : OwnLLs h lo hi tyO tyI v ll vs) (hlo : lo ≤ h.length) (hhi : hi ≤ h.length) (q : Own h lo2 hi2 1 tyI w (ints l)) (hd : hi ≤ lo2) (hd2 : hi2 ≤ h.length) (hl : ll.length < lim) :
    ∃ v' h', appLW h 1 tyO 1 v (some [w]) = some (v', h') ∧ h.length ≤ h'.length ∧ (∀ b, b < h.length → (b < tlo v ∨ thi v ≤ b) → h'[b]? = h[b]?) ∧ (v ≠ nilV → h'.length = h.length ∧ tlo v' = tlo v ∧ thi v' = thi v) ∧
      (v' ≠ nilV ∧ (v = nilV → tlo v' = h.length)) ∧ OwnLLs h' (min lo lo2) h'.length tyO tyI v' (ll ++ [l]) (vs ++ [w]) :=
  o.pushG hlo hhi q (o.out.sep q (.inl hd)) (fun i hi => (o.ins i hi).sep q (.inl hd)) hd2 hl
theorem OwnLL.push (o : OwnLL h0 lo hi tyO tyI v ll) (hlo : lo ≤ h0.length) (hhi : hi ≤ h0.length) (hp : h0 <+: h) (q : Own h h0.length h.length 1 tyI w (ints l)) (hl : ll.length < lim) :
    ∃ v' h', appLW h 1 tyO 1 v (some [w]) = some (v', h') ∧ h.length ≤ h'.length ∧ (∀ b, b < lo → h'[b]? = h[b]?) ∧ OwnLL h' lo h'.length tyO tyI v' (ll ++ [l]) := by
  obtain ⟨vs, o⟩ := o
  have hlen := pre_len hp
  obtain ⟨v', h', e, g, b, c, _, o'⟩ := (show OwnLLs h lo hi tyO tyI v ll vs from ⟨o.len, o.out.up hp, fun i hi => (o.ins i hi).up hp, o.so, o.si⟩).push (by omega) (by omega) q hhi (Nat.le_refl _) hl
  refine ⟨v', h', e, g, fun x hx => ?_, vs ++ [w], by rw [Nat.min_eq_left hlo] at o'; exact o'⟩
  refine b x (by omega) ?_
  rcases o.out.within with rfl | ⟨k1, k2, _⟩
  · exact .inr (Nat.zero_le _)
  · exact .inl (by omega)
/-- Another list grows, or is written. -/
theorem OwnLLs.apart {vs : List Value} (o : OwnLLs h lo hi tyO tyI v ll vs) (a : Same (tlo w) (thi w) h h') (h1 : Sep v w) (h2 : ∀ i, i < ll.length → Sep (vs.getD i nilV) w) : OwnLLs h' lo hi tyO tyI v ll vs :=
  ⟨o.len, o.out.apart a h1, fun i hi => (o.ins i hi).apart a (h2 i hi), o.so, o.si⟩
end

/-- Marks in a list of lists. -/
def mkLL (k : Nat) : List (List Int) → List (List Int)
  | [] => []
  | l :: ll => ((List.range l.length).map fun i => ((k + i : Nat) : Int)) :: mkLL (k + l.length) ll
def totLL : List (List Int) → Nat
  | [] => 0
  | l :: ll => l.length + totLL ll
theorem mkLL_len : ∀ {k : Nat} {ll : List (List Int)}, (mkLL k ll).length = ll.length
  | _, [] => rfl
  | k, l :: ll => by simp [mkLL, mkLL_len (ll := ll)]
theorem totLL_take : ∀ {ll : List (List Int)} {i : Nat}, i < ll.length → totLL (ll.take (i + 1)) = totLL (ll.take i) + (ll.getD i []).length
  | [], _, h => by simp at h
  | l :: ll, 0, _ => by simp [totLL]
  | l :: ll, i + 1, h => by
    have := totLL_take (ll := ll) (i := i) (by simpa using h)
    simp only [List.take_succ_cons, totLL, List.getD_cons_succ]
    omega
theorem mkLL_get : ∀ {ll : List (List Int)} {k i : Nat}, i < ll.length → (mkLL k ll).getD i [] = (List.range (ll.getD i []).length).map fun j => ((k + totLL (ll.take i) + j : Nat) : Int)
  | [], _, _, h => by simp at h
  | l :: ll, k, 0, _ => by simp [mkLL, totLL]
  | l :: ll, k, i + 1, h => by
    have := mkLL_get (ll := ll) (k := k + l.length) (i := i) (by simpa using h)
    simp only [mkLL, List.getD_cons_succ, this, List.take_succ_cons, totLL, Nat.add_assoc]
theorem mkLL_get_len {ll : List (List Int)} {k i : Nat} (hi : i < ll.length) : ((mkLL k ll).getD i []).length = (ll.getD i []).length := by rw [mkLL_get hi]; simp
end Go.Proofs.Ytioogligololoaa.Ab
