/- Groups of one's own: one more. No conditions. -/
import Derived.Test.YtioogligololoaaR7
set_option linter.unusedSimpArgs false
set_option linter.unusedVariables false
set_option linter.unnecessarySimpa false
set_option maxHeartbeats 4000000
namespace Go.Proofs.Ytioogligololoaa.Ab
open Go.RowKit
section
variable {h h' : Heap} {lo hi lo2 hi2 : Nat} {ty : TypeId} {v w : Value} {gs : List Gp} {l : List Int} {z : Int}
theorem OwnG.norm (o : OwnG h lo hi ty v gs) : ∃ vs : List Value, vs.length = gs.length ∧ OwnGs h lo hi ty v gs vs := by
  obtain ⟨vs, h1, h2, h3, h4⟩ := o
  have e : ∀ i, i < gs.length → ((List.range gs.length).map fun j => vs.getD j nilV).getD i nilV = vs.getD i nilV := fun i hi => by simp [hi]
  refine ⟨(List.range gs.length).map fun j => vs.getD j nilV, by simp, ?_, fun i hi => by rw [e i hi]; exact h2 i hi, fun i hi => by rw [e i hi]; exact h3 i hi, fun i j hij hj => by rw [e i (by omega), e j hj]; exact h4 i j hij hj⟩
  have : gRows ((List.range gs.length).map fun j => vs.getD j nilV) gs = gRows vs gs := by
    unfold gRows
    apply List.map_congr_left
    intro i hi
    have hi' : i < gs.length := by simpa using hi
    unfold gRow
    rw [e i hi']
  rw [this]
  exact h1
theorem gRows_push {vs : List Value} (hv : vs.length = gs.length) : gRows (vs ++ [w]) (gs ++ [⟨l, z⟩]) = gRows vs gs ++ [[w, .int .i64 z]] := by
  unfold gRows
  rw [List.length_append, List.length_singleton, List.range_succ, List.map_append]
  congr 1
  · apply List.map_congr_left
    intro i hi
    have hi' : i < gs.length := by simpa using hi
    unfold gRow
    have e1 : (vs ++ [w]).getD i nilV = vs.getD i nilV := by simp [List.getElem?_append_left (show i < vs.length by omega)]
    have e2 : (gs ++ [(⟨l, z⟩ : Gp)]).getD i g0 = gs.getD i g0 := by simp [List.getElem?_append_left hi']
    rw [e1, e2]
  · unfold gRow
    have e1 : (vs ++ [w]).getD gs.length nilV = w := by rw [← hv]; simp
    have e2 : (gs ++ [(⟨l, z⟩ : Gp)]).getD gs.length g0 = ⟨l, z⟩ := by simp
    simp only [List.map_cons, List.map_nil]
    rw [e1, e2]
theorem OwnG.push (o : OwnG h lo hi ty v gs) (hlo : lo ≤ h.length) (hhi : hi ≤ h.length) (q : Own h lo2 hi2 1 y_int w (ints l)) (hll : lo ≤ lo2) (hd : hi ≤ lo2) (hd2 : hi2 ≤ h.length) (hl : gs.length < lim) :
    ∃ v' h', appLW h 2 ty 1 v (some [w, .int .i64 z]) = some (v', h') ∧ h.length ≤ h'.length ∧ (∀ b, b < lo → h'[b]? = h[b]?) ∧ OwnG h' lo h'.length ty v' (gs ++ [⟨l, z⟩]) := by
  obtain ⟨vs, hvl, h2, h3, h4, h5⟩ := o.norm
  have hwsepv : Sep v w := h2.sep q (.inl hd)
  have hws : ∀ i, i < gs.length → Sep (vs.getD i nilV) w := fun i hi => (h3 i hi).sep q (.inl hd)
  obtain ⟨v', h', e, g, b, c, o'⟩ := push_is h2 hlo [[w, .int .i64 z]] (fun r hr => by rw [List.mem_singleton.1 hr]; rfl) (by simp) (by simp; omega)
  simp only [List.flatten_cons, List.flatten_nil, List.append_nil, List.length_cons, List.length_nil, Nat.zero_add] at e
  have same : ∀ {x : Value} {rr : List (List Value)} {p r : Nat}, Own h p r 1 y_int x rr → r ≤ h.length → Sep v x → Own h' p r 1 y_int x rr := by
    intro x rr p r ox hr hs
    refine ⟨ox.len, ?_⟩
    rcases ox.is with hn | ⟨c, l1, l2, rfl, hc⟩
    · exact .inl hn
    · exact .inr ⟨c, l1, l2, rfl, by rw [b c (by omega) (by simp only [Sep, tlo, thi] at hs ⊢; omega)]; exact hc⟩
  have hv'sep : ∀ {x : Value}, Sep v x → (x = nilV ∨ thi x ≤ h.length) → Sep v' x := by
    intro x hs hx
    rcases c with ⟨rfl, c1, c2, c3⟩ | ⟨_, _, c2, c3⟩
    · rcases hx with rfl | hx
      · exact sep_nil
      · exact .inr (by omega)
    · unfold Sep at hs ⊢; omega
  have hwin : w = nilV ∨ thi w ≤ h.length := by
    rcases q.within with h | ⟨_, h, _⟩
    · exact .inl h
    · exact .inr (by omega)
  have hlv : lo ≤ tlo v' := by
    rcases c with ⟨_, c1, _⟩ | ⟨hv, _, c2, _⟩
    · omega
    · rcases h2.within with k | k
      · exact absurd k hv
      · omega
  have hnz : thi v' ≤ h'.length ∧ tlo v' < thi v' := by
    rcases c with ⟨_, c1, c2, c3⟩ | ⟨hv, c1, c2, c3⟩
    · omega
    · rcases h2.within with k | k
      · exact absurd k hv
      · omega
  refine ⟨v', h', e, g, fun x hx => b x (by omega) ?_, vs ++ [w], ?_, fun i hi' => ?_, fun i hi' => ?_, fun i j hij hj => ?_⟩
  · rcases h2.within with rfl | ⟨k1, k2, _⟩
    · exact .inr (Nat.zero_le _)
    · exact .inl (by omega)
  · rw [gRows_push hvl]
    exact o'.wide (by omega) hnz.1
  · by_cases hil : i < gs.length
    · have e1 : (vs ++ [w]).getD i nilV = vs.getD i nilV := by simp [List.getElem?_append_left (show i < vs.length by omega)]
      have e2 : (gs ++ [(⟨l, z⟩ : Gp)]).getD i g0 = gs.getD i g0 := by simp [List.getElem?_append_left hil]
      rw [e1, e2]
      exact (same (h3 i hil) hhi (h4 i hil)).wide (Nat.le_refl _) (by omega)
    · have hil : i = gs.length := by simp at hi'; omega
      subst hil
      have e1 : (vs ++ [w]).getD gs.length nilV = w := by rw [← hvl]; simp
      have e2 : (gs ++ [(⟨l, z⟩ : Gp)]).getD gs.length g0 = ⟨l, z⟩ := by simp
      rw [e1, e2]
      exact (same q hd2 hwsepv).wide hll (by omega)
  · by_cases hil : i < gs.length
    · have e1 : (vs ++ [w]).getD i nilV = vs.getD i nilV := by simp [List.getElem?_append_left (show i < vs.length by omega)]
      rw [e1]
      refine hv'sep (h4 i hil) ?_
      rcases (h3 i hil).within with h | ⟨_, h, _⟩
      · exact .inl h
      · exact .inr (by omega)
    · have hil : i = gs.length := by simp at hi'; omega
      subst hil
      have e1 : (vs ++ [w]).getD gs.length nilV = w := by rw [← hvl]; simp
      rw [e1]
      exact hv'sep hwsepv hwin
  · have hil : i < gs.length := by simp at hj; omega
    have e1 : (vs ++ [w]).getD i nilV = vs.getD i nilV := by simp [List.getElem?_append_left (show i < vs.length by omega)]
    rw [e1]
    by_cases hjl : j < gs.length
    · have e2 : (vs ++ [w]).getD j nilV = vs.getD j nilV := by simp [List.getElem?_append_left (show j < vs.length by omega)]
      rw [e2]
      exact h5 i j hij hjl
    · have hjl : j = gs.length := by simp at hj; omega
      subst hjl
      have e2 : (vs ++ [w]).getD gs.length nilV = w := by rw [← hvl]; simp
      rw [e2]
      exact hws i hil
theorem OwnG.nil : OwnG h lo hi ty nilV [] := ⟨[], Own.nil, fun i hi => (by simp at hi), fun i hi => (by simp at hi), fun i j _ hi => (by simp at hi)⟩
theorem OwnG.cells' (o : OwnG h lo hi ty v gs) : cellsOf v = some [v] := by obtain ⟨vs, o, _⟩ := o; exact o.cells
end
end Go.Proofs.Ytioogligololoaa.Ab
