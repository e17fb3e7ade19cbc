/- Plain lists: ascending ones, the first place of something. No conditions. -/
import Derived.Test.YtioogligololoaaR
set_option linter.unusedSimpArgs false
set_option linter.unusedVariables false
set_option linter.unnecessarySimpa false
set_option maxHeartbeats 4000000
namespace Go.Proofs.Ytioogligololoaa.Ab

theorem take_getD {α : Type} {l : List α} {i : Nat} {d : α} (hi : i < l.length) : l.take (i + 1) = l.take i ++ [l.getD i d] := by
  rw [List.take_succ_eq_append_getElem hi]
  simp [hi]
theorem getD_mem {α : Type} {l : List α} {i : Nat} {d : α} (hi : i < l.length) : l.getD i d ∈ l := by
  simp [hi]
theorem mem_getD {α : Type} {l : List α} {x d : α} (hx : x ∈ l) : ∃ i, i < l.length ∧ l.getD i d = x := by
  obtain ⟨i, hi, rfl⟩ := List.getElem_of_mem hx
  exact ⟨i, hi, by simp [hi]⟩
theorem drop_getD {α : Type} {l : List α} {i : Nat} {d : α} (hi : i < l.length) : l.drop i = l.getD i d :: l.drop (i + 1) := by
  rw [List.drop_eq_getElem_cons hi]
  simp [hi]

theorem below_succ {P : Nat → Prop} {i : Nat} (h : ∀ j, j < i → P j) (hi : P i) : ∀ j, j < i + 1 → P j := fun j hj => by
  by_cases e : j = i
  · subst e; exact hi
  · exact h j (by omega)
theorem not_mem_getD {α : Type} {l : List α} {x d : α} (h : ∀ j, j < l.length → ¬ l.getD j d = x) : ¬ x ∈ l := fun hm => by
  obtain ⟨i, h1, h2⟩ := mem_getD (d := d) hm
  exact h i h1 h2

/-- The first place of something, or -1. -/
def firstIx {α : Type} (p : α → Prop) [DecidablePred p] : List α → Int
  | [] => -1
  | a :: l => if p a then 0 else if firstIx p l < 0 then -1 else firstIx p l + 1
section
variable {α : Type} {p : α → Prop} [DecidablePred p]
theorem firstIx_ge : ∀ l : List α, -1 ≤ firstIx p l
  | [] => by simp [firstIx]
  | a :: l => by unfold firstIx; have := firstIx_ge l; split <;> (try split) <;> omega
theorem firstIx_none {d : α} : ∀ {l : List α}, (∀ j, j < l.length → ¬ p (l.getD j d)) → firstIx p l = -1
  | [], _ => rfl
  | a :: l, h => by
    have h0 := h 0 (by simp)
    have h1 : firstIx p l = -1 := firstIx_none fun j hj => by have := h (j + 1) (by simpa using hj); simpa using this
    unfold firstIx
    rw [if_neg (by simpa using h0), if_pos (by omega)]
theorem firstIx_at {d : α} : ∀ {l : List α} {i : Nat}, i < l.length → p (l.getD i d) → (∀ j, j < i → ¬ p (l.getD j d)) → firstIx p l = i
  | [], _, h, _, _ => by simp at h
  | a :: l, 0, _, hp, _ => by unfold firstIx; rw [if_pos (by simpa using hp)]; rfl
  | a :: l, i + 1, h, hp, hn => by
    have h0 := hn 0 (by omega)
    have h1 : firstIx p l = i := firstIx_at (by simpa using h) (by simpa using hp) fun j hj => by have := hn (j + 1) (by omega); simpa using this
    unfold firstIx
    rw [if_neg (by simpa using h0), if_neg (by omega), h1]
    omega
theorem firstIx_cases (d : α) : ∀ l : List α, (firstIx p l = -1 ∧ ∀ j, j < l.length → ¬ p (l.getD j d)) ∨ ∃ i : Nat, firstIx p l = i ∧ i < l.length ∧ p (l.getD i d) ∧ ∀ j, j < i → ¬ p (l.getD j d)
  | [] => .inl ⟨rfl, fun j h => by simp at h⟩
  | a :: l => by
    by_cases ha : p a
    · refine .inr ⟨0, by unfold firstIx; rw [if_pos ha]; rfl, by simp, by simpa using ha, fun j h => by omega⟩
    · rcases firstIx_cases d l with ⟨h1, h2⟩ | ⟨i, h1, h2, h3, h4⟩
      · refine .inl ⟨by unfold firstIx; rw [if_neg ha, if_pos (by omega)], fun j hj => ?_⟩
        cases j with
        | zero => simpa using ha
        | succ j => simpa using h2 j (by simpa using hj)
      · refine .inr ⟨i + 1, by unfold firstIx; rw [if_neg ha, if_neg (by omega), h1]; omega, by simpa using h2, by simpa using h3, fun j hj => ?_⟩
        cases j with
        | zero => simpa using ha
        | succ j => simpa using h4 j (by omega)
end

/-- Ascending. -/
abbrev Asc (l : List Int) : Prop := l.Pairwise (· < ·)
theorem asc_ext : ∀ {l m : List Int}, Asc l → Asc m → (∀ x, x ∈ l ↔ x ∈ m) → l = m
  | [], [], _, _, _ => rfl
  | [], b :: m, _, _, h => by have := (h b).2 List.mem_cons_self; cases this
  | a :: l, [], _, _, h => by have := (h a).1 List.mem_cons_self; cases this
  | a :: l, b :: m, ha, hb, h => by
    rw [Asc, List.pairwise_cons] at ha hb
    have e : a = b := by
      have h1 := (h a).1 List.mem_cons_self
      have h2 := (h b).2 List.mem_cons_self
      rcases List.mem_cons.1 h1 with h1 | h1
      · exact h1
      rcases List.mem_cons.1 h2 with h2 | h2
      · exact h2.symm
      have := hb.1 a h1
      have := ha.1 b h2
      omega
    subst e
    congr 1
    refine asc_ext ha.2 hb.2 fun x => ⟨fun hx => ?_, fun hx => ?_⟩
    · rcases List.mem_cons.1 ((h x).1 (List.mem_cons_of_mem _ hx)) with rfl | hm
      · have := ha.1 x hx; omega
      · exact hm
    · rcases List.mem_cons.1 ((h x).2 (List.mem_cons_of_mem _ hx)) with rfl | hm
      · have := hb.1 x hx; omega
      · exact hm

/-- An ascending list with one more. -/
def withL (l : List Int) (n : Int) : List Int := match l with
  | [] => [n]
  | a :: l => if a < n then a :: withL l n else if a = n then a :: l else n :: a :: l
theorem mem_withL {n x : Int} : ∀ {l : List Int}, x ∈ withL l n ↔ x = n ∨ x ∈ l
  | [] => by simp [withL]
  | a :: l => by
    unfold withL
    split
    · simp only [List.mem_cons, mem_withL]
      constructor
      · rintro (h | h | h) <;> simp [h]
      · rintro (h | h | h) <;> simp [h]
    · split
      · rename_i h; subst h; simp
      · simp
theorem withL_len {n : Int} : ∀ {l : List Int}, l.length ≤ (withL l n).length ∧ (withL l n).length ≤ l.length + 1
  | [] => by simp [withL]
  | a :: l => by
    have := withL_len (n := n) (l := l)
    unfold withL; split <;> (try split) <;> simp <;> omega
theorem asc_withL {n : Int} : ∀ {l : List Int}, Asc l → Asc (withL l n)
  | [], _ => by simp [withL]
  | a :: l, h => by
    rw [Asc, List.pairwise_cons] at h
    unfold withL
    split
    · rename_i ha
      rw [Asc, List.pairwise_cons]
      refine ⟨fun x hx => ?_, asc_withL h.2⟩
      rcases mem_withL.1 hx with rfl | hx
      · exact ha
      · exact h.1 x hx
    · split
      · rw [Asc, List.pairwise_cons]; exact h
      · rw [Asc, List.pairwise_cons, List.pairwise_cons]
        refine ⟨fun x hx => ?_, h⟩
        rcases List.mem_cons.1 hx with rfl | hx
        · omega
        · have := h.1 x hx; omega
/-- .. by the place where it goes. -/
theorem withL_at {n : Int} : ∀ {l : List Int} {k : Nat}, k ≤ l.length → (∀ j, j < k → l.getD j 0 < n) → (k < l.length → ¬ l.getD k 0 < n) →
    withL l n = if k < l.length ∧ l.getD k 0 = n then l else l.take k ++ [n] ++ l.drop k
  | [], k, hk, _, _ => by
    have : k = 0 := by simpa using hk
    subst this
    simp [withL]
  | a :: l, 0, _, _, h2 => by
    have := h2 (by simp)
    simp only [List.getD_cons_zero] at this
    unfold withL
    rw [if_neg this]
    by_cases e : a = n
    · rw [if_pos e, if_pos ⟨by simp, by simpa using e⟩]
    · rw [if_neg e, if_neg (by simp [e])]
      rfl
  | a :: l, k + 1, hk, h1, h2 => by
    have ha := h1 0 (by omega)
    simp only [List.getD_cons_zero] at ha
    have ih := withL_at (l := l) (k := k) (n := n) (by simpa using hk) (fun j hj => by have := h1 (j + 1) (by omega); simpa using this) (fun hj => by have := h2 (by simpa using hj); simpa using this)
    unfold withL
    rw [if_pos ha, ih]
    simp only [List.length_cons, Nat.add_lt_add_iff_right, List.getD_cons_succ]
    split
    · rfl
    · simp
end Go.Proofs.Ytioogligololoaa.Ab
