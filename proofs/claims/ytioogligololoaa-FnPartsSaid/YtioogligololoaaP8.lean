/- Plain: the parts of a graph take each vertex once. No conditions. -/
import Derived.Test.YtioogligololoaaP2
import Derived.Test.YtioogligololoaaK13
set_option linter.unusedSimpArgs false
set_option linter.unusedVariables false
set_option linter.unnecessarySimpa false
set_option maxHeartbeats 4000000
namespace Go.Proofs.Ytioogligololoaa.Ab
open Go.RowKit

theorem upTo_nodup {n : Nat} : (upTo n).Nodup := by
  unfold upTo
  refine List.Pairwise.map _ (fun a b h => ?_) (List.nodup_range (n := n))
  intro e
  exact h (by omega)
theorem compL_nodup {es : List E} {out : List Int} {n : Nat} {v : Int} : (compL es out n v).Nodup := List.Pairwise.filter _ upTo_nodup
theorem comps_flat {es : List E} {out : List Int} {n : Nat} : ∀ (k : Nat), k ≤ n → (compsTo es out n k).flatten.Nodup ∧ SeenOk es out n k (compsTo es out n k).flatten
  | 0, _ => ⟨by simp [compsTo, upTo], by
      have : compsTo es out n 0 = [] := by simp [compsTo, upTo]
      rw [this]
      exact seen_start⟩
  | k + 1, hk => by
    obtain ⟨ih1, ih2⟩ := comps_flat (es := es) (out := out) (n := n) k (by omega)
    by_cases hh : Head es out k
    · rw [compsTo_yes hh, List.flatten_append, List.flatten_cons, List.flatten_nil, List.append_nil]
      refine ⟨List.nodup_append.2 ⟨ih1, compL_nodup, fun a ha b hb e => ?_⟩, seen_next ih2 hh.1⟩
      subst e
      obtain ⟨_, w, w1, w2, w3, w4⟩ := (ih2 a).1 ha
      have hc := (compL_mem.1 hb).2
      exact hh.2 w w1 w2 (hc.trans (Cn.symm w4))
    · rw [compsTo_no hh]
      exact ⟨ih1, seen_skip ih2 (by omega) hh⟩

theorem cn_out {es : List E} {out : List Int} {a b : Int} (h : Cn es out a b) (ha : ¬ a ∈ out) : ¬ b ∈ out := by
  rcases h.ends (S := Adj es out) (fun h => h) with rfl | ⟨x, y, h1, h2⟩
  · exact ha
  · exact h2.2.2
/-- The parts hold the vertices that are not out, each once. -/
theorem comps_mem {es : List E} {out : List Int} {n : Nat} {u : Int} : u ∈ (comps es out n).flatten ↔ (0 ≤ u ∧ u < n) ∧ ¬ u ∈ out := by
  have h := (comps_flat (es := es) (out := out) n (Nat.le_refl n)).2 u
  unfold comps
  rw [h]
  constructor
  · rintro ⟨h1, w, w1, w2, w3, w4⟩
    exact ⟨h1, cn_out w4 w3⟩
  · rintro ⟨h1, h2⟩
    exact ⟨h1, u, h1.1, h1.2, h2, .refl⟩
theorem comps_nodup {es : List E} {out : List Int} {n : Nat} : (comps es out n).flatten.Nodup := (comps_flat n (Nat.le_refl n)).1
theorem comps_count {es : List E} {n : Nat} {p : Int → Bool} : (comps es ((upTo n).filter p) n).flatten.length + ((upTo n).filter p).length = n := by
  have h : (comps es ((upTo n).filter p) n).flatten.Perm ((upTo n).filter fun u => !p u) := by
    refine (List.perm_ext_iff_of_nodup comps_nodup (List.Pairwise.filter _ upTo_nodup)).2 fun u => ?_
    rw [comps_mem, List.mem_filter, List.mem_filter, upTo_mem]
    constructor
    · rintro ⟨h1, h2⟩
      refine ⟨h1, ?_⟩
      cases hp : p u with
      | false => rfl
      | true => exact absurd ⟨h1, hp⟩ h2
    · rintro ⟨h1, h2⟩
      refine ⟨h1, fun h3 => ?_⟩
      rw [h3.2] at h2
      cases h2
  rw [h.length_eq]
  have : ∀ l : List Int, (l.filter fun u => !p u).length + (l.filter p).length = l.length := by
    intro l
    induction l with
    | nil => rfl
    | cons a l ih =>
      rw [List.filter_cons, List.filter_cons]
      cases hp : p a with
      | true => simp; omega
      | false => simp; omega
  rw [this, upTo_len]
/-- Ends of an edge lie in one part. -/
theorem comps_edge {es : List E} {out : List Int} {n : Nat} {e : E} (he : e ∈ es) (ha : ¬ e.a ∈ out) (hb : ¬ e.b ∈ out) (hr : 0 ≤ e.b ∧ e.b < n) {j : Nat} (hj : j < (comps es out n).length) (h : e.a ∈ (comps es out n).getD j []) : e.b ∈ (comps es out n).getD j [] := by
  have hm : (comps es out n).getD j [] ∈ comps es out n := getD_mem hj
  unfold comps compsTo at hm
  obtain ⟨v, _, hv⟩ := List.mem_filterMap.1 hm
  split at hv
  · have hv' : compL es out n v = (comps es out n).getD j [] := Option.some.inj hv
    rw [← hv'] at h ⊢
    have h1 := (compL_mem.1 h).2
    exact compL_mem.2 ⟨hr, h1.trans (Conn.one ⟨⟨e, he, .inl ⟨rfl, rfl⟩⟩, ha, hb⟩)⟩
  · cases hv
/-- All in the first pieces, and some of the next. -/
def doneL (CL : List (List Int)) (i k : Nat) : List Int := (CL.take i).flatten ++ (CL.getD i []).take k
theorem doneL_next {CL : List (List Int)} {i k : Nat} (hk : k < (CL.getD i []).length) : doneL CL i (k + 1) = doneL CL i k ++ [(CL.getD i []).getD k 0] := by
  unfold doneL
  rw [List.take_add_one, List.getElem?_eq_getElem hk, List.getD_eq_getElem?_getD (l := CL.getD i []), List.getElem?_eq_getElem hk, List.append_assoc]
  rfl
theorem doneL_row {CL : List (List Int)} {i : Nat} (hi : i < CL.length) : doneL CL i (CL.getD i []).length = doneL CL (i + 1) 0 := by
  unfold doneL
  rw [List.take_length, List.take_zero, List.append_nil, List.take_add_one, List.getElem?_eq_getElem hi, List.flatten_append, List.getD_eq_getElem?_getD, List.getElem?_eq_getElem hi]
  simp
theorem doneL_end {CL : List (List Int)} : doneL CL CL.length 0 = CL.flatten := by simp [doneL]
/-- What stands in a part. -/
structure Part (CL : List (List Int)) (D : List Int) (n : Nat) (P : List Int) : Prop where
  len : P.length = n
  no : ∀ u : Nat, u < n → ¬ (u : Int) ∈ D → P.getD u 0 = 0
  yes : ∀ (u j : Nat), u < n → j < CL.length → (u : Int) ∈ D → (u : Int) ∈ CL.getD j [] → P.getD u 0 = ((j + 1 : Nat) : Int)
theorem flat_one {CL : List (List Int)} (h : CL.flatten.Nodup) {u : Int} : ∀ {i j : Nat}, i < CL.length → j < CL.length → u ∈ CL.getD i [] → u ∈ CL.getD j [] → i = j := by
  induction CL with
  | nil => intro i j hi; simp at hi
  | cons l CL ih =>
    intro i j hi hj h1 h2
    rw [List.flatten_cons] at h
    obtain ⟨n1, n2, n3⟩ := List.nodup_append.1 h
    have key : ∀ k, k < CL.length → u ∈ CL.getD k [] → u ∈ CL.flatten := fun k hk hu => List.mem_flatten.2 ⟨_, getD_mem hk, hu⟩
    cases i with
    | zero =>
      cases j with
      | zero => rfl
      | succ j => exact absurd rfl (n3 u (by simpa using h1) u (key j (by simpa using hj) (by simpa using h2)))
    | succ i =>
      cases j with
      | zero => exact absurd rfl (n3 u (by simpa using h2) u (key i (by simpa using hi) (by simpa using h1)))
      | succ j => exact congrArg (· + 1) (ih n2 (by simpa using hi) (by simpa using hj) (by simpa using h1) (by simpa using h2))
theorem part_next {CL : List (List Int)} {D P : List Int} {n i u : Nat} (h : CL.flatten.Nodup) (p : Part CL D n P) (hu : u < n) (hi : i < CL.length) (hm : (u : Int) ∈ CL.getD i []) : Part CL (D ++ [(u : Int)]) n (P.set u ((i + 1 : Nat) : Int)) := by
  refine ⟨by rw [List.length_set]; exact p.len, fun v hv hn => ?_, fun v j hv hj hd hc => ?_⟩
  · have hne : u ≠ v := fun e => hn (by rw [e]; simp)
    rw [List.getD_eq_getElem?_getD, List.getElem?_set_ne hne, ← List.getD_eq_getElem?_getD]
    exact p.no v hv fun q => hn (List.mem_append_left _ q)
  · by_cases e : u = v
    · subst e
      have := flat_one h hi hj hm hc
      subst this
      rw [List.getD_eq_getElem?_getD, List.getElem?_set_self (by rw [p.len]; exact hu)]
      rfl
    · rw [List.getD_eq_getElem?_getD, List.getElem?_set_ne e, ← List.getD_eq_getElem?_getD]
      refine p.yes v j hv hj ?_ hc
      rcases List.mem_append.1 hd with q | q
      · exact q
      · exact absurd (by have := List.mem_singleton.1 q; omega) e
theorem part_start {CL : List (List Int)} {n : Nat} : Part CL [] n (List.replicate n 0) := ⟨by simp, fun u hu _ => by simp [hu], fun u j hu hj h => absurd h List.not_mem_nil⟩
/-- Neighbours are fewer than the vertices. -/
theorem nb_few {es : List E} {n : Nat} {v : Int} (hE : ∀ e ∈ es, EOk n e) (hv : 0 ≤ v ∧ v < n) : (es.foldl (nbStep v) []).length + 1 ≤ n := by
  have hm : ∀ x ∈ es.foldl (nbStep v) [], (0 ≤ x ∧ x < n) ∧ x ≠ v := fun x hx => by
    rcases nbFold_mem.1 hx with h | ⟨e, he, hj⟩
    · exact absurd h List.not_mem_nil
    · have := hE e he
      unfold EOk at this
      unfold Join at hj
      omega
  have hn : (v :: es.foldl (nbStep v) []).Nodup := by
    refine List.nodup_cons.2 ⟨fun h => (hm v h).2 rfl, ?_⟩
    have := nbFold_asc (v := v) (es := es) (out := []) List.Pairwise.nil
    exact this.imp fun h => by omega
  have := nodup_len hn fun x hx => by
    cases List.mem_cons.1 hx with
    | inl e => rw [e]; exact hv
    | inr e => exact (hm x e).1
  simpa using this
end Go.Proofs.Ytioogligololoaa.Ab
