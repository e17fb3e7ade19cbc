/- Plain graphs: going through what hangs together. No conditions. -/
import Derived.Test.YtioogligololoaaP1
set_option linter.unusedSimpArgs false
set_option linter.unusedVariables false
set_option linter.unnecessarySimpa false
set_option maxHeartbeats 4000000
namespace Go.Proofs.Ytioogligololoaa.Ab

theorem nodup_len : ∀ {n : Nat} {l : List Int}, l.Nodup → (∀ x ∈ l, 0 ≤ x ∧ x < n) → l.length ≤ n
  | 0, [], _, _ => Nat.le_refl _
  | 0, a :: l, _, h => by have := h a List.mem_cons_self; omega
  | n + 1, l, hn, h => by
    by_cases hm : (n : Int) ∈ l
    · have h1 := List.length_erase_of_mem hm
      have h2 := nodup_len (n := n) (hn.erase (n : Int)) fun x hx => by
        obtain ⟨h3, h4⟩ := (hn.mem_erase_iff).1 hx
        have := h x h4
        omega
      omega
    · have := nodup_len (n := n) hn fun x hx => by
        have h3 := h x hx
        have : x ≠ n := fun e => hm (e ▸ hx)
        omega
      omega
/-- Some of what hangs together with a vertex; of the first ones all neighbours are there. -/
structure Bfs (es : List E) (out : List Int) (n : Nat) (v : Int) (i : Nat) (L : List Int) : Prop where
  nodup : L.Nodup
  top : v ∈ L
  all : ∀ x ∈ L, (0 ≤ x ∧ x < n) ∧ ¬ x ∈ out ∧ Cn es out v x
  near : ∀ j, j < i → ∀ w, Adj es out (L.getD j 0) w → w ∈ L
theorem Bfs.len {es : List E} {out : List Int} {n : Nat} {v : Int} {i : Nat} {L : List Int} (b : Bfs es out n v i L) : L.length ≤ n := nodup_len b.nodup fun x hx => (b.all x hx).1
theorem bfs_start {es : List E} {out : List Int} {n : Nat} {v : Int} (h1 : 0 ≤ v ∧ v < n) (h2 : ¬ v ∈ out) : Bfs es out n v 0 [v] :=
  ⟨by simp, by simp, fun x hx => by rw [List.mem_singleton.1 hx]; exact ⟨h1, h2, .refl⟩, fun j hj => by omega⟩
theorem bfs_push {es : List E} {out : List Int} {n : Nat} {v w : Int} {i : Nat} {L : List Int} (b : Bfs es out n v i L) (hi : i < L.length) (hw : Adj es out (L.getD i 0) w) (hr : 0 ≤ w ∧ w < n) (hn : ¬ w ∈ L) : Bfs es out n v i (L ++ [w]) := by
  have get : ∀ j, j < L.length → (L ++ [w]).getD j 0 = L.getD j 0 := fun j hj => by simp [List.getElem?_append_left hj]
  refine ⟨?_, List.mem_append_left _ b.top, fun x hx => ?_, fun j hj x hx => ?_⟩
  · rw [List.nodup_append]
    exact ⟨b.nodup, by simp, fun x hx y hy e => hn (by rw [← List.mem_singleton.1 hy, ← e]; exact hx)⟩
  · rcases List.mem_append.1 hx with hx | hx
    · exact b.all x hx
    · rw [List.mem_singleton.1 hx]
      exact ⟨hr, hw.2.2, (b.all _ (getD_mem hi)).2.2.step hw⟩
  · rw [get j (by omega)] at hx
    exact List.mem_append_left _ (b.near j hj x hx)
theorem bfs_next {es : List E} {out : List Int} {n : Nat} {v : Int} {i : Nat} {L : List Int} (b : Bfs es out n v i L) (h : ∀ w, Adj es out (L.getD i 0) w → w ∈ L) : Bfs es out n v (i + 1) L :=
  ⟨b.nodup, b.top, b.all, below_succ b.near h⟩
theorem bfs_end {es : List E} {out : List Int} {n : Nat} {v x : Int} {L : List Int} (b : Bfs es out n v L.length L) : x ∈ L ↔ Cn es out v x := by
  constructor
  · intro h; exact (b.all x h).2.2
  · intro h
    induction h with
    | refl => exact b.top
    | step _ r ih =>
      obtain ⟨j, hj, e⟩ := mem_getD (d := 0) ih
      exact b.near j hj _ (by rw [e]; exact r)
theorem next_adj {es : List E} {out : List Int} {n : Nat} {x w : Int} (hE : ∀ e ∈ es, EOk n e) (hx : ¬ x ∈ out) : Adj es out x w ↔ w ∈ nextL es n x ∧ ¬ w ∈ out := by
  unfold Adj
  rw [nextL_mem]
  constructor
  · rintro ⟨⟨e, he, hj⟩, _, h2⟩
    have hk := hE e he
    unfold EOk at hk
    refine ⟨⟨?_, ?_, e, he, Or.symm hj⟩, h2⟩ <;> (rcases hj with ⟨rfl, rfl⟩ | ⟨rfl, rfl⟩ <;> omega)
  · rintro ⟨⟨_, _, e, he, hj⟩, h2⟩
    exact ⟨⟨e, he, Or.symm hj⟩, hx, h2⟩
open Classical in
theorem bfs_comp {es : List E} {out : List Int} {n : Nat} {v : Int} {L : List Int} (b : Bfs es out n v L.length L) : ((upTo n).filter fun u => decide (u ∈ L)) = compL es out n v := by
  unfold compL
  apply List.filter_congr
  intro u _
  congr 1
  exact propext (bfs_end b)
/-- What is seen: all that hangs together with those ahead. -/
def SeenOk (es : List E) (out : List Int) (n k : Nat) (S : List Int) : Prop := ∀ u : Int, u ∈ S ↔ (0 ≤ u ∧ u < n) ∧ ∃ w : Int, 0 ≤ w ∧ w < k ∧ ¬ w ∈ out ∧ Cn es out w u
theorem seen_start {es : List E} {out : List Int} {n : Nat} : SeenOk es out n 0 [] := fun u => ⟨(fun h => by cases h), fun ⟨_, w, h1, h2, _⟩ => by omega⟩
open Classical in
theorem compL_mem {es : List E} {out : List Int} {n : Nat} {v u : Int} : u ∈ compL es out n v ↔ (0 ≤ u ∧ u < n) ∧ Cn es out v u := by
  unfold compL
  rw [List.mem_filter, upTo_mem]
  simp
theorem seen_head {es : List E} {out : List Int} {n k : Nat} {S : List Int} (s : SeenOk es out n k S) (hk : k < n) : Head es out k ↔ ¬ (k : Int) ∈ out ∧ ¬ (k : Int) ∈ S := by
  unfold Head
  constructor
  · rintro ⟨h1, h2⟩
    refine ⟨h1, fun hm => ?_⟩
    obtain ⟨_, w, h3, h4, _, h6⟩ := (s k).1 hm
    exact h2 w h3 h4 h6.symm
  · rintro ⟨h1, h2⟩
    refine ⟨h1, fun u h3 h4 hc => h2 ((s k).2 ⟨by omega, u, h3, h4, ?_, hc.symm⟩)⟩
    intro ho
    rcases hc.ends (S := Adj es out) (fun r => r) with e | ⟨x, y, _, r⟩
    · omega
    · exact r.2.2 ho
theorem seen_next {es : List E} {out : List Int} {n k : Nat} {S : List Int} (s : SeenOk es out n k S) (h : ¬ (k : Int) ∈ out) : SeenOk es out n (k + 1) (S ++ compL es out n k) := by
  intro u
  rw [List.mem_append, s u, compL_mem]
  constructor
  · rintro (⟨h1, w, h2, h3, h4⟩ | ⟨h1, h2⟩)
    · exact ⟨h1, w, h2, by omega, h4⟩
    · exact ⟨h1, k, by omega, by omega, h, h2⟩
  · rintro ⟨h1, w, h2, h3, h4, h5⟩
    by_cases e : w = k
    · subst e; exact .inr ⟨h1, h5⟩
    · exact .inl ⟨h1, w, h2, by omega, h4, h5⟩
theorem seen_skip {es : List E} {out : List Int} {n k : Nat} {S : List Int} (s : SeenOk es out n k S) (hk : k < n) (h : ¬ Head es out k) : SeenOk es out n (k + 1) S := by
  intro u
  rw [s u]
  constructor
  · rintro ⟨h1, w, h2, h3, h4⟩; exact ⟨h1, w, h2, by omega, h4⟩
  · rintro ⟨h1, w, h2, h3, h4, h5⟩
    by_cases e : w = k
    · subst e
      have hm : (k : Int) ∈ S := by
        apply Decidable.byContradiction
        intro hm
        exact h ((seen_head s hk).2 ⟨h4, hm⟩)
      obtain ⟨_, x, h6, h7, h8, h9⟩ := (s k).1 hm
      exact ⟨h1, x, h6, h7, h8, h9.trans h5⟩
    · exact ⟨h1, w, h2, by omega, h4, h5⟩
/-- How many parts are odd. -/
noncomputable def oddSum : List (List Int) → Nat
  | [] => 0
  | l :: ll => l.length % 2 + oddSum ll
theorem oddSum_take : ∀ {ll : List (List Int)} {i : Nat}, i < ll.length → oddSum (ll.take (i + 1)) = oddSum (ll.take i) + (ll.getD i []).length % 2
  | [], _, h => by simp at h
  | l :: ll, 0, _ => by simp [oddSum]
  | l :: ll, i + 1, h => by
    have := oddSum_take (ll := ll) (i := i) (by simpa using h)
    simp only [List.take_succ_cons, oddSum, List.getD_cons_succ]
    omega
theorem oddSum_le : ∀ {ll : List (List Int)}, oddSum ll ≤ ll.length
  | [] => Nat.le_refl _
  | l :: ll => by
    have := oddSum_le (ll := ll)
    simp only [oddSum, List.length_cons]
    omega
end Go.Proofs.Ytioogligololoaa.Ab
