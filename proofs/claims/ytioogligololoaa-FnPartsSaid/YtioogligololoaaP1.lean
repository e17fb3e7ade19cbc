/- Plain graphs: what hangs together. No conditions. -/
import Derived.Test.YtioogligololoaaK13
set_option linter.unusedSimpArgs false
set_option linter.unusedVariables false
set_option linter.unnecessarySimpa false
set_option maxHeartbeats 4000000
namespace Go.Proofs.Ytioogligololoaa.Ab

/-- One can go from one to the other. -/
inductive Conn (R : Int → Int → Prop) (a : Int) : Int → Prop
  | refl : Conn R a a
  | step {b c : Int} (h : Conn R a b) (r : R b c) : Conn R a c
section
variable {R S : Int → Int → Prop} {a b c : Int}
theorem Conn.one (r : R a b) : Conn R a b := .step .refl r
theorem Conn.trans (h : Conn R a b) (k : Conn R b c) : Conn R a c := by
  induction k with
  | refl => exact h
  | step _ r ih => exact .step ih r
theorem Conn.symm (hs : ∀ {x y}, R x y → R y x) (h : Conn R a b) : Conn R b a := by
  induction h with
  | refl => exact .refl
  | step _ r ih => exact (Conn.one (hs r)).trans ih
theorem Conn.imp (hi : ∀ {x y}, R x y → S x y) (h : Conn R a b) : Conn S a b := by
  induction h with
  | refl => exact .refl
  | step _ r ih => exact .step ih (hi r)
theorem Conn.ends (h : Conn R a b) (hr : ∀ {x y}, R x y → S x y) : a = b ∨ ∃ x y, S a x ∧ S y b := by
  induction h with
  | refl => exact .inl rfl
  | step h r ih =>
    rcases ih with rfl | ⟨x, y, h1, _⟩
    · exact .inr ⟨_, _, hr r, hr r⟩
    · exact .inr ⟨x, _, h1, hr r⟩
end

/-- Two vertices have an edge, and neither is left out. -/
def Adj (es : List E) (out : List Int) (a b : Int) : Prop := (∃ e ∈ es, Join a b e) ∧ ¬ a ∈ out ∧ ¬ b ∈ out
theorem Adj.symm {es : List E} {out : List Int} {a b : Int} (h : Adj es out a b) : Adj es out b a := by
  obtain ⟨⟨e, he, hj⟩, h1, h2⟩ := h
  exact ⟨⟨e, he, Or.symm hj⟩, h2, h1⟩
abbrev Cn (es : List E) (out : List Int) (a b : Int) : Prop := Conn (Adj es out) a b
theorem Cn.symm {es : List E} {out : List Int} {a b : Int} (h : Cn es out a b) : Cn es out b a := Conn.symm Adj.symm h
theorem cn_nil {out : List Int} {a b : Int} : Cn [] out a b ↔ a = b := by
  constructor
  · intro h
    cases h with
    | refl => rfl
    | step _ r => obtain ⟨⟨e, he, _⟩, _⟩ := r; cases he
  · rintro rfl; exact .refl
theorem adj_snoc {es : List E} {e : E} {out : List Int} {a b : Int} : Adj (es ++ [e]) out a b ↔ Adj es out a b ∨ (Join a b e ∧ ¬ a ∈ out ∧ ¬ b ∈ out) := by
  unfold Adj
  constructor
  · rintro ⟨⟨x, hx, hj⟩, h1, h2⟩
    rcases List.mem_append.1 hx with hx | hx
    · exact .inl ⟨⟨x, hx, hj⟩, h1, h2⟩
    · rw [List.mem_singleton.1 hx] at hj
      exact .inr ⟨hj, h1, h2⟩
  · rintro (⟨⟨x, hx, hj⟩, h⟩ | ⟨hj, h⟩)
    · exact ⟨⟨x, List.mem_append_left _ hx, hj⟩, h⟩
    · exact ⟨⟨e, List.mem_append_right _ (List.mem_singleton.2 rfl), hj⟩, h⟩
/-- An edge that leads nowhere new. -/
theorem cn_same {es : List E} {e : E} {out : List Int} (h : e.a ∈ out ∨ e.b ∈ out ∨ Cn es out e.a e.b) {a b : Int} : Cn (es ++ [e]) out a b ↔ Cn es out a b := by
  constructor
  · intro k
    induction k with
    | refl => exact .refl
    | step _ r ih =>
      rcases adj_snoc.1 r with r | ⟨hj, h1, h2⟩
      · exact .step ih r
      · rcases hj with ⟨rfl, rfl⟩ | ⟨rfl, rfl⟩
        · rcases h with h | h | h
          · exact absurd h h1
          · exact absurd h h2
          · exact ih.trans h
        · rcases h with h | h | h
          · exact absurd h h2
          · exact absurd h h1
          · exact ih.trans h.symm
  · exact Conn.imp fun r => adj_snoc.2 (.inl r)
/-- An edge that joins. -/
theorem cn_join {es : List E} {e : E} {out : List Int} (h1 : ¬ e.a ∈ out) (h2 : ¬ e.b ∈ out) {a b : Int} : Cn (es ++ [e]) out a b ↔ Cn es out a b ∨ (Cn es out a e.a ∧ Cn es out e.b b) ∨ (Cn es out a e.b ∧ Cn es out e.a b) := by
  constructor
  · intro k
    induction k with
    | refl => exact .inl .refl
    | step _ r ih =>
      rcases adj_snoc.1 r with r | ⟨hj, _, _⟩
      · rcases ih with h | ⟨h, k⟩ | ⟨h, k⟩
        · exact .inl (.step h r)
        · exact .inr (.inl ⟨h, .step k r⟩)
        · exact .inr (.inr ⟨h, .step k r⟩)
      · rcases hj with ⟨rfl, rfl⟩ | ⟨rfl, rfl⟩
        · rcases ih with h | ⟨h, k⟩ | ⟨h, k⟩
          · exact .inr (.inl ⟨h, .refl⟩)
          · exact .inr (.inl ⟨h, .refl⟩)
          · exact .inl h
        · rcases ih with h | ⟨h, k⟩ | ⟨h, k⟩
          · exact .inr (.inr ⟨h, .refl⟩)
          · exact .inl h
          · exact .inr (.inr ⟨h, .refl⟩)
  · have up : ∀ {x y}, Cn es out x y → Cn (es ++ [e]) out x y := fun k => Conn.imp (fun r => adj_snoc.2 (.inl r)) k
    have r : Cn (es ++ [e]) out e.a e.b := Conn.one (adj_snoc.2 (.inr ⟨.inl ⟨rfl, rfl⟩, h1, h2⟩))
    rintro (k | ⟨k, m⟩ | ⟨k, m⟩)
    · exact up k
    · exact (up k).trans (r.trans (up m))
    · exact (up k).trans (r.symm.trans (up m))

/-- The numbers below one. -/
def upTo (n : Nat) : List Int := (List.range n).map fun n : Nat => (n : Int)
theorem upTo_succ {n : Nat} : upTo (n + 1) = upTo n ++ [(n : Int)] := by unfold upTo; rw [List.range_succ, List.map_append]; rfl
theorem upTo_mem {n : Nat} {x : Int} : x ∈ upTo n ↔ 0 ≤ x ∧ x < n := by
  unfold upTo
  simp only [List.mem_map, List.mem_range]
  constructor
  · rintro ⟨k, h, rfl⟩; omega
  · rintro ⟨h1, h2⟩; exact ⟨x.toNat, by omega, by omega⟩
theorem upTo_asc {n : Nat} : Asc (upTo n) := by
  unfold upTo Asc
  rw [List.pairwise_map]
  exact List.pairwise_lt_range.imp fun h => by omega
theorem upTo_len {n : Nat} : (upTo n).length = n := by simp [upTo]
theorem upTo_getD {n i : Nat} (h : i < n) : (upTo n).getD i 0 = i := by simp [upTo, h]

open Classical in
/-- What hangs together with a vertex. -/
noncomputable def compL (es : List E) (out : List Int) (n : Nat) (v : Int) : List Int := (upTo n).filter fun u => decide (Cn es out v u)
/-- A vertex is the least of a part. -/
def Head (es : List E) (out : List Int) (v : Int) : Prop := ¬ v ∈ out ∧ ∀ u, 0 ≤ u → u < v → ¬ Cn es out v u
open Classical in
/-- The parts whose least vertices are below a number. -/
noncomputable def compsTo (es : List E) (out : List Int) (n k : Nat) : List (List Int) := (upTo k).filterMap fun v => if Head es out v then some (compL es out n v) else none
noncomputable def comps (es : List E) (out : List Int) (n : Nat) : List (List Int) := compsTo es out n n
theorem compsTo_yes {es : List E} {out : List Int} {n k : Nat} (h : Head es out k) : compsTo es out n (k + 1) = compsTo es out n k ++ [compL es out n k] := by
  unfold compsTo
  rw [upTo_succ, List.filterMap_append]
  simp [h]
theorem compsTo_no {es : List E} {out : List Int} {n k : Nat} (h : ¬ Head es out k) : compsTo es out n (k + 1) = compsTo es out n k := by
  unfold compsTo
  rw [upTo_succ, List.filterMap_append]
  simp [h]
theorem compsTo_len {es : List E} {out : List Int} {n k : Nat} : (compsTo es out n k).length ≤ k := by
  unfold compsTo
  refine Nat.le_trans (List.length_filterMap_le _ _) (by rw [upTo_len]; exact Nat.le_refl _)
theorem compL_len {es : List E} {out : List Int} {n : Nat} {v : Int} : (compL es out n v).length ≤ n := by
  unfold compL
  refine Nat.le_trans (List.length_filter_le _ _) (by rw [upTo_len]; exact Nat.le_refl _)
theorem comps_mem_len {es : List E} {out : List Int} {n k : Nat} {l : List Int} (h : l ∈ compsTo es out n k) : l.length ≤ n := by
  unfold compsTo at h
  obtain ⟨v, _, hv⟩ := List.mem_filterMap.1 h
  split at hv
  · cases hv; exact compL_len
  · cases hv
theorem filter_snoc {p : Int → Bool} {n : Nat} : (upTo (n + 1)).filter p = if p n = true then (upTo n).filter p ++ [(n : Int)] else (upTo n).filter p := by
  rw [upTo_succ, List.filter_append]
  by_cases h : p n = true <;> simp [h]

/-- Labels: the same where things hang together, the least of each part. -/
structure LabOk (es : List E) (out : List Int) (n : Nat) (L : List Int) : Prop where
  len : L.length = n
  le : ∀ u : Nat, u < n → 0 ≤ L.getD u 0 ∧ L.getD u 0 ≤ u
  same : ∀ u v : Nat, u < n → v < n → (L.getD u 0 = L.getD v 0 ↔ Cn es out u v)
  own : ∀ u : Nat, u < n → Cn es out u (L.getD u 0)
theorem lab_start {out : List Int} {n : Nat} : LabOk [] out n (upTo n) := by
  refine ⟨upTo_len, fun u hu => ?_, fun u v hu hv => ?_, fun u hu => ?_⟩
  · rw [upTo_getD hu]; omega
  · rw [upTo_getD hu, upTo_getD hv, cn_nil]
  · rw [upTo_getD hu]; exact .refl
theorem lab_skip {es : List E} {e : E} {out : List Int} {n : Nat} {L : List Int} (k : LabOk es out n L) (h : e.a ∈ out ∨ e.b ∈ out ∨ Cn es out e.a e.b) : LabOk (es ++ [e]) out n L :=
  ⟨k.len, k.le, fun u v hu hv => by rw [cn_same h]; exact k.same u v hu hv, fun u hu => (cn_same h).2 (k.own u hu)⟩
theorem lab_head {es : List E} {out : List Int} {n : Nat} {L : List Int} (k : LabOk es out n L) {v : Nat} (hv : v < n) (ho : ¬ (v : Int) ∈ out) : L.getD v 0 = v ↔ Head es out v := by
  constructor
  · intro h
    refine ⟨ho, fun u h0 h1 hc => ?_⟩
    obtain ⟨w, rfl⟩ := Int.eq_ofNat_of_zero_le h0
    have := (k.same v w hv (by omega)).2 hc
    have := (k.le w (by omega)).2
    omega
  · rintro ⟨_, h⟩
    have h1 := k.le v hv
    have h2 := h (L.getD v 0) h1.1
    have h3 := k.own v hv
    rcases Int.lt_or_eq_of_le h1.2 with h4 | h4
    · exact absurd h3 (h2 h4)
    · exact h4
theorem lab_join {es : List E} {e : E} {out : List Int} {n a b : Nat} {L M : List Int} (k : LabOk es out n L) (ha : e.a = a) (hb : e.b = b) (h1 : ¬ e.a ∈ out) (h2 : ¬ e.b ∈ out) (ha' : a < n) (hb' : b < n) (hM : M.length = n)
    (hMv : ∀ u : Nat, u < n → M.getD u 0 = if L.getD u 0 = max (L.getD a 0) (L.getD b 0) then min (L.getD a 0) (L.getD b 0) else L.getD u 0) : LabOk (es ++ [e]) out n M := by
  have sa : ∀ u, u < n → (L.getD u 0 = L.getD a 0 ↔ Cn es out u e.a) := fun u hu => by rw [ha]; exact k.same u a hu ha'
  have sb : ∀ u, u < n → (L.getD u 0 = L.getD b 0 ↔ Cn es out u e.b) := fun u hu => by rw [hb]; exact k.same u b hu hb'
  have cls : ∀ u, u < n → M.getD u 0 = if L.getD u 0 = L.getD a 0 ∨ L.getD u 0 = L.getD b 0 then min (L.getD a 0) (L.getD b 0) else L.getD u 0 := by
    intro u hu
    rw [hMv u hu]
    split <;> split <;> omega
  have ca : Cn es out e.a (L.getD a 0) := by rw [ha]; exact k.own a ha'
  have cb : Cn es out e.b (L.getD b 0) := by rw [hb]; exact k.own b hb'
  refine ⟨hM, fun u hu => ?_, fun u v hu hv => ?_, fun u hu => ?_⟩
  · have h3 := k.le u hu
    have h4 := k.le a ha'
    have h5 := k.le b hb'
    rw [cls u hu]
    split <;> omega
  · rw [cn_join h1 h2, cls u hu, cls v hv]
    have q1 := k.same u v hu hv
    have q2 := sa u hu
    have q3 := sb u hu
    have q4 := sa v hv
    have q5 := sb v hv
    have r4 : Cn es out e.a v ↔ Cn es out v e.a := ⟨Cn.symm, Cn.symm⟩
    have r5 : Cn es out e.b v ↔ Cn es out v e.b := ⟨Cn.symm, Cn.symm⟩
    rw [r4, r5, ← q1, ← q2, ← q3, ← q4, ← q5]
    -- the least one of both is a label of one of them, and of no other
    have m := Int.min_def (L.getD a 0) (L.getD b 0)
    split <;> split <;> (split at m) <;> omega
  · rw [cls u hu]
    rw [cn_join h1 h2]
    split
    · rename_i h
      rcases h with h | h
      · have hu1 := (sa u hu).1 h
        rcases Int.le_total (L.getD a 0) (L.getD b 0) with hm | hm
        · rw [Int.min_eq_left hm]; exact .inl (hu1.trans ca)
        · rw [Int.min_eq_right hm]; exact .inr (.inl ⟨hu1, cb⟩)
      · have hu1 := (sb u hu).1 h
        rcases Int.le_total (L.getD a 0) (L.getD b 0) with hm | hm
        · rw [Int.min_eq_left hm]; exact .inr (.inr ⟨hu1, ca⟩)
        · rw [Int.min_eq_right hm]; exact .inl (hu1.trans cb)
    · exact .inl (k.own u hu)
open Classical in
theorem lab_comp {es : List E} {out : List Int} {n : Nat} {L : List Int} (k : LabOk es out n L) {v : Nat} (hv : v < n) (hl : L.getD v 0 = v) : compL es out n v = (upTo n).filter fun u => decide (L.getD u.toNat 0 = v) := by
  unfold compL
  apply List.filter_congr
  intro u hu
  obtain ⟨h1, h2⟩ := upTo_mem.1 hu
  obtain ⟨w, rfl⟩ := Int.eq_ofNat_of_zero_le h1
  have := k.same v w hv (by omega)
  rw [hl] at this
  simp only [Int.toNat_natCast]
  congr 1
  apply propext
  rw [← this]
  exact eq_comm
end Go.Proofs.Ytioogligololoaa.Ab
