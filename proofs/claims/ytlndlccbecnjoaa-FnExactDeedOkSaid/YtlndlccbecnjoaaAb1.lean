/- The abstract memory's three turns (a block is written, is made, grows into a new place), and that the machine's world shows the turned memory. No conditions. -/
import Derived.Test.YtlndlccbecnjoaaAb0
namespace Go.Proofs.Ytlndlccbecnjoaa.Ab
set_option linter.unusedSimpArgs false
set_option linter.unusedVariables false
set_option linter.unnecessarySimpa false

theorem cell_of_row {w : World} {g j : Nat} {cur : Array Value} {e : TypeId} {fr : Nat × Nat} (h : w.heap[g]? = some (.cells cur e fr)) : w.cell? ⟨g, j, none⟩ = cur[j]? := by simp [World.cell?, h]
theorem cell_of_same {w w' : World} {g j : Nat} (h : w'.heap[g]? = w.heap[g]?) : w'.cell? ⟨g, j, none⟩ = w.cell? ⟨g, j, none⟩ := by simp [World.cell?, h]

theorem set_get {h : Heap} {b b' : Nat} {x blk : Blk} (hb : (h.set b x)[b']? = some blk) : (b' = b ∧ blk = x ∧ b < h.length) ∨ (b' ≠ b ∧ h[b']? = some blk) := by
  rw [List.getElem?_set] at hb
  by_cases e : b = b'
  · subst e
    simp only [if_true] at hb
    split at hb
    · cases hb; exact .inl ⟨rfl, rfl, by assumption⟩
    · cases hb
  · rw [if_neg e] at hb; exact .inr ⟨fun h => e h.symm, hb⟩

theorem lt_of_get {h : Heap} {b : Nat} {blk : Blk} (hb : h[b]? = some blk) : b < h.length := (List.getElem?_eq_some_iff.1 hb).1

/-- A block is written, or grows where it lies. -/
theorem HRel.put {μ : Map} {h : Heap} {w w' : World} (k : HRel μ h w) {b : Nat} {blk : Blk} (hb : h[b]? = some blk) (ho : blk.own = true) {cells : List Value} {new : Array Value}
    (hsz : new.size = (μ b).c) (hle : cells.length ≤ new.size) (hge : blk.cells.length ≤ cells.length)
    (hc : ∀ (i : Nat) (v : Value), cells[i]? = some v → ∃ v', new[i]? = some v' ∧ VR1 μ h v v')
    (hw : w'.heap[(μ b).g]? = some (.cells new blk.ty (0, 0))) (hr : ∀ j, j ≠ (μ b).g → w'.heap[j]? = w.heap[j]?) (hs : w'.heap.size = w.heap.size) (os : w'.os = w.os) (tape : w'.tape = w.tape) (out : w'.output = w.output) :
    HRel μ (h.set b { blk with cells := cells }) w' ∧ To μ h w μ (h.set b { blk with cells := cells }) w' := by
  have hbl := lt_of_get hb
  have up : Up μ h μ (h.set b { blk with cells := cells }) := by
    intro b' blk' hb'
    by_cases e : b' = b
    · subst e
      rw [hb] at hb'; cases hb'
      exact ⟨{ blk with cells := cells }, by rw [List.getElem?_set_self hbl], rfl, rfl, rfl, hge, fun _ => rfl⟩
    · exact ⟨blk', by rw [List.getElem?_set_ne (fun h => e h.symm)]; exact hb', rfl, rfl, rfl, Nat.le_refl _, fun _ => rfl⟩
  refine ⟨⟨fun b' blk' hb' i v hv => ?_, fun b' blk' hb' => ?_, fun b' blk' hb' => ?_, fun b' blk' hb' ho' => ?_, fun b1 b2 blk1 blk2 h1 h2 h3 h4 => ?_⟩, up, ⟨os, tape, out, by omega, fun j _ hm => hr j (fun e => hm ⟨b, blk, hb, ho, e.symm⟩)⟩, ?_, ?_⟩
  · rcases set_get hb' with ⟨rfl, rfl, _⟩ | ⟨hne, hb'⟩
    · obtain ⟨v', h1, h2⟩ := hc i v hv
      refine ⟨v', ?_, h2.up up⟩
      rw [(k.own _ _ hb ho).1, Nat.zero_add, cell_of_row hw]; exact h1
    · obtain ⟨v', h1, h2⟩ := k.cell b' blk' hb' i v hv
      exact ⟨v', by rw [cell_of_same (hr _ (k.sep b b' blk blk' hb hb' ho (fun e => hne e.symm)))]; exact h1, h2.up up⟩
  · rcases set_get hb' with ⟨rfl, rfl, _⟩ | ⟨hne, hb'⟩
    · show 0 < blk.sz; exact k.pos _ _ hb
    · exact k.pos _ _ hb'
  · rw [hs]
    rcases set_get hb' with ⟨rfl, rfl, _⟩ | ⟨hne, hb'⟩
    · exact k.lt _ _ hb
    · exact k.lt _ _ hb'
  · rcases set_get hb' with ⟨rfl, rfl, _⟩ | ⟨hne, hb'⟩
    · exact ⟨(k.own _ _ hb ho).1, new, hw, hsz, hle⟩
    · obtain ⟨h1, cur, h2, h3, h4⟩ := k.own _ _ hb' ho'
      exact ⟨h1, cur, by rw [hr _ (k.sep b b' blk blk' hb hb' ho (fun e => hne e.symm))]; exact h2, h3, h4⟩
  · rcases set_get h1 with ⟨rfl, rfl, _⟩ | ⟨hne, g1⟩
    · rcases set_get h2 with ⟨rfl, rfl, _⟩ | ⟨hne', h2⟩
      · exact absurd rfl h4
      · exact k.sep _ _ _ _ hb h2 ho h4
    · rcases set_get h2 with ⟨rfl, rfl, _⟩ | ⟨hne', h2⟩
      · exact k.sep _ _ _ _ g1 hb h3 h4
      · exact k.sep _ _ _ _ g1 h2 h3 h4
  · rintro g ⟨b', blk', hb', ho', hg⟩
    rcases set_get hb' with ⟨rfl, rfl, _⟩ | ⟨hne, hb'⟩
    · exact .inr ⟨_, blk, hb, ho, hg⟩
    · exact .inr ⟨b', blk', hb', ho', hg⟩
  · rintro g ⟨b', blk', hb', hg⟩
    rcases set_get hb' with ⟨rfl, rfl, _⟩ | ⟨hne, hb'⟩
    · exact .inr ⟨_, blk, hb, hg⟩
    · exact .inr ⟨b', blk', hb', hg⟩

/-- The map with one place turned. -/
def Map.to (μ : Map) (b : Nat) (l : Loc) : Map := fun b' => if b' = b then l else μ b'
theorem Map.to_same (μ : Map) (b : Nat) (l : Loc) : μ.to b l b = l := by simp [Map.to]
theorem Map.to_ne (μ : Map) {b b' : Nat} (l : Loc) (h : b' ≠ b) : μ.to b l b' = μ b' := by simp [Map.to, h]

/-- A block grows into a new place. -/
theorem HRel.move {μ : Map} {h : Heap} {w w' : World} (k : HRel μ h w) {b : Nat} {blk : Blk} (hb : h[b]? = some blk) (ho : blk.own = true) {cells : List Value} {new : Array Value}
    (hle : cells.length ≤ new.size) (hge : blk.cells.length < cells.length)
    (hc : ∀ (i : Nat) (v : Value), cells[i]? = some v → ∃ v', new[i]? = some v' ∧ VR1 μ h v v')
    (hw : w'.heap[w.heap.size]? = some (.cells new blk.ty (0, 0))) (hr : ∀ j, j < w.heap.size → w'.heap[j]? = w.heap[j]?) (hs : w'.heap.size = w.heap.size + 1) (os : w'.os = w.os) (tape : w'.tape = w.tape) (out : w'.output = w.output) :
    HRel (μ.to b ⟨w.heap.size, 0, new.size⟩) (h.set b { blk with cells := cells }) w' ∧ To μ h w (μ.to b ⟨w.heap.size, 0, new.size⟩) (h.set b { blk with cells := cells }) w' := by
  have hbl := lt_of_get hb
  have up : Up μ h (μ.to b ⟨w.heap.size, 0, new.size⟩) (h.set b { blk with cells := cells }) := by
    intro b' blk' hb'
    by_cases e : b' = b
    · subst e
      rw [hb] at hb'; cases hb'
      exact ⟨{ blk with cells := cells }, by rw [List.getElem?_set_self hbl], rfl, rfl, rfl, Nat.le_of_lt hge, fun e => by simp only at e; omega⟩
    · exact ⟨blk', by rw [List.getElem?_set_ne (fun h => e h.symm)]; exact hb', rfl, rfl, rfl, Nat.le_refl _, fun _ => Map.to_ne _ _ e⟩
  refine ⟨⟨fun b' blk' hb' i v hv => ?_, fun b' blk' hb' => ?_, fun b' blk' hb' => ?_, fun b' blk' hb' ho' => ?_, fun b1 b2 blk1 blk2 h1 h2 h3 h4 => ?_⟩, up, ⟨os, tape, out, by omega, fun j hj _ => hr j hj⟩, ?_, ?_⟩
  · rcases set_get hb' with ⟨rfl, rfl, _⟩ | ⟨hne, hb'⟩
    · obtain ⟨v', h1, h2⟩ := hc i v hv
      refine ⟨v', ?_, h2.up up⟩
      rw [Map.to_same, Nat.zero_add, cell_of_row hw]; exact h1
    · obtain ⟨v', h1, h2⟩ := k.cell b' blk' hb' i v hv
      exact ⟨v', by rw [Map.to_ne _ _ hne, cell_of_same (hr _ (k.lt _ _ hb'))]; exact h1, h2.up up⟩
  · rcases set_get hb' with ⟨rfl, rfl, _⟩ | ⟨hne, hb'⟩
    · show 0 < blk.sz; exact k.pos _ _ hb
    · exact k.pos _ _ hb'
  · rw [hs]
    rcases set_get hb' with ⟨rfl, rfl, _⟩ | ⟨hne, hb'⟩
    · rw [Map.to_same]; exact Nat.lt_succ_self _
    · rw [Map.to_ne _ _ hne]; exact Nat.lt_succ_of_lt (k.lt _ _ hb')
  · rcases set_get hb' with ⟨rfl, rfl, _⟩ | ⟨hne, hb'⟩
    · rw [Map.to_same]; exact ⟨rfl, new, hw, rfl, hle⟩
    · rw [Map.to_ne _ _ hne]
      obtain ⟨h1, cur, h2, h3, h4⟩ := k.own _ _ hb' ho'
      exact ⟨h1, cur, by rw [hr _ (k.lt _ _ hb')]; exact h2, h3, h4⟩
  · rcases set_get h1 with ⟨rfl, rfl, _⟩ | ⟨hne, g1⟩
    · rcases set_get h2 with ⟨rfl, rfl, _⟩ | ⟨hne', h2⟩
      · exact absurd rfl h4
      · rw [Map.to_same, Map.to_ne _ _ hne']
        have := k.lt _ _ h2
        show (μ b2).g ≠ w.heap.size
        omega
    · rcases set_get h2 with ⟨rfl, rfl, _⟩ | ⟨hne', h2⟩
      · rw [Map.to_same, Map.to_ne _ _ hne]
        have := k.lt _ _ g1
        show w.heap.size ≠ (μ b1).g
        omega
      · rw [Map.to_ne _ _ hne, Map.to_ne _ _ hne']; exact k.sep _ _ _ _ g1 h2 h3 h4
  · rintro g ⟨b', blk', hb', ho', hg⟩
    rcases set_get hb' with ⟨rfl, rfl, _⟩ | ⟨hne, hb'⟩
    · rw [Map.to_same] at hg
      exact .inl (Nat.le_of_eq hg)
    · rw [Map.to_ne _ _ hne] at hg
      exact .inr ⟨b', blk', hb', ho', hg⟩
  · rintro g ⟨b', blk', hb', hg⟩
    rcases set_get hb' with ⟨rfl, rfl, _⟩ | ⟨hne, hb'⟩
    · rw [Map.to_same] at hg
      exact .inl (Nat.le_of_eq hg)
    · rw [Map.to_ne _ _ hne] at hg
      exact .inr ⟨b', blk', hb', hg⟩

theorem push_get {h : Heap} {b : Nat} {x blk : Blk} (hb : (h ++ [x])[b]? = some blk) : (b = h.length ∧ blk = x) ∨ (b < h.length ∧ h[b]? = some blk) := by
  by_cases e : b < h.length
  · rw [List.getElem?_append_left e] at hb; exact .inr ⟨e, hb⟩
  · rw [List.getElem?_append_right (by omega)] at hb
    cases hn : b - h.length with
    | zero => rw [hn] at hb; simp at hb; exact .inl ⟨by omega, hb.symm⟩
    | succ n => rw [hn] at hb; simp at hb

theorem Up.push (μ : Map) (h : Heap) (l : Loc) (x : Blk) : Up μ h (μ.to h.length l) (h ++ [x]) := by
  intro b' blk' hb'
  have := lt_of_get hb'
  exact ⟨blk', by rw [List.getElem?_append_left this]; exact hb', rfl, rfl, rfl, Nat.le_refl _, fun _ => Map.to_ne _ _ (by omega)⟩

/-- A block is made. -/
theorem HRel.push {μ : Map} {h : Heap} {w w' : World} (k : HRel μ h w) {blk : Blk} {new : Array Value} (ho : blk.own = true) (hp : 0 < blk.sz) (hle : blk.cells.length ≤ new.size)
    (hc : ∀ (i : Nat) (v : Value), blk.cells[i]? = some v → ∃ v', new[i]? = some v' ∧ VR1 μ h v v')
    (hw : w'.heap[w.heap.size]? = some (.cells new blk.ty (0, 0))) (hr : ∀ j, j < w.heap.size → w'.heap[j]? = w.heap[j]?) (hs : w'.heap.size = w.heap.size + 1) (os : w'.os = w.os) (tape : w'.tape = w.tape) (out : w'.output = w.output) :
    HRel (μ.to h.length ⟨w.heap.size, 0, new.size⟩) (h ++ [blk]) w' ∧ To μ h w (μ.to h.length ⟨w.heap.size, 0, new.size⟩) (h ++ [blk]) w' := by
  have up := Up.push μ h ⟨w.heap.size, 0, new.size⟩ blk
  refine ⟨⟨fun b' blk' hb' i v hv => ?_, fun b' blk' hb' => ?_, fun b' blk' hb' => ?_, fun b' blk' hb' ho' => ?_, fun b1 b2 blk1 blk2 h1 h2 h3 h4 => ?_⟩, up, ⟨os, tape, out, by omega, fun j hj _ => hr j hj⟩, ?_, ?_⟩
  · rcases push_get hb' with ⟨rfl, rfl⟩ | ⟨hlt, hb'⟩
    · obtain ⟨v', h1, h2⟩ := hc i v hv
      refine ⟨v', ?_, h2.up up⟩
      rw [Map.to_same, Nat.zero_add, cell_of_row hw]; exact h1
    · obtain ⟨v', h1, h2⟩ := k.cell b' blk' hb' i v hv
      exact ⟨v', by rw [Map.to_ne _ _ (by omega), cell_of_same (hr _ (k.lt _ _ hb'))]; exact h1, h2.up up⟩
  · rcases push_get hb' with ⟨rfl, rfl⟩ | ⟨hlt, hb'⟩
    · exact hp
    · exact k.pos _ _ hb'
  · rw [hs]
    rcases push_get hb' with ⟨rfl, rfl⟩ | ⟨hlt, hb'⟩
    · rw [Map.to_same]; exact Nat.lt_succ_self _
    · rw [Map.to_ne _ _ (by omega)]; exact Nat.lt_succ_of_lt (k.lt _ _ hb')
  · rcases push_get hb' with ⟨rfl, rfl⟩ | ⟨hlt, hb'⟩
    · rw [Map.to_same]; exact ⟨rfl, new, hw, rfl, hle⟩
    · rw [Map.to_ne _ _ (by omega)]
      obtain ⟨h1, cur, h2, h3, h4⟩ := k.own _ _ hb' ho'
      exact ⟨h1, cur, by rw [hr _ (k.lt _ _ hb')]; exact h2, h3, h4⟩
  · rcases push_get h1 with ⟨rfl, rfl⟩ | ⟨hlt, g1⟩
    · rcases push_get h2 with ⟨rfl, rfl⟩ | ⟨hlt', h2⟩
      · exact absurd rfl h4
      · rw [Map.to_same, Map.to_ne _ _ (by omega)]
        have := k.lt _ _ h2
        show (μ b2).g ≠ w.heap.size
        omega
    · rcases push_get h2 with ⟨rfl, rfl⟩ | ⟨hlt', h2⟩
      · rw [Map.to_same, Map.to_ne _ _ (by omega)]
        have := k.lt _ _ g1
        show w.heap.size ≠ (μ b1).g
        omega
      · rw [Map.to_ne _ _ (by omega), Map.to_ne _ _ (by omega)]; exact k.sep _ _ _ _ g1 h2 h3 h4
  · rintro g ⟨b', blk', hb', ho', hg⟩
    rcases push_get hb' with ⟨rfl, rfl⟩ | ⟨hlt, hb'⟩
    · rw [Map.to_same] at hg
      exact .inl (Nat.le_of_eq hg)
    · rw [Map.to_ne _ _ (by omega)] at hg
      exact .inr ⟨b', blk', hb', ho', hg⟩
  · rintro g ⟨b', blk', hb', hg⟩
    rcases push_get hb' with ⟨rfl, rfl⟩ | ⟨hlt, hb'⟩
    · rw [Map.to_same] at hg
      exact .inl (Nat.le_of_eq hg)
    · rw [Map.to_ne _ _ (by omega)] at hg
      exact .inr ⟨b', blk', hb', hg⟩

/-- What lies behind the first blocks may be forgotten. -/
theorem HRel.forget {μ : Map} {h t : Heap} {w : World} (k : HRel μ (h ++ t) w)
    (hc : ∀ (b : Nat) (blk : Blk), h[b]? = some blk → ∀ (i : Nat) (v : Value), blk.cells[i]? = some v → ∀ v', VR1 μ (h ++ t) v v' → VR1 μ h v v') : HRel μ h w := by
  have ext : ∀ (b : Nat) (blk : Blk), h[b]? = some blk → (h ++ t)[b]? = some blk := fun b blk hb => by rw [List.getElem?_append_left (lt_of_get hb)]; exact hb
  exact ⟨fun b blk hb i v hv => by
      obtain ⟨v', h1, h2⟩ := k.cell b blk (ext b blk hb) i v hv
      exact ⟨v', h1, hc b blk hb i v hv v' h2⟩,
    fun b blk hb => k.pos b blk (ext b blk hb), fun b blk hb => k.lt b blk (ext b blk hb), fun b blk hb ho => k.own b blk (ext b blk hb) ho, fun b b' blk blk' h1 h2 h3 h4 => k.sep b b' blk blk' (ext _ _ h1) (ext _ _ h2) h3 h4⟩

end Go.Proofs.Ytlndlccbecnjoaa.Ab
