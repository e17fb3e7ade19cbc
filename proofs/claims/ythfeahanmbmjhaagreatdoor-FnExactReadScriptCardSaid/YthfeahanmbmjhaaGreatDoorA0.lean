/- An abstract memory, a small language over it, and its reading of loaded functions. No conditions. -/
import Derived.Calls
import Derived.Orders
import Derived.Below
import Derived.LoopN
import Derived.Laws.AppendOwn
import Derived.Laws.Cells
import Derived.Laws.CopyRow
import Derived.Laws.BytesArg
set_option linter.unusedSimpArgs false
set_option linter.unusedVariables false
set_option linter.unnecessarySimpa false
set_option maxHeartbeats 4000000
/- An abstract memory for the walks: lists of blocks in place of the machine's heap, and what it means that a machine's world shows such a memory. No conditions. -/
namespace Go.Proofs.YthfeahanmbmjhaaGreatDoor.Ab
/-- A block of the abstract memory: its cells, the cells of an element, the element's type, whether the program may write it. -/
structure Blk where
  cells : List Value
  sz : Nat
  ty : TypeId
  own : Bool
abbrev Heap := List Blk
/-- Where a block lies in the machine's heap: block, first cell, cells of the whole block. -/
structure Loc where
  g : Nat
  o : Nat
  c : Nat
abbrev Map := Nat → Loc
def prim : Value → Bool
  | .bool _ | .int _ _ | .string _ | .slice none 0 0 | .pointer none | .nilFunc | .nilIface => true
  | _ => false
/-- Pointwise. -/
def All2 {α β : Type} (R : α → β → Prop) (xs : List α) (ys : List β) : Prop := xs.length = ys.length ∧ ∀ (i : Nat) (x : α) (y : β), xs[i]? = some x → ys[i]? = some y → R x y
theorem All2.nil {α β : Type} {R : α → β → Prop} : All2 R [] [] := ⟨rfl, fun i x y h => by simp at h⟩
theorem All2.cons {α β : Type} {R : α → β → Prop} {x : α} {y : β} {xs : List α} {ys : List β} (h : R x y) (t : All2 R xs ys) : All2 R (x :: xs) (y :: ys) := by
  refine ⟨by simp [t.1], fun i a b ha hb => ?_⟩
  cases i with
  | zero => simp at ha hb; subst ha; subst hb; exact h
  | succ i => simp at ha hb; exact t.2 i a b ha hb
theorem All2.get {α β : Type} {R : α → β → Prop} {xs : List α} {ys : List β} (h : All2 R xs ys) {i : Nat} {x : α} (hx : xs[i]? = some x) : ∃ y, ys[i]? = some y ∧ R x y := by
  obtain ⟨hi, _⟩ := List.getElem?_eq_some_iff.1 hx
  have hi' : i < ys.length := by rw [← h.1]; exact hi
  exact ⟨ys[i], List.getElem?_eq_getElem hi', h.2 i x _ hx (List.getElem?_eq_getElem hi')⟩
theorem All2.imp {α β : Type} {R S : α → β → Prop} {xs : List α} {ys : List β} (h : All2 R xs ys) (k : ∀ x y, R x y → S x y) : All2 S xs ys := ⟨h.1, fun i x y hx hy => k _ _ (h.2 i x y hx hy)⟩
theorem All2.append {α β : Type} {R : α → β → Prop} {xs xs' : List α} {ys ys' : List β} (h : All2 R xs ys) (k : All2 R xs' ys') : All2 R (xs ++ xs') (ys ++ ys') := by
  refine ⟨by simp [h.1, k.1], fun i x y hx hy => ?_⟩
  by_cases hi : i < xs.length
  · rw [List.getElem?_append_left hi] at hx
    rw [List.getElem?_append_left (by rw [← h.1]; exact hi)] at hy
    exact h.2 i x y hx hy
  · rw [List.getElem?_append_right (by omega)] at hx
    rw [List.getElem?_append_right (by rw [← h.1]; omega)] at hy
    exact k.2 (i - xs.length) x y hx (by rw [h.1]; exact hy)
theorem All2.set {α β : Type} {R : α → β → Prop} {xs : List α} {ys : List β} (h : All2 R xs ys) (j : Nat) {x : α} {y : β} (hxy : R x y) : All2 R (xs.set j x) (ys.set j y) := by
  refine ⟨by simp [h.1], fun i a b ha hb => ?_⟩
  rw [List.getElem?_set] at ha hb
  by_cases e : j = i
  · subst e
    simp only [if_true] at ha hb
    split at ha
    · split at hb
      · cases ha; cases hb; exact hxy
      · cases hb
    · cases ha
  · rw [if_neg e] at ha hb
    exact h.2 i a b ha hb
theorem All2.take {α β : Type} {R : α → β → Prop} {xs : List α} {ys : List β} (h : All2 R xs ys) (n : Nat) : All2 R (xs.take n) (ys.take n) := by
  refine ⟨by simp [h.1], fun i a b ha hb => ?_⟩
  rw [List.getElem?_take] at ha hb
  split at ha
  · rename_i hi; rw [if_pos hi] at hb; exact h.2 i a b ha hb
  · cases ha
theorem All2.drop {α β : Type} {R : α → β → Prop} {xs : List α} {ys : List β} (h : All2 R xs ys) (n : Nat) : All2 R (xs.drop n) (ys.drop n) := by
  refine ⟨by simp [h.1], fun i a b ha hb => ?_⟩
  rw [List.getElem?_drop] at ha hb
  exact h.2 _ a b ha hb
/-- What a slice of a block is in the machine, where the block is as long as it was when the slice was made. -/
def SlOk (l : Loc) (blk : Blk) (off len : Nat) (v : Value) : Prop :=
  ∃ A c, v = .slice (some A) len c ∧ len ≤ c ∧ c ≤ maxLen ∧ ((len = 0 ∧ 0 < off) ∨ A = ⟨l.g, l.o + off, none⟩) ∧ (blk.own = true → off = 0 → c * blk.sz = l.c)
/-- An abstract value of one cell that bears no function, and the machine's. -/
inductive VR0 (μ : Map) (h : Heap) : Value → Value → Prop
  | prim (v : Value) (hp : prim v = true) : VR0 μ h v v
  | hollow (A : Addr) : VR0 μ h (.slice none 0 0) (.slice (some A) 0 0)
  | sl (b off len cap : Nat) (v : Value) (blk : Blk) (hb : h[b]? = some blk) (hle : len ≤ cap) (hc : off + cap * blk.sz ≤ blk.cells.length)
      (hv : off + cap * blk.sz = blk.cells.length → SlOk (μ b) blk off len v) (hw : v.oneCell' = true) : VR0 μ h (.slice (some ⟨b, off, none⟩) len cap) v
  | ptr (b off L : Nat) (v : Value) (blk : Blk) (hb : h[b]? = some blk) (hc : L ≤ blk.cells.length)
      (hv : L = blk.cells.length → v = .pointer (some ⟨(μ b).g, (μ b).o + off, none⟩)) (hw : v.oneCell' = true) : VR0 μ h (.pointer (some ⟨b, off, some L⟩)) v
/-- .. of one cell. -/
inductive VR1 (μ : Map) (h : Heap) : Value → Value → Prop
  | base (v v' : Value) (k : VR0 μ h v v') : VR1 μ h v v'
  | fn (f : Fn) (xs ys : List Value) (k : All2 (VR0 μ h) xs ys) : VR1 μ h (.func f #[] ⟨xs⟩) (.func f #[] ⟨ys⟩)
/-- .. of one cell or a row of cells. -/
inductive VRA (μ : Map) (h : Heap) : Value → Value → Prop
  | one (v v' : Value) (k : VR1 μ h v v') : VRA μ h v v'
  | agg (xs ys : List Value) (k : All2 (VR1 μ h) xs ys) : VRA μ h (.agg ⟨xs⟩) (.agg ⟨ys⟩)
/-- .. of a slot; 'undef' says nothing; '.map none' says that nothing was laid there. -/
inductive VR (μ : Map) (h : Heap) : Value → Value → Prop
  | dead (v : Value) : VR μ h undef v
  | gone : VR μ h (.map none) undef
  | val (v v' : Value) (k : VRA μ h v v') : VR μ h v v'
  | tup (xs ys : List Value) (k : All2 (VRA μ h) xs ys) : VR μ h (.tuple ⟨xs⟩) (.tuple ⟨ys⟩)
theorem VR0.oneCell {μ : Map} {h : Heap} {v v' : Value} (k : VR0 μ h v v') : v'.oneCell' = true := by
  cases k with
  | prim _ hp => cases v <;> first | rfl | (simp [Ab.prim] at hp)
  | hollow => rfl
  | sl _ _ _ _ _ _ _ _ _ _ hw => exact hw
  | ptr _ _ _ _ _ _ _ _ hw => exact hw
theorem VR1.oneCell {μ : Map} {h : Heap} {v v' : Value} (k : VR1 μ h v v') : v'.oneCell' = true := by
  cases k with
  | base _ _ k => exact k.oneCell
  | fn => rfl
/-- The memory has grown, or has been written: what was there is there, longer perhaps. -/
def Up (μ : Map) (h : Heap) (μ' : Map) (h' : Heap) : Prop :=
  ∀ (b : Nat) (blk : Blk), h[b]? = some blk → ∃ blk', h'[b]? = some blk' ∧ blk'.sz = blk.sz ∧ blk'.own = blk.own ∧ blk'.ty = blk.ty ∧ blk.cells.length ≤ blk'.cells.length ∧
    (blk'.cells.length = blk.cells.length → μ' b = μ b)
theorem Up.refl (μ : Map) (h : Heap) : Up μ h μ h := fun _ blk hb => ⟨blk, hb, rfl, rfl, rfl, Nat.le_refl _, fun _ => rfl⟩
theorem Up.trans {μ μ' μ'' : Map} {h h' h'' : Heap} (a : Up μ h μ' h') (c : Up μ' h' μ'' h'') : Up μ h μ'' h'' := by
  intro b blk hb
  obtain ⟨b1, e1, s1, o1, t1, l1, m1⟩ := a b blk hb
  obtain ⟨b2, e2, s2, o2, t2, l2, m2⟩ := c b b1 e1
  exact ⟨b2, e2, s2.trans s1, o2.trans o1, t2.trans t1, Nat.le_trans l1 l2, fun e => (m2 (by omega)).trans (m1 (by omega))⟩
theorem VR0.up {μ μ' : Map} {h h' : Heap} (u : Up μ h μ' h') {v v' : Value} (k : VR0 μ h v v') : VR0 μ' h' v v' := by
  cases k with
  | prim _ hp => exact .prim _ hp
  | hollow A => exact .hollow A
  | sl b off len cap _ blk hb hle hc hv hw =>
    obtain ⟨b1, e1, s1, o1, t1, l1, m1⟩ := u b blk hb
    refine .sl b off len cap _ b1 e1 hle (by rw [s1]; omega) (fun e => ?_) hw
    rw [s1] at e
    have := hv (by omega)
    rw [m1 (by omega)]
    obtain ⟨A, c, h1, h2, h3, h4, h5⟩ := this
    exact ⟨A, c, h1, h2, h3, h4, fun ho hz => by rw [s1]; exact h5 (by rw [← o1]; exact ho) hz⟩
  | ptr b off L _ blk hb hc hv hw =>
    obtain ⟨b1, e1, s1, o1, t1, l1, m1⟩ := u b blk hb
    exact .ptr b off L _ b1 e1 (by omega) (fun e => by rw [m1 (by omega)]; exact hv (by omega)) hw
theorem VR1.up {μ μ' : Map} {h h' : Heap} (u : Up μ h μ' h') {v v' : Value} (k : VR1 μ h v v') : VR1 μ' h' v v' := by
  cases k with
  | base _ _ k => exact .base _ _ (k.up u)
  | fn f xs ys k => exact .fn f xs ys (k.imp fun _ _ q => q.up u)
theorem VRA.up {μ μ' : Map} {h h' : Heap} (u : Up μ h μ' h') {v v' : Value} (k : VRA μ h v v') : VRA μ' h' v v' := by
  cases k with
  | one _ _ k => exact .one _ _ (k.up u)
  | agg xs ys k => exact .agg xs ys (k.imp fun _ _ q => q.up u)
theorem VR.up {μ μ' : Map} {h h' : Heap} (u : Up μ h μ' h') {v v' : Value} (k : VR μ h v v') : VR μ' h' v v' := by
  cases k with
  | dead => exact .dead _
  | gone => exact .gone
  | val _ _ k => exact .val _ _ (k.up u)
  | tup xs ys k => exact .tup xs ys (k.imp fun _ _ q => q.up u)
/-- The world shows the memory. -/
structure HRel (μ : Map) (h : Heap) (w : World) : Prop where
  cell : ∀ (b : Nat) (blk : Blk), h[b]? = some blk → ∀ (i : Nat) (v : Value), blk.cells[i]? = some v → ∃ v', w.cell? ⟨(μ b).g, (μ b).o + i, none⟩ = some v' ∧ VR1 μ h v v'
  pos : ∀ (b : Nat) (blk : Blk), h[b]? = some blk → 0 < blk.sz
  lt : ∀ (b : Nat) (blk : Blk), h[b]? = some blk → (μ b).g < w.heap.size
  own : ∀ (b : Nat) (blk : Blk), h[b]? = some blk → blk.own = true → (μ b).o = 0 ∧ ∃ cur, w.heap[(μ b).g]? = some (.cells cur blk.ty (0, 0)) ∧ cur.size = (μ b).c ∧ blk.cells.length ≤ cur.size
  sep : ∀ (b b' : Nat) (blk blk' : Blk), h[b]? = some blk → h[b']? = some blk' → blk.own = true → b ≠ b' → (μ b').g ≠ (μ b).g
/-- 'g' is a block of the machine that the memory's owner may write. -/
def Mine (μ : Map) (h : Heap) (g : Nat) : Prop := ∃ b blk, h[b]? = some blk ∧ blk.own = true ∧ (μ b).g = g
/-- From one world to the next: outside of what is mine nothing that was there has turned. -/
structure Frame1 (μ : Map) (h : Heap) (w w' : World) : Prop where
  os : w'.os = w.os
  tape : w'.tape = w.tape
  output : w'.output = w.output
  size : w.heap.size ≤ w'.heap.size
  block : ∀ k, k < w.heap.size → ¬ Mine μ h k → w'.heap[k]? = w.heap[k]?
/-- What is mine then is new, or was mine. -/
def Keeps (μ : Map) (h : Heap) (w : World) (μ' : Map) (h' : Heap) : Prop := ∀ g, Mine μ' h' g → w.heap.size ≤ g ∨ Mine μ h g
/-- The machine's block lies behind a block of the memory. -/
def In (μ : Map) (h : Heap) (g : Nat) : Prop := ∃ b blk, h[b]? = some blk ∧ (μ b).g = g
/-- A step from one memory to the next, in a world. -/
structure To (μ : Map) (h : Heap) (w : World) (μ' : Map) (h' : Heap) (w' : World) : Prop where
  up : Up μ h μ' h'
  frame : Frame1 μ h w w'
  keeps : Keeps μ h w μ' h'
  ins : ∀ g, In μ' h' g → w.heap.size ≤ g ∨ In μ h g
theorem Frame1.refl (μ : Map) (h : Heap) (w : World) : Frame1 μ h w w := ⟨rfl, rfl, rfl, Nat.le_refl _, fun _ _ _ => rfl⟩
theorem To.refl (μ : Map) (h : Heap) (w : World) : To μ h w μ h w := ⟨Up.refl _ _, Frame1.refl _ _ _, fun _ k => .inr k, fun _ k => .inr k⟩
theorem To.trans {μ μ' μ'' : Map} {h h' h'' : Heap} {w w' w'' : World} (a : To μ h w μ' h' w') (c : To μ' h' w' μ'' h'' w'') : To μ h w μ'' h'' w'' := by
  refine ⟨a.up.trans c.up, ⟨c.frame.os.trans a.frame.os, c.frame.tape.trans a.frame.tape, c.frame.output.trans a.frame.output, Nat.le_trans a.frame.size c.frame.size, fun k hk hm => ?_⟩, fun g hg => ?_, fun g hg => ?_⟩
  · rw [c.frame.block k (Nat.lt_of_lt_of_le hk a.frame.size) (fun hm' => ?_), a.frame.block k hk hm]
    rcases a.keeps k hm' with h1 | h1
    · omega
    · exact hm h1
  · rcases c.keeps g hg with h1 | h1
    · exact .inl (Nat.le_trans a.frame.size h1)
    · exact a.keeps g h1
  · rcases c.ins g hg with h1 | h1
    · exact .inl (Nat.le_trans a.frame.size h1)
    · exact a.ins g h1
theorem To.drew (μ : Map) (h : Heap) (w : World) : To μ h w μ h w.drew := ⟨Up.refl _ _, ⟨rfl, rfl, rfl, Nat.le_refl _, fun _ _ _ => rfl⟩, fun _ k => .inr k, fun _ k => .inr k⟩
theorem HRel.drew {μ : Map} {h : Heap} {w : World} (k : HRel μ h w) : HRel μ h w.drew := ⟨k.cell, k.pos, k.lt, k.own, k.sep⟩
theorem HRel.count {μ : Map} {h : Heap} {w : World} (k : HRel μ h w) (n : Nat) : HRel μ h { w with drawn := n } := ⟨k.cell, k.pos, k.lt, k.own, k.sep⟩
theorem To.count (μ : Map) (h : Heap) (w : World) (n : Nat) : To μ h w μ h { w with drawn := n } := ⟨Up.refl _ _, ⟨rfl, rfl, rfl, Nat.le_refl _, fun _ _ _ => rfl⟩, fun _ k => .inr k, fun _ k => .inr k⟩
end Go.Proofs.YthfeahanmbmjhaaGreatDoor.Ab
/- The abstract memory's three turns (a block is written, is made, grows into a new place), and that the machine's world shows the turned memory. No conditions. -/
namespace Go.Proofs.YthfeahanmbmjhaaGreatDoor.Ab
theorem cell_of_row {w : World} {g j : Nat} {cur : Array Value} {e : TypeId} {fr : Nat × Nat} (h : w.heap[g]? = some (.cells cur e fr)) : w.cell? ⟨g, j, none⟩ = cur[j]? := by simp [World.cell?, h]
theorem cell_of_same {w w' : World} {g j : Nat} (h : w'.heap[g]? = w.heap[g]?) : w'.cell? ⟨g, j, none⟩ = w.cell? ⟨g, j, none⟩ := by simp [World.cell?, h]
theorem set_get {h : Heap} {b b' : Nat} {x blk : Blk} (hb : (h.set b x)[b']? = some blk) : (b' = b ∧ blk = x ∧ b < h.length) ∨ (b' ≠ b ∧ h[b']? = some blk) := by
  rw [List.getElem?_set] at hb
  by_cases e : b = b'
  · subst e
    simp only [if_true] at hb
    split at hb
    · cases hb; exact .inl ⟨rfl, rfl, by assumption⟩
    · cases hb
  · rw [if_neg e] at hb; exact .inr ⟨fun h => e h.symm, hb⟩
theorem lt_of_get {h : Heap} {b : Nat} {blk : Blk} (hb : h[b]? = some blk) : b < h.length := (List.getElem?_eq_some_iff.1 hb).1
/-- A block is written, or grows where it lies. -/
theorem HRel.put {μ : Map} {h : Heap} {w w' : World} (k : HRel μ h w) {b : Nat} {blk : Blk} (hb : h[b]? = some blk) (ho : blk.own = true) {cells : List Value} {new : Array Value}
    (hsz : new.size = (μ b).c) (hle : cells.length ≤ new.size) (hge : blk.cells.length ≤ cells.length)
    (hc : ∀ (i : Nat) (v : Value), cells[i]? = some v → ∃ v', new[i]? = some v' ∧ VR1 μ h v v')
    (hw : w'.heap[(μ b).g]? = some (.cells new blk.ty (0, 0))) (hr : ∀ j, j ≠ (μ b).g → w'.heap[j]? = w.heap[j]?) (hs : w'.heap.size = w.heap.size) (os : w'.os = w.os) (tape : w'.tape = w.tape) (out : w'.output = w.output) :
    HRel μ (h.set b { blk with cells := cells }) w' ∧ To μ h w μ (h.set b { blk with cells := cells }) w' := by
  have hbl := lt_of_get hb
  have up : Up μ h μ (h.set b { blk with cells := cells }) := by
    intro b' blk' hb'
    by_cases e : b' = b
    · subst e
      rw [hb] at hb'; cases hb'
      exact ⟨{ blk with cells := cells }, by rw [List.getElem?_set_self hbl], rfl, rfl, rfl, hge, fun _ => rfl⟩
    · exact ⟨blk', by rw [List.getElem?_set_ne (fun h => e h.symm)]; exact hb', rfl, rfl, rfl, Nat.le_refl _, fun _ => rfl⟩
  refine ⟨⟨fun b' blk' hb' i v hv => ?_, fun b' blk' hb' => ?_, fun b' blk' hb' => ?_, fun b' blk' hb' ho' => ?_, fun b1 b2 blk1 blk2 h1 h2 h3 h4 => ?_⟩, up, ⟨os, tape, out, by omega, fun j _ hm => hr j (fun e => hm ⟨b, blk, hb, ho, e.symm⟩)⟩, ?_, ?_⟩
  · rcases set_get hb' with ⟨rfl, rfl, _⟩ | ⟨hne, hb'⟩
    · obtain ⟨v', h1, h2⟩ := hc i v hv
      refine ⟨v', ?_, h2.up up⟩
      rw [(k.own _ _ hb ho).1, Nat.zero_add, cell_of_row hw]; exact h1
    · obtain ⟨v', h1, h2⟩ := k.cell b' blk' hb' i v hv
      exact ⟨v', by rw [cell_of_same (hr _ (k.sep b b' blk blk' hb hb' ho (fun e => hne e.symm)))]; exact h1, h2.up up⟩
  · rcases set_get hb' with ⟨rfl, rfl, _⟩ | ⟨hne, hb'⟩
    · show 0 < blk.sz; exact k.pos _ _ hb
    · exact k.pos _ _ hb'
  · rw [hs]
    rcases set_get hb' with ⟨rfl, rfl, _⟩ | ⟨hne, hb'⟩
    · exact k.lt _ _ hb
    · exact k.lt _ _ hb'
  · rcases set_get hb' with ⟨rfl, rfl, _⟩ | ⟨hne, hb'⟩
    · exact ⟨(k.own _ _ hb ho).1, new, hw, hsz, hle⟩
    · obtain ⟨h1, cur, h2, h3, h4⟩ := k.own _ _ hb' ho'
      exact ⟨h1, cur, by rw [hr _ (k.sep b b' blk blk' hb hb' ho (fun e => hne e.symm))]; exact h2, h3, h4⟩
  · rcases set_get h1 with ⟨rfl, rfl, _⟩ | ⟨hne, g1⟩
    · rcases set_get h2 with ⟨rfl, rfl, _⟩ | ⟨hne', h2⟩
      · exact absurd rfl h4
      · exact k.sep _ _ _ _ hb h2 ho h4
    · rcases set_get h2 with ⟨rfl, rfl, _⟩ | ⟨hne', h2⟩
      · exact k.sep _ _ _ _ g1 hb h3 h4
      · exact k.sep _ _ _ _ g1 h2 h3 h4
  · rintro g ⟨b', blk', hb', ho', hg⟩
    rcases set_get hb' with ⟨rfl, rfl, _⟩ | ⟨hne, hb'⟩
    · exact .inr ⟨_, blk, hb, ho, hg⟩
    · exact .inr ⟨b', blk', hb', ho', hg⟩
  · rintro g ⟨b', blk', hb', hg⟩
    rcases set_get hb' with ⟨rfl, rfl, _⟩ | ⟨hne, hb'⟩
    · exact .inr ⟨_, blk, hb, hg⟩
    · exact .inr ⟨b', blk', hb', hg⟩
/-- The map with one place turned. -/
def Map.to (μ : Map) (b : Nat) (l : Loc) : Map := fun b' => if b' = b then l else μ b'
theorem Map.to_same (μ : Map) (b : Nat) (l : Loc) : μ.to b l b = l := by simp [Map.to]
theorem Map.to_ne (μ : Map) {b b' : Nat} (l : Loc) (h : b' ≠ b) : μ.to b l b' = μ b' := by simp [Map.to, h]
/-- A block grows into a new place. -/
theorem HRel.move {μ : Map} {h : Heap} {w w' : World} (k : HRel μ h w) {b : Nat} {blk : Blk} (hb : h[b]? = some blk) (ho : blk.own = true) {cells : List Value} {new : Array Value}
    (hle : cells.length ≤ new.size) (hge : blk.cells.length < cells.length)
    (hc : ∀ (i : Nat) (v : Value), cells[i]? = some v → ∃ v', new[i]? = some v' ∧ VR1 μ h v v')
    (hw : w'.heap[w.heap.size]? = some (.cells new blk.ty (0, 0))) (hr : ∀ j, j < w.heap.size → w'.heap[j]? = w.heap[j]?) (hs : w'.heap.size = w.heap.size + 1) (os : w'.os = w.os) (tape : w'.tape = w.tape) (out : w'.output = w.output) :
    HRel (μ.to b ⟨w.heap.size, 0, new.size⟩) (h.set b { blk with cells := cells }) w' ∧ To μ h w (μ.to b ⟨w.heap.size, 0, new.size⟩) (h.set b { blk with cells := cells }) w' := by
  have hbl := lt_of_get hb
  have up : Up μ h (μ.to b ⟨w.heap.size, 0, new.size⟩) (h.set b { blk with cells := cells }) := by
    intro b' blk' hb'
    by_cases e : b' = b
    · subst e
      rw [hb] at hb'; cases hb'
      exact ⟨{ blk with cells := cells }, by rw [List.getElem?_set_self hbl], rfl, rfl, rfl, Nat.le_of_lt hge, fun e => by simp only at e; omega⟩
    · exact ⟨blk', by rw [List.getElem?_set_ne (fun h => e h.symm)]; exact hb', rfl, rfl, rfl, Nat.le_refl _, fun _ => Map.to_ne _ _ e⟩
  refine ⟨⟨fun b' blk' hb' i v hv => ?_, fun b' blk' hb' => ?_, fun b' blk' hb' => ?_, fun b' blk' hb' ho' => ?_, fun b1 b2 blk1 blk2 h1 h2 h3 h4 => ?_⟩, up, ⟨os, tape, out, by omega, fun j hj _ => hr j hj⟩, ?_, ?_⟩
  · rcases set_get hb' with ⟨rfl, rfl, _⟩ | ⟨hne, hb'⟩
    · obtain ⟨v', h1, h2⟩ := hc i v hv
      refine ⟨v', ?_, h2.up up⟩
      rw [Map.to_same, Nat.zero_add, cell_of_row hw]; exact h1
    · obtain ⟨v', h1, h2⟩ := k.cell b' blk' hb' i v hv
      exact ⟨v', by rw [Map.to_ne _ _ hne, cell_of_same (hr _ (k.lt _ _ hb'))]; exact h1, h2.up up⟩
  · rcases set_get hb' with ⟨rfl, rfl, _⟩ | ⟨hne, hb'⟩
    · show 0 < blk.sz; exact k.pos _ _ hb
    · exact k.pos _ _ hb'
  · rw [hs]
    rcases set_get hb' with ⟨rfl, rfl, _⟩ | ⟨hne, hb'⟩
    · rw [Map.to_same]; exact Nat.lt_succ_self _
    · rw [Map.to_ne _ _ hne]; exact Nat.lt_succ_of_lt (k.lt _ _ hb')
  · rcases set_get hb' with ⟨rfl, rfl, _⟩ | ⟨hne, hb'⟩
    · rw [Map.to_same]; exact ⟨rfl, new, hw, rfl, hle⟩
    · rw [Map.to_ne _ _ hne]
      obtain ⟨h1, cur, h2, h3, h4⟩ := k.own _ _ hb' ho'
      exact ⟨h1, cur, by rw [hr _ (k.lt _ _ hb')]; exact h2, h3, h4⟩
  · rcases set_get h1 with ⟨rfl, rfl, _⟩ | ⟨hne, g1⟩
    · rcases set_get h2 with ⟨rfl, rfl, _⟩ | ⟨hne', h2⟩
      · exact absurd rfl h4
      · rw [Map.to_same, Map.to_ne _ _ hne']
        have := k.lt _ _ h2
        show (μ b2).g ≠ w.heap.size
        omega
    · rcases set_get h2 with ⟨rfl, rfl, _⟩ | ⟨hne', h2⟩
      · rw [Map.to_same, Map.to_ne _ _ hne]
        have := k.lt _ _ g1
        show w.heap.size ≠ (μ b1).g
        omega
      · rw [Map.to_ne _ _ hne, Map.to_ne _ _ hne']; exact k.sep _ _ _ _ g1 h2 h3 h4
  · rintro g ⟨b', blk', hb', ho', hg⟩
    rcases set_get hb' with ⟨rfl, rfl, _⟩ | ⟨hne, hb'⟩
    · rw [Map.to_same] at hg
      exact .inl (Nat.le_of_eq hg)
    · rw [Map.to_ne _ _ hne] at hg
      exact .inr ⟨b', blk', hb', ho', hg⟩
  · rintro g ⟨b', blk', hb', hg⟩
    rcases set_get hb' with ⟨rfl, rfl, _⟩ | ⟨hne, hb'⟩
    · rw [Map.to_same] at hg
      exact .inl (Nat.le_of_eq hg)
    · rw [Map.to_ne _ _ hne] at hg
      exact .inr ⟨b', blk', hb', hg⟩
theorem push_get {h : Heap} {b : Nat} {x blk : Blk} (hb : (h ++ [x])[b]? = some blk) : (b = h.length ∧ blk = x) ∨ (b < h.length ∧ h[b]? = some blk) := by
  by_cases e : b < h.length
  · rw [List.getElem?_append_left e] at hb; exact .inr ⟨e, hb⟩
  · rw [List.getElem?_append_right (by omega)] at hb
    cases hn : b - h.length with
    | zero => rw [hn] at hb; simp at hb; exact .inl ⟨by omega, hb.symm⟩
    | succ n => rw [hn] at hb; simp at hb
theorem Up.push (μ : Map) (h : Heap) (l : Loc) (x : Blk) : Up μ h (μ.to h.length l) (h ++ [x]) := by
  intro b' blk' hb'
  have := lt_of_get hb'
  exact ⟨blk', by rw [List.getElem?_append_left this]; exact hb', rfl, rfl, rfl, Nat.le_refl _, fun _ => Map.to_ne _ _ (by omega)⟩
/-- A block is made. -/
theorem HRel.push {μ : Map} {h : Heap} {w w' : World} (k : HRel μ h w) {blk : Blk} {new : Array Value} (ho : blk.own = true) (hp : 0 < blk.sz) (hle : blk.cells.length ≤ new.size)
    (hc : ∀ (i : Nat) (v : Value), blk.cells[i]? = some v → ∃ v', new[i]? = some v' ∧ VR1 μ h v v')
    (hw : w'.heap[w.heap.size]? = some (.cells new blk.ty (0, 0))) (hr : ∀ j, j < w.heap.size → w'.heap[j]? = w.heap[j]?) (hs : w'.heap.size = w.heap.size + 1) (os : w'.os = w.os) (tape : w'.tape = w.tape) (out : w'.output = w.output) :
    HRel (μ.to h.length ⟨w.heap.size, 0, new.size⟩) (h ++ [blk]) w' ∧ To μ h w (μ.to h.length ⟨w.heap.size, 0, new.size⟩) (h ++ [blk]) w' := by
  have up := Up.push μ h ⟨w.heap.size, 0, new.size⟩ blk
  refine ⟨⟨fun b' blk' hb' i v hv => ?_, fun b' blk' hb' => ?_, fun b' blk' hb' => ?_, fun b' blk' hb' ho' => ?_, fun b1 b2 blk1 blk2 h1 h2 h3 h4 => ?_⟩, up, ⟨os, tape, out, by omega, fun j hj _ => hr j hj⟩, ?_, ?_⟩
  · rcases push_get hb' with ⟨rfl, rfl⟩ | ⟨hlt, hb'⟩
    · obtain ⟨v', h1, h2⟩ := hc i v hv
      refine ⟨v', ?_, h2.up up⟩
      rw [Map.to_same, Nat.zero_add, cell_of_row hw]; exact h1
    · obtain ⟨v', h1, h2⟩ := k.cell b' blk' hb' i v hv
      exact ⟨v', by rw [Map.to_ne _ _ (by omega), cell_of_same (hr _ (k.lt _ _ hb'))]; exact h1, h2.up up⟩
  · rcases push_get hb' with ⟨rfl, rfl⟩ | ⟨hlt, hb'⟩
    · exact hp
    · exact k.pos _ _ hb'
  · rw [hs]
    rcases push_get hb' with ⟨rfl, rfl⟩ | ⟨hlt, hb'⟩
    · rw [Map.to_same]; exact Nat.lt_succ_self _
    · rw [Map.to_ne _ _ (by omega)]; exact Nat.lt_succ_of_lt (k.lt _ _ hb')
  · rcases push_get hb' with ⟨rfl, rfl⟩ | ⟨hlt, hb'⟩
    · rw [Map.to_same]; exact ⟨rfl, new, hw, rfl, hle⟩
    · rw [Map.to_ne _ _ (by omega)]
      obtain ⟨h1, cur, h2, h3, h4⟩ := k.own _ _ hb' ho'
      exact ⟨h1, cur, by rw [hr _ (k.lt _ _ hb')]; exact h2, h3, h4⟩
  · rcases push_get h1 with ⟨rfl, rfl⟩ | ⟨hlt, g1⟩
    · rcases push_get h2 with ⟨rfl, rfl⟩ | ⟨hlt', h2⟩
      · exact absurd rfl h4
      · rw [Map.to_same, Map.to_ne _ _ (by omega)]
        have := k.lt _ _ h2
        show (μ b2).g ≠ w.heap.size
        omega
    · rcases push_get h2 with ⟨rfl, rfl⟩ | ⟨hlt', h2⟩
      · rw [Map.to_same, Map.to_ne _ _ (by omega)]
        have := k.lt _ _ g1
        show w.heap.size ≠ (μ b1).g
        omega
      · rw [Map.to_ne _ _ (by omega), Map.to_ne _ _ (by omega)]; exact k.sep _ _ _ _ g1 h2 h3 h4
  · rintro g ⟨b', blk', hb', ho', hg⟩
    rcases push_get hb' with ⟨rfl, rfl⟩ | ⟨hlt, hb'⟩
    · rw [Map.to_same] at hg
      exact .inl (Nat.le_of_eq hg)
    · rw [Map.to_ne _ _ (by omega)] at hg
      exact .inr ⟨b', blk', hb', ho', hg⟩
  · rintro g ⟨b', blk', hb', hg⟩
    rcases push_get hb' with ⟨rfl, rfl⟩ | ⟨hlt, hb'⟩
    · rw [Map.to_same] at hg
      exact .inl (Nat.le_of_eq hg)
    · rw [Map.to_ne _ _ (by omega)] at hg
      exact .inr ⟨b', blk', hb', hg⟩
/-- What lies behind the first blocks may be forgotten. -/
theorem HRel.forget {μ : Map} {h t : Heap} {w : World} (k : HRel μ (h ++ t) w)
    (hc : ∀ (b : Nat) (blk : Blk), h[b]? = some blk → ∀ (i : Nat) (v : Value), blk.cells[i]? = some v → ∀ v', VR1 μ (h ++ t) v v' → VR1 μ h v v') : HRel μ h w := by
  have ext : ∀ (b : Nat) (blk : Blk), h[b]? = some blk → (h ++ t)[b]? = some blk := fun b blk hb => by rw [List.getElem?_append_left (lt_of_get hb)]; exact hb
  exact ⟨fun b blk hb i v hv => by
      obtain ⟨v', h1, h2⟩ := k.cell b blk (ext b blk hb) i v hv
      exact ⟨v', h1, hc b blk hb i v hv v' h2⟩,
    fun b blk hb => k.pos b blk (ext b blk hb), fun b blk hb => k.lt b blk (ext b blk hb), fun b blk hb ho => k.own b blk (ext b blk hb) ho, fun b b' blk blk' h1 h2 h3 h4 => k.sep b b' blk blk' (ext _ _ h1) (ext _ _ h2) h3 h4⟩
end Go.Proofs.YthfeahanmbmjhaaGreatDoor.Ab
/- The small language into which a function's operations are read, and its run over the abstract memory: no order is open, no capacity is drawn. No conditions. -/
namespace Go.Proofs.YthfeahanmbmjhaaGreatDoor.Ab
/-- Operands: a slot, a constant. -/
inductive Opd where
  | t (n : Nat)
  | c (v : Value)
inductive MI where
  | mov (x : Opd)
  | pick (c a b : Opd)
  | bin (op : BinOp) (x y : Opd)
  | binB (op : BinOp) (x y : Opd)
  | eqS (ks : List Nat) (neg : Bool) (x y : Opd)
  | un (op : UnOp) (x : Opd)
  | conv (k : IntKind) (x : Opd)
  | str (x : Opd)
  | ld (n : Nat) (agg : Bool) (x : Opd)
  | fa (off : Nat) (x : Opd)
  | ia (sz : Nat) (x i : Opd)
  | ix (x i : Opd)
  | fl (off n : Nat) (agg : Bool) (x : Opd)
  | slS (x : Opd) (lo hi : Option Opd)
  | slL (sz : Nat) (x : Opd) (lo hi : Option Opd)
  | ln (x : Opd)
  | lnS (x : Opd)
  | app (sz : Nat) (ty : TypeId) (bytes : Nat) (s x : Opd)
  | lit (n sz : Nat) (ty : TypeId) (zero : List Value) (parts : List (Nat × Opd))
  | bld (zero : List Value) (parts : List (Nat × Nat × Opd))
  | mk (sz : Nat) (ty : TypeId) (bytes : Nat) (zero : List Value) (n : Opd)
  | nw (ty : TypeId) (cells : List Value)
  | bx (ty : TypeId) (n : Nat) (x : Opd)
  | ext (i : Nat) (x : Opd)
  | chk (x : Opd)
  | mm (isMax : Bool) (x y : Opd)
  | fn (f : Fn) (caps : List Opd)
  -- a box of the call's own, known by its slot; an alias, a slot that points into it
  | newL (cells : List Value)
  | boxL (n : Nat) (x : Opd)
  | faB (off : Nat) (d : Nat)
  | faE (off : Nat) (d e : Nat)
  | ldB (n : Nat) (agg : Bool) (d : Nat)
  | ldE (n : Nat) (agg : Bool) (d e : Nat)
  | stB (n : Nat) (d : Nat) (v : Opd)
  | stE (n : Nat) (d e : Nat) (v : Opd)
  -- a literal list of the call's own, known by its slot, that is appended or turned into a text
  | litL (n sz : Nat) (zero : List Value) (parts : List (Nat × Opd))
  | appL (sz : Nat) (ty : TypeId) (bytes n : Nat) (s : Opd) (e : Nat)
  | strL (n e : Nat)
  | st (n : Nat) (x v : Opd)
  | call (f : FuncId) (args : List Opd)
  | callV (f : Opd) (args : List Opd)
  -- a call with a literal list of the call's own, laid into the memory at the call
  | callL (f : FuncId) (n sz : Nat) (ty : TypeId) (e : Nat)
structure MOp where
  dst : Option Nat
  ins : MI
  guard : Option (Nat × Bool)
/-- The slots, the own boxes, the aliases, the memory. -/
structure St where
  t : Nat → Value
  loc : Nat → Option (List Value)
  al : Nat → Option (Nat × Nat)
  h : Heap
def upd {α : Type} (f : Nat → α) (i : Nat) (v : α) : Nat → α := fun j => if j = i then v else f j
theorem upd_same {α : Type} (f : Nat → α) (i : Nat) (v : α) : upd f i v i = v := by simp [upd]
theorem upd_ne {α : Type} (f : Nat → α) {i j : Nat} (v : α) (h : j ≠ i) : upd f i v j = f j := by simp [upd, h]
/-- No slot points into the box any more. -/
def unal (al : Nat → Option (Nat × Nat)) (d : Nat) : Nat → Option (Nat × Nat) := fun e => match al e with
  | some (d', off) => if d' = d then none else some (d', off)
  | none => none
/-- The mark of an operation that was not taken. -/
def gone : Value := .map none
def St.val (s : St) : Opd → Value
  | .t n => s.t n
  | .c v => v
def St.put (s : St) (d : Option Nat) (v : Value) : St := match d with
  | some d => { s with t := upd s.t d v }
  | none => s
/-- The cells of a value. -/
def cellsOf : Value → Option (List Value)
  | .agg ⟨xs⟩ => some xs
  | .tuple _ => none
  | .map _ => none
  | v => some [v]
def ofCells (agg : Bool) (cs : List Value) : Option Value := if agg then some (.agg ⟨cs⟩) else match cs with
  | [v] => some v
  | _ => none
def ldC (h : Heap) (p : Value) (n : Nat) : Option (List Value) := match p with
  | .pointer (some ⟨b, off, some L⟩) => match h[b]? with
    | some blk => if L = blk.cells.length ∧ off + n ≤ L then some ((blk.cells.drop off).take n) else none
    | none => none
  | _ => none
def putAt (cs : List Value) (off : Nat) (vs : List Value) : List Value := cs.take off ++ vs ++ cs.drop (off + vs.length)
def stC (h : Heap) (p : Value) (vs : List Value) : Option Heap := match p with
  | .pointer (some ⟨b, off, some L⟩) => match h[b]? with
    | some blk => if L = blk.cells.length ∧ off + vs.length ≤ L ∧ blk.own = true then some (h.set b { blk with cells := putAt blk.cells off vs }) else none
    | none => none
  | _ => none
def faV (h : Heap) (p : Value) (off : Nat) : Option Value := match p with
  | .pointer (some ⟨b, o, some L⟩) => match h[b]? with
    | some blk => if L = blk.cells.length then some (.pointer (some ⟨b, o + off, some L⟩)) else none
    | none => none
  | _ => none
/-- A slice is as long as it was made: its block has not grown. -/
def iaV (h : Heap) (sz : Nat) (x i : Value) : Option Value := match x, i with
  | .slice (some ⟨b, off, none⟩) len cap, .int _ i => match h[b]? with
    | some blk => if 0 ≤ i ∧ i < len ∧ blk.sz = sz ∧ off + cap * sz = blk.cells.length then some (.pointer (some ⟨b, off + i.toNat * sz, some blk.cells.length⟩)) else none
    | none => none
  | _, _ => none
def ixV (x i : Value) : Option Value := match x, i with
  | .string s, .int _ i => if 0 ≤ i ∧ i < (s.size : Int) then some (.int .u8 (s.data.toList.getD i.toNat 0).toNat) else none
  | _, _ => none
def bnd (d : Int) : Option Value → Option Int
  | none => some d
  | some (.int _ i) => some i
  | some _ => none
def slSV (x : Value) (lo hi : Option Value) : Option Value := match x with
  | .string s => match bnd 0 lo, bnd s.size hi with
    | some l, some r => if 0 ≤ l ∧ l ≤ r ∧ r ≤ (s.size : Int) then some (.string (s.extract l.toNat r.toNat)) else none
    | _, _ => none
  | _ => none
def slLV (sz : Nat) (x : Value) (lo hi : Option Value) (h : Heap) : Option Value := match x with
  | .slice none 0 0 => match bnd 0 lo, bnd 0 hi with
    | some 0, some 0 => some x
    | _, _ => none
  | .slice (some ⟨b, off, none⟩) len cap => match h[b]? with
    | some blk => match bnd 0 lo, bnd len hi with
      | some l, some r => if 0 ≤ l ∧ l ≤ r ∧ r ≤ (len : Int) ∧ blk.sz = sz ∧ off + cap * sz = blk.cells.length then some (.slice (some ⟨b, off + l.toNat * sz, none⟩) (r - l).toNat (cap - l.toNat)) else none
      | _, _ => none
    | none => none
  | _ => none
def lnV (h : Heap) (x : Value) : Option Value := match x with
  | .slice none 0 0 => some (.int .i64 0)
  | .slice (some ⟨b, off, none⟩) n cap => match h[b]? with
    | some blk => if off + cap * blk.sz = blk.cells.length then some (.int .i64 n) else none
    | none => none
  | _ => none
/-- The cells that a slice shows. -/
def rowC (h : Heap) (sz : Nat) (x : Value) : Option (List Value) := match x with
  | .slice none 0 0 => some []
  | .slice (some ⟨b, off, none⟩) len cap => match h[b]? with
    | some blk => if blk.sz = sz ∧ off + cap * sz = blk.cells.length then some ((blk.cells.drop off).take (len * sz)) else none
    | none => none
  | _ => none
def lim : Nat := 1099511627776
def appV (h : Heap) (sz : Nat) (ty : TypeId) (s : Value) (news : List Value) (n : Nat) : Option (Value × Heap) :=
  match s with
  | .slice none 0 0 => if n = 0 then some (s, h) else if n ≤ lim then some (.slice (some ⟨h.length, 0, none⟩) n n, h ++ [⟨news, sz, ty, true⟩]) else none
  | .slice (some ⟨b, off, none⟩) len cap => match h[b]? with
    | some blk => if off + cap * blk.sz = blk.cells.length then (if n = 0 then some (s, h) else
        if off = 0 ∧ blk.sz = sz ∧ blk.ty = ty ∧ blk.own = true ∧ len = cap ∧ len + n ≤ lim then
          some (.slice (some ⟨b, 0, none⟩) (len + n) (len + n), h.set b { blk with cells := blk.cells ++ news }) else none) else none
    | none => none
  | _ => none
def bytesC (s : ByteArray) : List Value := s.data.toList.map fun b => .int .u8 (b.toNat : Int)
def isInt8 : Value → Option Int
  | .int .u8 n => some n
  | _ => none
def ints8 : List Value → Option (List Int)
  | [] => some []
  | v :: vs => match isInt8 v, ints8 vs with
    | some n, some ns => some (n :: ns)
    | _, _ => none
def strV (h : Heap) (x : Value) : Option Value := match rowC h 1 x with
  | some cs => (ints8 cs).map fun ns => .string (strOfNums ns)
  | none => none
def binV (op : BinOp) (x y : Value) : Option Value := match x, y with
  | .int k a, .int k' b => match op with
    | .shl => if b < 0 then none else some (.int k (k.wrap (a * 2 ^ min b.toNat k.bits)))
    | .shr => if b < 0 then none else some (.int k (a.fdiv (2 ^ min b.toNat k.bits)))
    | .add => if k = k' then some (.int k (k.wrap (a + b))) else none
    | .sub => if k = k' then some (.int k (k.wrap (a - b))) else none
    | .mul => if k = k' then some (.int k (k.wrap (a * b))) else none
    | .quo => if k = k' ∧ b ≠ 0 then some (.int k (k.wrap (a.tdiv b))) else none
    | .rem => if k = k' ∧ b ≠ 0 then some (.int k (a.tmod b)) else none
    | .and => if k = k' then some (.int k (k.wrap (BitVec.ofInt k.bits a &&& BitVec.ofInt k.bits b).toNat)) else none
    | .or => if k = k' then some (.int k (k.wrap (BitVec.ofInt k.bits a ||| BitVec.ofInt k.bits b).toNat)) else none
    | .xor => if k = k' then some (.int k (k.wrap (BitVec.ofInt k.bits a ^^^ BitVec.ofInt k.bits b).toNat)) else none
    | .andNot => none
    | .eql => if k = k' then some (.bool (decide (a = b))) else none
    | .neq => if k = k' then some (.bool (!decide (a = b))) else none
    | .lss => if k = k' then some (.bool (decide (a < b))) else none
    | .leq => if k = k' then some (.bool (decide (a ≤ b))) else none
    | .gtr => if k = k' then some (.bool (decide (a > b))) else none
    | .geq => if k = k' then some (.bool (decide (a ≥ b))) else none
  | .string a, .string b => match op with
    | .add => if a.size + b.size ≤ 9223372036854775807 then some (.string (a ++ b)) else none
    | .eql => some (.bool (a.toList == b.toList))
    | .neq => some (.bool (!(a.toList == b.toList)))
    | .lss => some (.bool (Op.bytesLess a.toList b.toList))
    | .leq => some (.bool (Op.bytesLess a.toList b.toList || a.toList == b.toList))
    | .gtr => some (.bool !(Op.bytesLess a.toList b.toList || a.toList == b.toList))
    | .geq => some (.bool !(Op.bytesLess a.toList b.toList))
    | _ => none
  | _, _ => none
def binBV (op : BinOp) (x y : Value) : Option Value := match x, y with
  | .bool a, .bool b => match op with
    | .eql => some (.bool (a == b))
    | .neq => some (.bool !(a == b))
    | _ => none
  | _, _ => none
def eqCell : Nat → Value → Value → Option Bool
  | 0, .int k a, .int k' b => if k = k' then some (a == b) else none
  | 1, .string a, .string b => some (a.toList == b.toList)
  | 2, .bool a, .bool b => some (a == b)
  | _, _, _ => none
def eqCells : List Nat → List Value → List Value → Option Bool
  | [], _, _ => some true
  | k :: ks, x :: xs, y :: ys => match eqCell k x y with
    | some true => eqCells ks xs ys
    | some false => some false
    | none => none
  | _, _, _ => none
def unV (op : UnOp) (x : Value) : Option Value := match op, x with
  | .not, .bool b => some (.bool !b)
  | .neg, .int k n => some (.int k (k.wrap (0 - n)))
  | _, _ => none
def fillAt (sz : Nat) (cells : List Value) : List (Nat × Value) → Option (List Value)
  | [] => some cells
  | (i, v) :: rest => match cellsOf v with
    | some vs => if vs.length = sz ∧ i * sz + sz ≤ cells.length then fillAt sz (putAt cells (i * sz) vs) rest else none
    | none => none
def fillOff (cells : List Value) : List (Nat × Nat × Value) → Option (List Value)
  | [] => some cells
  | (off, n, v) :: rest => match cellsOf v with
    | some vs => if vs.length = n ∧ off + n ≤ cells.length then fillOff (putAt cells off vs) rest else none
    | none => none
def zeros (zero : List Value) : Nat → List Value
  | 0 => []
  | n + 1 => zero ++ zeros zero n
/-- A value of one cell that bears no function. -/
def isBase : Value → Bool
  | .slice (some _) _ _ => true
  | .pointer (some _) => true
  | v => prim v
/-- The value that an instruction gives, and the memory behind it. -/
def MI.run (s : St) : MI → Option (Value × Heap)
  | .mov x => some (s.val x, s.h)
  | .pick c a b => match s.val c with
    | .bool c => some (if c = true then s.val a else s.val b, s.h)
    | _ => none
  | .bin op x y => (binV op (s.val x) (s.val y)).map fun v => (v, s.h)
  | .binB op x y => (binBV op (s.val x) (s.val y)).map fun v => (v, s.h)
  | .eqS ks neg x y => match s.val x, s.val y with
    | .agg ⟨xs⟩, .agg ⟨ys⟩ => (eqCells ks xs ys).map fun b => (.bool (if neg = true then !b else b), s.h)
    | _, _ => none
  | .un op x => (unV op (s.val x)).map fun v => (v, s.h)
  | .conv k x => match s.val x with
    | .int _ n => some (.int k (k.wrap n), s.h)
    | _ => none
  | .str x => (strV s.h (s.val x)).map fun v => (v, s.h)
  | .ld n agg x => ((ldC s.h (s.val x) n).bind (ofCells agg)).map fun v => (v, s.h)
  | .fa off x => (faV s.h (s.val x) off).map fun v => (v, s.h)
  | .ia sz x i => (iaV s.h sz (s.val x) (s.val i)).map fun v => (v, s.h)
  | .ix x i => (ixV (s.val x) (s.val i)).map fun v => (v, s.h)
  | .fl off n agg x => match s.val x with
    | .agg ⟨xs⟩ => if off + n ≤ xs.length then (ofCells agg ((xs.drop off).take n)).map fun v => (v, s.h) else none
    | _ => none
  | .slS x lo hi => (slSV (s.val x) (lo.map s.val) (hi.map s.val)).map fun v => (v, s.h)
  | .slL sz x lo hi => (slLV sz (s.val x) (lo.map s.val) (hi.map s.val) s.h).map fun v => (v, s.h)
  | .ln x => (lnV s.h (s.val x)).map fun v => (v, s.h)
  | .lnS x => match s.val x with
    | .string b => some (.int .i64 b.size, s.h)
    | _ => none
  | .app sz ty _ d x => match s.val x with
    | .slice a n c => (rowC s.h sz (.slice a n c)).bind fun cs => appV s.h sz ty (s.val d) cs n
    | _ => none
  | .lit n sz ty zero parts => (fillAt sz (zeros zero n) (parts.map fun p => (p.1, s.val p.2))).map fun cs => (.slice (some ⟨s.h.length, 0, none⟩) n n, s.h ++ [⟨cs, sz, ty, true⟩])
  | .bld zero parts => (fillOff zero (parts.map fun p => (p.1, p.2.1, s.val p.2.2))).map fun cs => (.agg ⟨cs⟩, s.h)
  | .mk sz ty _ zero n => match s.val n with
    | .int .i64 n => if 0 ≤ n ∧ n ≤ lim then some (.slice (some ⟨s.h.length, 0, none⟩) n.toNat n.toNat, s.h ++ [⟨zeros zero n.toNat, sz, ty, true⟩]) else none
    | _ => none
  | .nw ty cells => some (.pointer (some ⟨s.h.length, 0, some cells.length⟩), s.h ++ [⟨cells, cells.length, ty, true⟩])
  | .bx ty n x => match cellsOf (s.val x) with
    | some cs => if cs.length = n then some (.pointer (some ⟨s.h.length, 0, some n⟩), s.h ++ [⟨cs, n, ty, true⟩]) else none
    | none => none
  | .ext i x => match s.val x with
    | .tuple ⟨xs⟩ => xs[i]?.map fun v => (v, s.h)
    | _ => none
  | .chk x => (ldC s.h (s.val x) 0).map fun _ => (s.val x, s.h)
  | .mm isMax x y => match s.val x, s.val y with
    | .int k a, .int _ b => some (.int k (if isMax = true then (if b > a then b else a) else (if b < a then b else a)), s.h)
    | _, _ => none
  | .fn f caps => if (caps.map s.val).all isBase = true then some (.func f #[] ⟨caps.map s.val⟩, s.h) else none
  | .ldB n agg d => match s.loc d with
    | some cs => if n ≤ cs.length then (ofCells agg (cs.take n)).map fun v => (v, s.h) else none
    | none => none
  | .ldE n agg d e => match s.al e, s.loc d with
    | some (d', off), some cs => if d' = d ∧ off + n ≤ cs.length then (ofCells agg ((cs.drop off).take n)).map fun v => (v, s.h) else none
    | _, _ => none
  | .appL sz ty _ n d e => match s.loc e with
    | some cs => if cs.length = n * sz then appV s.h sz ty (s.val d) cs n else none
    | none => none
  | .strL n e => match s.loc e with
    | some cs => if cs.length = n then (ints8 cs).map fun ns => (.string (strOfNums ns), s.h) else none
    | none => none
  | _ => none
/-- One operation, its guard taken: 'call' tells what calls come to. -/
def MOp.go (call : FuncId → List Value → Heap → Option (Value × Heap)) (o : MOp) (s : St) : Option St := match o.ins with
  | .newL cells => match o.dst with
    | some d => some { s with t := upd s.t d undef, loc := upd s.loc d (some cells), al := unal s.al d }
    | none => none
  | .boxL n x => match o.dst, cellsOf (s.val x) with
    | some d, some cs => if cs.length = n then some { s with t := upd s.t d undef, loc := upd s.loc d (some cs), al := unal s.al d } else none
    | _, _ => none
  | .faB off d => match o.dst, s.loc d with
    | some e, some _ => some { s with t := upd s.t e undef, al := upd s.al e (some (d, off)) }
    | _, _ => none
  | .faE off d e => match o.dst, s.al e, s.loc d with
    | some e', some (d', off'), some _ => if d' = d then some { s with t := upd s.t e' undef, al := upd s.al e' (some (d, off' + off)) } else none
    | _, _, _ => none
  | .stB n d v => match o.dst, s.loc d, cellsOf (s.val v) with
    | none, some cs, some vs => if vs.length = n ∧ n ≤ cs.length then some { s with loc := upd s.loc d (some (putAt cs 0 vs)) } else none
    | _, _, _ => none
  | .stE n d e v => match o.dst, s.al e, cellsOf (s.val v), s.loc d with
    | none, some (d', off), some vs, some cs => if d' = d ∧ vs.length = n ∧ off + n ≤ cs.length then some { s with loc := upd s.loc d (some (putAt cs off vs)) } else none
    | _, _, _, _ => none
  | .litL n sz zero parts => match o.dst, fillAt sz (zeros zero n) (parts.map fun p => (p.1, s.val p.2)) with
    | some e, some cs => some { s with t := upd s.t e undef, loc := upd s.loc e (some cs) }
    | _, _ => none
  | .st n x v => match o.dst, cellsOf (s.val v) with
    | none, some vs => if vs.length = n then (stC s.h (s.val x) vs).map fun h => { s with h := h } else none
    | _, _ => none
  | .call f args => (call f (args.map s.val) s.h).map fun r => { s.put o.dst r.1 with h := r.2 }
  | .callV f args => match s.val f with
    | .func (.func g) ⟨[]⟩ ⟨caps⟩ => (call g (args.map s.val ++ caps) s.h).map fun r => { s.put o.dst r.1 with h := r.2 }
    | _ => none
  | .callL f n sz ty e => match s.loc e with
    | some cs => if cs.length = n * sz ∧ 0 < sz ∧ n ≤ lim then (call f [.slice (some ⟨s.h.length, 0, none⟩) n n] (s.h ++ [⟨cs, sz, ty, false⟩])).map fun r => { s.put o.dst r.1 with loc := upd s.loc e none, h := r.2 } else none
    | none => none
  | i => (i.run s).map fun r => { s.put o.dst r.1 with h := r.2 }
/-- Is it wanted? -/
def MOp.want (o : MOp) (s : St) : Option Bool := match o.guard with
  | none => some true
  | some (j, b) => match s.t j with
    | .bool c => some (c == b)
    | .map none => some false
    | _ => none
/-- Not taken: its slot says nothing. -/
def MOp.skip (o : MOp) (s : St) : St := match o.dst with
  | some d => { s with t := upd s.t d gone, loc := upd s.loc d none, al := upd s.al d none }
  | none => s
def MOp.step (call : FuncId → List Value → Heap → Option (Value × Heap)) (o : MOp) (s : St) : Option St := match o.want s with
  | some true => o.go call s
  | some false => some (o.skip s)
  | none => none
def runOps (call : FuncId → List Value → Heap → Option (Value × Heap)) : List MOp → St → Option St
  | [], s => some s
  | o :: os, s => (o.step call s).bind (runOps call os)
/-- Operations that only reckon and read: they may stand in any order. -/
def MI.reads : MI → Bool
  | .mov _ | .pick .. | .bin .. | .binB .. | .eqS .. | .un .. | .conv .. | .str _ | .ld .. | .fa .. | .ia .. | .ix .. | .fl .. | .slS .. | .slL .. | .ln _ | .lnS _ | .bld .. | .ext .. | .chk _ | .mm .. | .fn .. | .ldB .. | .ldE .. | .strL .. => true
  | _ => false
/-- .. of which these look into the memory. -/
def MI.looks : MI → Bool
  | .str _ | .ld .. | .fa .. | .ia .. | .slL .. | .ln _ | .chk _ => true
  | _ => false
/-- Operations that turn the memory. -/
def MI.makes : MI → Bool
  | .call .. | .callL .. | .app .. | .appL .. | .lit .. | .mk .. | .bx .. | .nw .. | .st .. => true
  | _ => false
/-- What a read of an open region sees. -/
def pickH (last : Bool) (h h0 : Heap) : Heap := match last with
  | true => h
  | false => h0
open Classical in
/-- One operation of a region whose order is open: reads see the memory as it was when the region began, and what turns the memory leaves all that was there as it was; or ('last') all that look into the memory and all that turn it stand in their order. -/
noncomputable def MOp.free (call : FuncId → List Value → Heap → Option (Value × Heap)) (last : Bool) (h0 : Heap) (o : MOp) (s : St) : Option St := match o.want s with
  | some true => match o.ins with
    | .faB .. | .faE .. | .stB .. | .stE .. | .litL .. | .newL _ => o.go call s
    | .call f args => (call f (args.map s.val) s.h).bind fun r => if last = true ∨ s.h <+: r.2 then some { s.put o.dst r.1 with h := r.2 } else none
    | .callL f n sz ty e => match s.loc e with
      | some cs => if cs.length = n * sz ∧ 0 < sz ∧ n ≤ lim then (call f [.slice (some ⟨s.h.length, 0, none⟩) n n] (s.h ++ [⟨cs, sz, ty, false⟩])).bind fun r => if last = true ∨ s.h <+: r.2 then some { s.put o.dst r.1 with loc := upd s.loc e none, h := r.2 } else none else none
      | none => none
    | .st .. => (o.go call s).bind fun r => if last = true ∨ h0 <+: r.h then some r else none
    | i => if i.makes = true then (i.run s).bind fun r => if last = true ∨ h0 <+: r.2 then some { s.put o.dst r.1 with h := r.2 } else none
      else if i.reads = true then (i.run { s with h := pickH last s.h h0 }).map fun r => s.put o.dst r.1 else none
  | some false => some (o.skip s)
  | none => none
noncomputable def runFree (call : FuncId → List Value → Heap → Option (Value × Heap)) (last : Bool) (h0 : Heap) : List MOp → St → Option St
  | [], s => some s
  | o :: os, s => (o.free call last h0 s).bind (runFree call last h0 os)
/-- What an operation is to a region whose looks may see more than one memory: neither, it turns the memory, it looks into it behind so many that turn it. -/
inductive Tag where
  | c
  | m
  | l (k : Nat)
open Classical in
/-- One operation of such a region: what turns the memory stands in its order; a look tells the same in each memory that it may see. -/
noncomputable def MOp.opn (call : FuncId → List Value → Heap → Option (Value × Heap)) (g : Tag) (hs : List Heap) (o : MOp) (s : St) : Option St := match g with
  | .l k => (o.free call false s.h s).bind fun s1 => if ∀ h ∈ hs.drop k, o.free call false h s = some s1 then some s1 else none
  | .c => o.free call true [] s
  | .m => o.free call true [] s
/-- The memories so far. -/
def nextH (g : Tag) (hs : List Heap) (h : Heap) : List Heap := match g with
  | .m => hs ++ [h]
  | .c => hs
  | .l _ => hs
noncomputable def runOpn (call : FuncId → List Value → Heap → Option (Value × Heap)) : List (Tag × MOp) → List Heap → St → Option St
  | [], _, s => some s
  | (g, o) :: l, hs, s => (o.opn call g hs s).bind fun s1 => runOpn call l (nextH g hs s1.h) s1
/-- Code. -/
inductive IR where
  | skip
  | ops (l : List MOp)
  | free (last : Bool) (l : List MOp)
  | opn (l : List (Tag × MOp))
  | seq (a b : IR)
  | cond (c : Opd) (a b : IR)
  | block (id : Nat) (a : IR)
  | loop (a : IR)
  | exit (id : Nat)
  | ret
  -- what is not needed any more is forgotten
  | keep (l : List Nat)
def iter (f : St → Option (Exit × St)) : Nat → St → Option (Exit × St)
  | 0, _ => none
  | n + 1, s => match f s with
    | some (.normal, s') => iter f n s'
    | r => r
/-- At a region's end no alias is left. -/
def St.close (s : St) : St := { s with al := fun _ => none }
/-- Of slots and own boxes these are kept. -/
def St.keep (s : St) (l : List Nat) : St := { t := fun i => if l.contains i = true then s.t i else undef, loc := fun i => if l.contains i = true then s.loc i else none, al := fun _ => none, h := s.h }
/-- Code's run with 'n' rounds for each loop. -/
noncomputable def exec (call : FuncId → List Value → Heap → Option (Value × Heap)) (n : Nat) : IR → St → Option (Exit × St)
  | .skip, s => some (.normal, s)
  | .ops l, s => (runOps call l s).map fun s' => (.normal, s'.close)
  | .free last l, s => (runFree call last s.h l s).map fun s' => (.normal, s'.close)
  | .opn l, s => (runOpn call l [s.h] s).map fun s' => (.normal, s'.close)
  | .seq a b, s => match exec call n a s with
    | some (.normal, s') => exec call n b s'
    | r => r
  | .cond c a b, s => match s.val c with
    | .bool c => if c = true then exec call n a s else exec call n b s
    | _ => none
  | .block id a, s => match exec call n a s with
    | some (.exit id', s') => if id' = id then some (.normal, s') else some (.exit id', s')
    | r => r
  | .loop a, s => iter (exec call n a) n s
  | .exit id, s => some (.exit id, s)
  | .ret, s => some (.ret, s)
  | .keep l, s => some (.normal, s.keep l)
/-- A function: code, and where its results lie (a slot, an own box). -/
inductive Res where
  | slot (t : Nat)
  | box (d n : Nat) (agg : Bool)
structure Fun where
  np : Nat
  body : IR
  res : List Res
def Res.get (s : St) : Res → Option Value
  | .slot t => some (s.t t)
  | .box d n agg => match s.loc d with
    | some cs => if n ≤ cs.length then ofCells agg (cs.take n) else none
    | none => none
def live : Value → Bool
  | .tuple _ => false
  | .map _ => false
  | _ => true
def results1 (s : St) (rs : List Res) : Option Value := match rs.mapM (Res.get s) with
  | some [v] => if live v = true then some v else none
  | some vs => if vs.all live = true then some (.tuple ⟨vs⟩) else none
  | none => none
def start (args : List Value) (h : Heap) : St := { t := fun i => args.getD i undef, loc := fun _ => none, al := fun _ => none, h := h }
/-- Values that bear no place in memory. -/
def flat1 : Value → Bool
  | .agg ⟨cs⟩ => cs.all prim
  | v => prim v
def flat : Value → Bool
  | .tuple ⟨vs⟩ => vs.all flat1
  | .agg ⟨cs⟩ => cs.all prim
  | v => prim v
open Classical in
/-- What a function comes to: a flat answer, where nothing that was there has turned, leaves the memory as it was. -/
noncomputable def finish (h : Heap) (r : Value × Heap) : Value × Heap := if flat r.1 = true ∧ h <+: r.2 then (r.1, h) else r
noncomputable def call (T : FuncId → Option Fun) (X : FuncId → List Value → Heap → Option (Value × Heap)) : Nat → FuncId → List Value → Heap → Option (Value × Heap)
  | 0, _, _, _ => none
  | n + 1, f, args, h => match T f with
    | some F => if args.length = F.np then
        match exec (call T X n) n F.body (start args h) with
        | some (.normal, s) => (results1 s F.res).map fun v => finish h (v, s.h)
        | some (.ret, s) => (results1 s F.res).map fun v => finish h (v, s.h)
        | _ => none
      else none
    | none => X f args h
end Go.Proofs.YthfeahanmbmjhaaGreatDoor.Ab
/- The reading of a loaded function into the small language: a check that the kernel computes. No conditions. -/
namespace Go.Proofs.YthfeahanmbmjhaaGreatDoor.Ab
def constOk : Value → Bool
  | .bool _ | .int _ _ | .string _ | .slice none 0 0 | .pointer none | .nilFunc | .nilIface => true
  | _ => false
def opd : Operand → Option Opd
  | .tmp t => some (.t t)
  | .const v => if constOk v then some (.c v) else none
  | .func f => some (.c (.func (.func f) #[] #[]))
  | .global _ => none
def opds : List Operand → Option (List Opd)
  | [] => some []
  | x :: xs => match opd x, opds xs with
    | some y, some ys => some (y :: ys)
    | _, _ => none
def oopd : Option Operand → Option (Option Opd)
  | none => some none
  | some x => (opd x).map some
/-- A row's type, an array's, any other. -/
def descAgg : TypeDesc → Option Bool
  | .struct _ => some true
  | .array _ _ => none
  | _ => some false
/-- How many cells a type has, and whether its values are rows. -/
def rowOf (P : Program) (t : TypeId) : Option (Nat × Bool) := match P.underlying t with
  | some d => match descAgg d, P.info? t with
    | some true, some i => some (i.size, true)
    | some false, some i => if i.size = 1 then some (1, false) else none
    | _, _ => none
  | none => none
def zeroOf (P : Program) (t : TypeId) : Option (List Value) := match P.info? t with
  | some i => match i.zero with
    | some z => match cellsOf z with
      | some cs => if cs.length = i.size ∧ cs.all prim then some cs else none
      | none => none
    | none => none
  | none => none
def fieldOf (P : Program) (t : TypeId) (f : Nat) : Option (Nat × Nat × Bool) := match P.underlying t with
  | some (.struct fs) => match fs[f]? with
    | some fd => match rowOf P fd.type, P.info? fd.type with
      | some (n, agg), some i => if n = 0 ∨ i.size ≠ n then none else some (fd.offset, n, agg)
      | _, _ => none
    | none => none
  | _ => none
/-- A slice's element: type, cells, bytes, zero. -/
def elemOf (P : Program) (t : TypeId) : Option (TypeId × Nat × Nat × List Value) := match P.underlying t with
  | some (.slice e) => match P.info? e, zeroOf P e with
    | some i, some z => if 0 < i.size ∧ i.bytes ≤ 96 ∧ 0 < i.bytes then some (e, i.size, i.bytes, z) else none
    | _, _ => none
  | _ => none
/-- Is it a string's type, a byte slice's type? -/
def isStr (P : Program) (t : TypeId) : Bool := match P.underlying t with
  | some .string => true
  | _ => false
def isSlice (P : Program) (t : TypeId) : Bool := match P.underlying t with
  | some (.slice _) => true
  | _ => false
def isBytes (P : Program) (t : TypeId) : Bool := match P.underlying t with
  | some (.slice e) => match P.underlying e with
    | some (.int .u8) => true
    | _ => false
  | _ => false
/-- The kinds of a struct's fields, where they are one cell each, numbers, texts, bools, and may be compared cell by cell. -/
def eqKinds (P : Program) : Nat → List Field → Option (List Nat)
  | _, [] => some []
  | i, f :: fs => match (if f.name = "_" ∨ f.offset ≠ i then none else match P.underlying f.type with
      | some (.int _) => some 0
      | some .string => some 1
      | some .bool => some 2
      | _ => none : Option Nat), eqKinds P (i + 1) fs with
    | some k, some ks => some (k :: ks)
    | _, _ => none
def eqOk (P : Program) (t : TypeId) : Bool := !P.stoodInHeld t && !P.eqGuardType P.depth t
def fieldsOf (P : Program) (t : TypeId) : Option (List (Nat × Nat)) := match P.underlying t with
  | some (.struct fs) => fs.toList.mapM fun f => (P.info? f.type).map fun i => (f.offset, i.size)
  | _ => none
def placesOf (fs : List (Nat × Nat)) : List Nat → Option (List (Nat × Nat))
  | [] => some []
  | i :: is => match fs[i]?, placesOf fs is with
    | some p, some ps => some (p :: ps)
    | _, _ => none
/-- A call's one argument, a literal list of the call's own. -/
def litCall (P : Program) (L : List (Nat × Nat)) : List Operand → List TypeId → Option (Nat × Nat × TypeId × Nat)
  | [.tmp e], [t] => match L.lookup e, elemOf P t with
    | some n, some (ety, sz, _, _) => some (n, sz, ety, e)
    | _, _ => none
  | _, _ => none
def compIns (P : Program) (D : List Nat) (E : List (Nat × Nat)) (L : List (Nat × Nat)) (o : Oper) : Option MI := match o.op with
  | .move x => (opd x).map .mov
  | .assign x => (opd x).map .mov
  | .pick c a b => match opd c, opd a, opd b with
    | some c, some a, some b => some (.pick c a b)
    | _, _, _ => none
  | .binOp op t x y _ => match opd x, opd y, P.underlying t with
    | some x, some y, some (.int _) => some (.bin op x y)
    | some x, some y, some .string => some (.bin op x y)
    | some x, some y, some .bool => some (.binB op x y)
    | some x, some y, some (.struct fs) => match eqOk P t, eqKinds P 0 fs.toList, op with
        | true, some ks, .eql => some (.eqS ks false x y)
        | true, some ks, .neq => some (.eqS ks true x y)
        | _, _, _ => none
    | _, _, _ => none
  | .unOp op _ x => (opd x).map (.un op)
  | .convert s t x => match opd x, P.underlying s, P.underlying t with
    | some x, some (.int _), some (.int k) => some (.conv k x)
    | some x, some (.slice e), some .string => match P.underlying e with
      | some (.int .u8) => match x with
        | .t e => match L.lookup e with
          | some n => some (.strL n e)
          | none => some (.str (.t e))
        | _ => none
      | _ => none
    | _, _, _ => none
  | .load t x => match rowOf P t, x with
    | some (n, agg), .tmp x => if D.contains x then some (.ldB n agg x) else match E.lookup x with | some d => some (.ldE n agg d x) | none => some (.ld n agg (.t x))
    | _, _ => none
  | .store t x v => match rowOf P t, P.info? t, x, opd v with
    | some (n, _), some i, .tmp x, some v => if i.size = n then (if D.contains x then some (.stB n x v) else match E.lookup x with | some d => some (.stE n d x v) | none => some (.st n (.t x) v)) else none
    | _, _, _, _ => none
  | .fieldAddr t x f => match fieldOf P t f, x with
    | some (off, _, _), .tmp x => if D.contains x then some (.faB off x) else match E.lookup x with | some d => some (.faE off d x) | none => some (.fa off (.t x))
    | _, _ => none
  | .field t x f => match fieldOf P t f, opd x with
    | some (off, n, agg), some x => some (.fl off n agg x)
    | _, _ => none
  | .indexAddr t x i => match elemOf P t, opd x, opd i with
    | some (_, sz, _, _), some x, some i => some (.ia sz x i)
    | _, _, _ => none
  | .index t x i => match isStr P t, opd x, opd i with
    | true, some x, some i => some (.ix x i)
    | _, _, _ => none
  | .slice t x lo hi none => match isStr P t, elemOf P t, opd x, oopd lo, oopd hi with
    | true, _, some x, some lo, some hi => some (.slS x lo hi)
    | false, some (_, sz, _, _), some x, some lo, some hi => some (.slL sz x lo hi)
    | _, _, _, _, _ => none
  | .buildSlice t n parts => match elemOf P t, opds (parts.toList.map (·.2)) with
    | some (e, sz, _, z), some xs => if n * sz ≤ 16777216 then (match o.dst with
      | some d => match L.lookup d with
        | some m => if m = n ∧ 0 < n then some (.litL n sz z ((parts.toList.map (·.1)).zip xs)) else none
        | none => some (.lit n sz e z ((parts.toList.map (·.1)).zip xs))
      | none => none) else none
    | _, _ => none
  | .build t parts => match zeroOf P t, fieldsOf P t, opds (parts.toList.map (·.2)) with
    | some z, some fs, some xs => match placesOf fs (parts.toList.map (·.1)) with
      | some ps => some (.bld z ((ps.zip xs).map fun p => (p.1.1, p.1.2, p.2)))
      | none => none
    | _, _, _ => none
  | .makeSlice t n c => match elemOf P t, n, c with
    | some (e, sz, b, z), .tmp n, .tmp c => if n = c then some (.mk sz e b z (.t n)) else none
    | some (e, sz, b, z), .const (.int .i64 n), .const (.int .i64 c) => if n = c then some (.mk sz e b z (.c (.int .i64 n))) else none
    | _, _, _ => none
  | .alloc t => match rowOf P t, zeroOf P t, o.dst with
    | some (n, _), some z, some d => if n = z.length ∧ 0 < n then (if D.contains d then some (.newL z) else some (.nw t z)) else none
    | _, _, _ => none
  | .box t x => match rowOf P t, opd x, o.dst with
    | some (n, _), some x, some d => if 0 < n then (if D.contains d then some (.boxL n x) else some (.bx t n x)) else none
    | _, _, _ => none
  | .extract x i => (opd x).map (.ext i)
  | .nilCheck x => (opd x).map .chk
  | .makeFunc f first caps => if first.size = 0 then (opds caps.toList).map (.fn f) else none
  | .call { callee := .value (.func f), args, argTypes } => match litCall P L args.toList argTypes.toList with
    | some (n, sz, ty, e) => some (.callL f n sz ty e)
    | none => (opds args.toList).map (.call f)
  | .call { callee := .value (.tmp f), args, argTypes := _ } => (opds args.toList).map (.callV (.t f))
  | .call { callee := .builtin .len, args, argTypes } => match args.toList, argTypes.toList with
    | [x], [t] => if isStr P t then (opd x).map .lnS else if isSlice P t then (opd x).map .ln else none
    | _, _ => none
  | .call { callee := .builtin .append, args, argTypes } => match args.toList, argTypes.toList with
    | [s, x], [t, u] => match elemOf P t, opd s, opd x with
      | some (e, sz, b, _), some s, some (.t x) => if u = t then (match L.lookup x with
        | some n => some (.appL sz e b n s x)
        | none => some (.app sz e b s (.t x))) else none
      | some (e, sz, b, _), some s, some (.c x) => if u = t then some (.app sz e b s (.c x)) else none
      | _, _, _ => none
    | _, _ => none
  | .call { callee := .builtin .max, args, argTypes := _ } => match args.toList with
    | [x, y] => match opd x, opd y with
      | some x, some y => some (.mm true x y)
      | _, _ => none
    | _ => none
  | .call { callee := .builtin .min, args, argTypes := _ } => match args.toList with
    | [x, y] => match opd x, opd y with
      | some x, some y => some (.mm false x y)
      | _, _ => none
    | _ => none
  | _ => none
/-- Is it a slot of the common kind: no own box, no alias, no literal? -/
def plain (D : List Nat) (E L : List (Nat × Nat)) (d : Nat) : Bool := !D.contains d && (E.lookup d).isNone && (L.lookup d).isNone
/-- A slot is written as what it is: an own box, an alias, a literal, or any other. -/
def dstOk (D : List Nat) (E L : List (Nat × Nat)) (N : Nat) : MI → Option Nat → Bool
  | .newL _, some d => D.contains d && (L.lookup d).isNone && decide (d < N)
  | .boxL _ _, some d => D.contains d && (L.lookup d).isNone && decide (d < N)
  | .faB _ x, some d => (E.lookup d == some x) && !D.contains d && (L.lookup d).isNone && decide (d < N)
  | .faE _ x _, some d => (E.lookup d == some x) && !D.contains d && (L.lookup d).isNone && decide (d < N)
  | .litL .., some d => (L.lookup d).isSome && !D.contains d && (E.lookup d).isNone && decide (d < N)
  | .stB .., none => true
  | .stE .., none => true
  | .st .., none => true
  | .call .., none => true
  | .callV .., none => true
  | .callL .., none => true
  | .newL _, none => false
  | .boxL .., none => false
  | .faB .., none => false
  | .faE .., none => false
  | .litL .., none => false
  | .stB .., some _ => false
  | .stE .., some _ => false
  | .st .., some _ => false
  | _, some d => plain D E L d && decide (d < N)
  | _, none => false
/-- The operands of an instruction are common slots. -/
def Opd.ok (D : List Nat) (E L : List (Nat × Nat)) : Opd → Bool
  | .t n => plain D E L n
  | .c _ => true
def compOp (P : Program) (D : List Nat) (E L : List (Nat × Nat)) (N : Nat) (ops : List Oper) (o : Oper) : Option MOp := match compIns P D E L o with
  | some i => if dstOk D E L N i o.dst then match o.guard with
      | none => some ⟨o.dst, i, none⟩
      | some (j, b) => match ops[j]? with
        | some g => match g.dst with
          | some d => if plain D E L d then some ⟨o.dst, i, some (d, b)⟩ else none
          | none => none
        | none => none
    else none
  | none => none
def compOps (P : Program) (D : List Nat) (E L : List (Nat × Nat)) (N : Nat) (ops : List Oper) : List Oper → Option (List MOp)
  | [] => some []
  | o :: os => match compOp P D E L N ops o, compOps P D E L N ops os with
    | some m, some ms => some (m :: ms)
    | _, _ => none
/-- The slots that an instruction looks at. -/
def Opd.slots : Opd → List Nat
  | .t n => [n]
  | .c _ => []
def oSlots : Option Opd → List Nat
  | some x => x.slots
  | none => []
def MI.slots : MI → List Nat
  | .mov x | .un _ x | .conv _ x | .str x | .ld _ _ x | .fa _ x | .fl _ _ _ x | .ln x | .lnS x | .ext _ x | .chk x => x.slots
  | .pick c a b => c.slots ++ a.slots ++ b.slots
  | .bin _ x y | .binB _ x y | .eqS _ _ x y | .ia _ x y | .ix x y | .mm _ x y => x.slots ++ y.slots
  | .slS x lo hi | .slL _ x lo hi => x.slots ++ oSlots lo ++ oSlots hi
  | .bld _ ps => ps.flatMap fun p => p.2.2.slots
  | .fn _ xs | .call _ xs => xs.flatMap Opd.slots
  | .faB _ d | .ldB _ _ d => [d]
  | .faE _ d e | .ldE _ _ d e => [d, e]
  | .callL _ _ _ _ e => [e]
  | .lit _ _ _ _ ps => ps.flatMap fun p => p.2.slots
  | .stB _ d v => d :: v.slots
  | .mk _ _ _ _ x => x.slots
  | .bx _ _ x => x.slots
  | .st _ x v => x.slots ++ v.slots
  | .stE _ d e v => d :: e :: v.slots
  | .litL _ _ _ ps => ps.flatMap fun p => p.2.slots
  | .appL _ _ _ _ s e => e :: s.slots
  | .app _ _ _ s x => s.slots ++ x.slots
  | .strL _ e => [e]
  | _ => []
def MOp.slots (o : MOp) : List Nat := o.ins.slots ++ (match o.guard with | some (j, _) => [j] | none => [])
/-- The slots that an operation writes; a new box lets go all aliases of its slot. -/
def MOp.outs (E : List (Nat × Nat)) (o : MOp) : List Nat := match o.ins, o.dst with
  | .stB _ d _, _ => [d]
  | .stE _ d _ _, _ => [d]
  | .callL _ _ _ _ e, some d => [d, e]
  | .callL _ _ _ _ e, none => [e]
  | .newL _, some d => d :: (E.filter fun p => p.2 == d).map (·.1)
  | _, some d => [d]
  | _, none => []
/-- Operations that may stand in a region whose order is open. -/
def MI.freely : MI → Bool
  | .faB .. | .faE .. | .stB .. | .stE .. | .litL .. | .newL _ => true
  | i => i.reads || i.makes
/-- Two operations of a region that may change places. -/
def MOp.apart (E : List (Nat × Nat)) (x y : MOp) : Bool := !(x.ins.makes && y.ins.makes) && ((x.outs E).all fun d => !(y.outs E).contains d && !y.slots.contains d) && (y.outs E).all fun d => !x.slots.contains d
/-- Does operation 'a' stand ahead of 'i', by the region's own edges? -/
def anc (ops : List Oper) : Nat → Nat → Nat → Bool
  | 0, _, _ => false
  | n + 1, i, a => match ops[i]? with
    | some o => o.after.toList.any fun e => Region.binds .any e && (e.on == a || anc ops n e.on a)
    | none => false
/-- A region whose order is open: each two operations stand one ahead of the other, or may change places. -/
def freeOk (E : List (Nat × Nat)) (ops : List Oper) (ms : List MOp) : Bool :=
  Region.noSelect ops.toArray &&
  (ms.all fun m => m.ins.freely) &&
  ((List.range ops.length).all fun i => match ops[i]? with
    | some o => o.after.toList.all fun e => !Region.binds .any e || decide (e.on < i)
    | none => true) &&
  (List.range ms.length).all fun i => (List.range i).all fun a => match ms[a]?, ms[i]? with
    | some x, some y => x.apart E y || anc ops 12 i a
    | _, _ => false
/-- Of each two operations of which one looks into the memory and one turns it, the first stands ahead of the other. -/
def lastOk (ops : List Oper) (ms : List MOp) : Bool :=
  (List.range ms.length).all fun i => (List.range i).all fun a => match ms[a]?, ms[i]? with
    | some x, some y => !((y.ins.makes && x.ins.looks) || (y.ins.looks && x.ins.makes)) || anc ops 12 i a
    | _, _ => false
/-- Operations that lay a block of their own, from slots alone. -/
def MI.lays : MI → Bool
  | .mk .. => true
  | .lit .. => true
  | _ => false
/-- Operations beside which a block may lie that the memory does not show yet. -/
def MI.still : MI → Bool
  | .faB .. => true
  | .call .. => true
  | i => i.reads
def isLay (ms : List MOp) (i : Nat) : Bool := match ms[i]? with
  | some m => m.ins.lays && m.guard.isNone
  | none => false
def insAt (p : MI → Bool) (ms : List MOp) (i : Nat) : Bool := match ms[i]? with
  | some m => p m.ins
  | none => false
/-- Behind all that lays; behind nothing that lays. -/
def isLate (ops : List Oper) (ms : List MOp) (i : Nat) : Bool := (List.range ms.length).all fun a => !isLay ms a || anc ops 12 i a
def isFore (ops : List Oper) (ms : List MOp) (i : Nat) : Bool := (List.range ms.length).all fun a => !isLay ms a || !anc ops 12 i a
def firstLate (ops : List Oper) (ms : List MOp) : Nat := ((List.range ms.length).find? fun i => !isLay ms i && isLate ops ms i).getD ms.length
/-- The text's order, but all that lays together, ahead of the first that stands behind it. -/
def lateIdx (ops : List Oper) (ms : List MOp) : List Nat :=
  ((List.range ms.length).filter fun i => !isLay ms i && decide (i < firstLate ops ms)) ++ (List.range ms.length).filter (isLay ms) ++ ((List.range ms.length).filter fun i => !isLay ms i && !decide (i < firstLate ops ms))
def lateOps (ops : List Oper) (ms : List MOp) : List MOp := (lateIdx ops ms).filterMap (ms[·]?)
/-- Neither writes what the other looks at or writes. -/
def MOp.asunder (E : List (Nat × Nat)) (x y : MOp) : Bool := ((x.outs E).all fun d => !(y.outs E).contains d && !y.slots.contains d) && (y.outs E).all fun d => !x.slots.contains d
/-- The slots that are laid. -/
def dstsOf (l : List MOp) (i : Nat) : Bool := l.any fun m => m.dst == some i
def layDst (ms : List MOp) : Nat → Bool := dstsOf (((List.range ms.length).filter (isLay ms)).filterMap (ms[·]?))
/-- A region whose order is open, where blocks are laid in any order. -/
def lateOk (E : List (Nat × Nat)) (ops : List Oper) (ms : List MOp) : Bool :=
  (Region.noSelect ops.toArray && (List.range ms.length).any (isLay ms)) &&
  (ms.all fun m => m.ins.freely) &&
  ((List.range ops.length).all fun i => match ops[i]? with
    | some o => o.after.toList.all fun e => !Region.binds .any e || decide (e.on < i)
    | none => true) &&
  ((List.range ms.length).all fun i => (List.range i).all fun a => match ms[a]?, ms[i]? with
    | some x, some y => if isLay ms a && isLay ms i then x.asunder E y else if isLay ms a || isLay ms i then x.asunder E y || anc ops 12 i a else x.apart E y || anc ops 12 i a
    | _, _ => false) &&
  ((List.range ms.length).all fun i => isLay ms i || (isFore ops ms i && insAt MI.still ms i) || (isLate ops ms i && (List.range ms.length).all fun a => !insAt MI.makes ms a || isLay ms a || isLate ops ms a || anc ops 12 i a)) &&
  (List.range ms.length).all fun i => match ms[i]? with
    | some m => if isLay ms i then m.slots.all (fun d => !layDst ms d) else !isFore ops ms i || (m.slots ++ m.outs E).all fun d => !layDst ms d
    | none => true
/-- The order in which such a region is read: each operation behind all that turns the memory, but what stands behind it. -/
def mkIdx (ms : List MOp) : List Nat := (List.range ms.length).filter (insAt MI.makes ms)
def behN (ops : List Oper) (ms : List MOp) (i : Nat) : Nat := ((mkIdx ms).filter fun m => m != i && !anc ops 12 m i).length
def opnIdx (ops : List Oper) (ms : List MOp) : List Nat :=
  let rs := (List.range ms.length).map (behN ops ms)
  (List.range ((mkIdx ms).length + 1)).flatMap fun j => ((List.range ms.length).filter fun i => !insAt MI.makes ms i && rs.getD i 0 == j) ++ (List.range ms.length).filter fun i => insAt MI.makes ms i && rs.getD i 0 == j
def tagOf (ops : List Oper) (ms : List MOp) (i : Nat) : Tag := if insAt MI.looks ms i then .l ((mkIdx ms).takeWhile (anc ops 12 i)).length else if insAt MI.makes ms i then .m else .c
def opnOps (ops : List Oper) (ms : List MOp) (l : List Nat) : List (Tag × MOp) := l.filterMap fun i => (ms[i]?).map fun m => (tagOf ops ms i, m)
def opnPair (E : List (Nat × Nat)) (ops : List Oper) (ms : List MOp) (a i : Nat) : Bool := match ms[a]?, ms[i]? with
  | some x, some y => anc ops 12 i a || (x.apart E y && !(x.ins.looks && y.ins.makes))
  | _, _ => false
def pairAll (p : Nat → Nat → Bool) : List Nat → Bool
  | [] => true
  | a :: l => l.all (p a) && pairAll p l
/-- A region whose order is open, where looks may see more than one memory. -/
def opnOk (E : List (Nat × Nat)) (ops : List Oper) (ms : List MOp) : Bool :=
  Region.noSelect ops.toArray &&
  (ms.all fun m => m.ins.freely) &&
  ((List.range ops.length).all fun i => match ops[i]? with
    | some o => o.after.toList.all fun e => !Region.binds .any e || decide (e.on < i)
    | none => true) &&
  ((List.range ms.length).all fun i => (opnIdx ops ms).contains i) &&
  pairAll (fun a i => a != i && opnPair E ops ms a i) (opnIdx ops ms)
def compCode (b : Bool) (P : Program) (D : List Nat) (E : List (Nat × Nat)) (L : List (Nat × Nat)) (N : Nat) : Code → Option IR
  | .skip => some .skip
  | .region _ ops draw => match compOps P D E L N ops.toList ops.toList with
    | some ms => if draw then (if b && !lastOk ops.toList ms && opnOk E ops.toList ms && P.follows .mixedOrders then some (.opn (opnOps ops.toList ms (opnIdx ops.toList ms))) else if freeOk E ops.toList ms && P.follows .mixedOrders then some (.free (lastOk ops.toList ms) ms) else if lateOk E ops.toList ms && P.follows .mixedOrders then some (.free (lastOk ops.toList ms) (lateOps ops.toList ms)) else none) else some (.ops ms)
    | none => none
  | .seq x y => match compCode b P D E L N x, compCode b P D E L N y with
    | some a, some b => some (.seq a b)
    | _, _ => none
  | .cond c x y => match opd c, compCode b P D E L N x, compCode b P D E L N y with
    | some c, some a, some b => some (.cond c a b)
    | _, _, _ => none
  | .block id a => (compCode b P D E L N a).map (.block id)
  | .loop a => (compCode b P D E L N a).map .loop
  | .exit id => some (.exit id)
  | .ret => some .ret
  | _ => none
def compRes (P : Program) (D : List Nat) (E L : List (Nat × Nat)) : ResultVar → Option Res
  | .tmp t => if plain D E L t then some (.slot t) else none
  | .cell a t => match rowOf P t with
    | some (n, agg) => if D.contains a then some (.box a n agg) else none
    | none => none
end Go.Proofs.YthfeahanmbmjhaaGreatDoor.Ab
/- Which slots are boxes of the call's own, which are aliases: found by a look over a function's operations. No conditions. -/
namespace Go.Proofs.YthfeahanmbmjhaaGreatDoor.Ab
def opsOf : Code → List Oper
  | .region _ ops _ => ops.toList
  | .seq a b => opsOf a ++ opsOf b
  | .cond _ a b => opsOf a ++ opsOf b
  | .block _ a => opsOf a
  | .loop a => opsOf a
  | .scope a => opsOf a
  | _ => []
def condsOf : Code → List Operand
  | .seq a b => condsOf a ++ condsOf b
  | .cond c a b => c :: (condsOf a ++ condsOf b)
  | .block _ a => condsOf a
  | .loop a => condsOf a
  | .scope a => condsOf a
  | _ => []
def tmpsOf (l : List Operand) : List Nat := l.filterMap fun | .tmp t => some t | _ => none
/-- The slots that an operation uses as values, not as places. -/
def valueUses (o : Oper) : List Nat := match o.op with
  | .load _ _ => []
  | .store _ _ v => tmpsOf [v]
  | .fieldAddr _ _ _ => []
  | op => tmpsOf op.operands.toList
def boxesOf (fn : Func) (c : Code) : List Nat :=
  let ops := opsOf c
  let made := ops.filterMap fun o => match o.op, o.dst with
    | .alloc _, some d | .box _ _, some d => some d
    | _, _ => none
  let bad := ops.flatMap valueUses ++ tmpsOf (condsOf c) ++ (ops.filterMap fun o => match o.op, o.dst with
    | .alloc _, _ | .box _ _, _ => none
    | _, d => d) ++ (fn.results.toList.filterMap fun | .tmp t => some t | _ => none) ++ List.range fn.params.size
  (made.filter fun d => !bad.contains d).eraseDups
/-- Each alias, with its box. -/
def aliasesOf (D : List Nat) (c : Code) : List (Nat × Nat) :=
  (opsOf c).foldl (fun E o => match o.op, o.dst with
    | .fieldAddr _ (.tmp x) _, some e => if D.contains x then (e, x) :: E else match E.lookup x with
      | some d => (e, d) :: E
      | none => E
    | _, _ => E) []
/-- The literal lists that are only appended or turned into a text, with their lengths. -/
def litsOf (fn : Func) (c : Code) : List (Nat × Nat) :=
  let ops := opsOf c
  let used := ops.flatMap fun o => match o.op with
    | .call { callee := .builtin .append, args, argTypes := _ } => tmpsOf (args.toList.take 1)
    | .convert _ _ _ => []
    | .call { callee := .value (.func _), args, argTypes := _ } => if args.size = 1 then [] else tmpsOf args.toList
    | op => tmpsOf op.operands.toList
  let bad := used ++ tmpsOf (condsOf c) ++ (fn.results.toList.filterMap fun | .tmp t => some t | _ => none)
  ops.filterMap fun o => match o.op, o.dst with
    | .buildSlice _ n _, some d => if n = 0 || bad.contains d then none else some (d, n)
    | _, _ => none
/-- The second is the first, with things forgotten behind regions. -/
inductive Kp : IR → IR → Prop
  | skip : Kp .skip .skip
  | ops0 (l : List MOp) : Kp (.ops l) (.ops l)
  | free0 (b : Bool) (l : List MOp) : Kp (.free b l) (.free b l)
  | ops (l : List MOp) (g : List Nat) : Kp (.ops l) (.seq (.ops l) (.keep g))
  | free (b : Bool) (l : List MOp) (g : List Nat) : Kp (.free b l) (.seq (.free b l) (.keep g))
  | opn0 (l : List (Tag × MOp)) : Kp (.opn l) (.opn l)
  | opn (l : List (Tag × MOp)) (g : List Nat) : Kp (.opn l) (.seq (.opn l) (.keep g))
  | seq {a b a' b' : IR} (ha : Kp a a') (hb : Kp b b') : Kp (.seq a b) (.seq a' b')
  | cond (c : Opd) {a b a' b' : IR} (ha : Kp a a') (hb : Kp b b') : Kp (.cond c a b) (.cond c a' b')
  | block (id : Nat) {a a' : IR} (ha : Kp a a') : Kp (.block id a) (.block id a')
  | loop {a a' : IR} (ha : Kp a a') : Kp (.loop a) (.loop a')
  | exit (id : Nat) : Kp (.exit id) (.exit id)
  | ret : Kp .ret .ret
  | keep (l : List Nat) : Kp (.keep l) (.keep l)
/-- Without what is forgotten. -/
def strip : IR → IR
  | .seq a b => match a, b with
    | .ops l, .keep _ => .ops l
    | .free c l, .keep _ => .free c l
    | .opn l, .keep _ => .opn l
    | a, b => .seq (strip a) (strip b)
  | .cond c a b => .cond c (strip a) (strip b)
  | .block id a => .block id (strip a)
  | .loop a => .loop (strip a)
  | i => i
theorem strip_kp : ∀ i : IR, Kp (strip i) i
  | .skip => .skip
  | .ops l => .ops0 l
  | .free b l => .free0 b l
  | .opn l => .opn0 l
  | .seq a b => by
    have ha := strip_kp a
    have hb := strip_kp b
    unfold strip
    split
    · exact .ops _ _
    · exact .free _ _ _
    · exact .opn _ _
    · exact .seq ha hb
  | .cond c a b => .cond c (strip_kp a) (strip_kp b)
  | .block id a => .block id (strip_kp a)
  | .loop a => .loop (strip_kp a)
  | .exit id => .exit id
  | .ret => .ret
  | .keep l => .keep l
def compFun (b : Bool) (P : Program) (fn : Func) : Option Fun := match fn.body with
  | some c =>
    let D := boxesOf fn c
    let E := aliasesOf D c
    let L := litsOf fn c
    match compCode b P D E L fn.ntmps c, fn.results.toList.mapM (compRes P D E L) with
    | some ir, some rs => if fn.params.size + fn.nfree ≤ fn.ntmps ∧ (fn.name == "runtime.NumGoroutine") = false then some ⟨fn.params.size + fn.nfree, ir, rs⟩ else none
    | _, _ => none
  | none => none
/-- The function, things forgotten, is the loaded one, read. -/
def Fun.bare (F : Fun) : Fun := ⟨F.np, strip F.body, F.res⟩
end Go.Proofs.YthfeahanmbmjhaaGreatDoor.Ab
