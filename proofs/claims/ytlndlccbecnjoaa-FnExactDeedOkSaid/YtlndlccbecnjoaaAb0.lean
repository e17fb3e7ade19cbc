/- An abstract memory for the walks: lists of blocks in place of the machine's heap, and what it means that a machine's world shows such a memory. No conditions. -/
import Derived.Calls
import Derived.Orders
import Derived.Below
import Derived.LoopN
import Derived.Laws.AppendOwn
import Derived.Laws.Cells
import Derived.Laws.CopyRow
namespace Go.Proofs.Ytlndlccbecnjoaa.Ab
set_option linter.unusedSimpArgs false
set_option linter.unusedVariables false
set_option linter.unnecessarySimpa false

/-- A block of the abstract memory: its cells, the cells of an element, the element's type, whether the program may write it. -/
structure Blk where
  cells : List Value
  sz : Nat
  ty : TypeId
  own : Bool

abbrev Heap := List Blk

/-- Where a block lies in the machine's heap: block, first cell, cells of the whole block. -/
structure Loc where
  g : Nat
  o : Nat
  c : Nat

abbrev Map := Nat → Loc

def prim : Value → Bool
  | .bool _ | .int _ _ | .string _ | .slice none 0 0 | .pointer none | .nilFunc | .nilIface => true
  | _ => false

/-- Pointwise. -/
def All2 {α β : Type} (R : α → β → Prop) (xs : List α) (ys : List β) : Prop := xs.length = ys.length ∧ ∀ (i : Nat) (x : α) (y : β), xs[i]? = some x → ys[i]? = some y → R x y

theorem All2.nil {α β : Type} {R : α → β → Prop} : All2 R [] [] := ⟨rfl, fun i x y h => by simp at h⟩
theorem All2.cons {α β : Type} {R : α → β → Prop} {x : α} {y : β} {xs : List α} {ys : List β} (h : R x y) (t : All2 R xs ys) : All2 R (x :: xs) (y :: ys) := by
  refine ⟨by simp [t.1], fun i a b ha hb => ?_⟩
  cases i with
  | zero => simp at ha hb; subst ha; subst hb; exact h
  | succ i => simp at ha hb; exact t.2 i a b ha hb
theorem All2.get {α β : Type} {R : α → β → Prop} {xs : List α} {ys : List β} (h : All2 R xs ys) {i : Nat} {x : α} (hx : xs[i]? = some x) : ∃ y, ys[i]? = some y ∧ R x y := by
  obtain ⟨hi, _⟩ := List.getElem?_eq_some_iff.1 hx
  have hi' : i < ys.length := by rw [← h.1]; exact hi
  exact ⟨ys[i], List.getElem?_eq_getElem hi', h.2 i x _ hx (List.getElem?_eq_getElem hi')⟩
theorem All2.imp {α β : Type} {R S : α → β → Prop} {xs : List α} {ys : List β} (h : All2 R xs ys) (k : ∀ x y, R x y → S x y) : All2 S xs ys := ⟨h.1, fun i x y hx hy => k _ _ (h.2 i x y hx hy)⟩
theorem All2.append {α β : Type} {R : α → β → Prop} {xs xs' : List α} {ys ys' : List β} (h : All2 R xs ys) (k : All2 R xs' ys') : All2 R (xs ++ xs') (ys ++ ys') := by
  refine ⟨by simp [h.1, k.1], fun i x y hx hy => ?_⟩
  by_cases hi : i < xs.length
  · rw [List.getElem?_append_left hi] at hx
    rw [List.getElem?_append_left (by rw [← h.1]; exact hi)] at hy
    exact h.2 i x y hx hy
  · rw [List.getElem?_append_right (by omega)] at hx
    rw [List.getElem?_append_right (by rw [← h.1]; omega)] at hy
    exact k.2 (i - xs.length) x y hx (by rw [h.1]; exact hy)
theorem All2.set {α β : Type} {R : α → β → Prop} {xs : List α} {ys : List β} (h : All2 R xs ys) (j : Nat) {x : α} {y : β} (hxy : R x y) : All2 R (xs.set j x) (ys.set j y) := by
  refine ⟨by simp [h.1], fun i a b ha hb => ?_⟩
  rw [List.getElem?_set] at ha hb
  by_cases e : j = i
  · subst e
    simp only [if_true] at ha hb
    split at ha
    · split at hb
      · cases ha; cases hb; exact hxy
      · cases hb
    · cases ha
  · rw [if_neg e] at ha hb
    exact h.2 i a b ha hb
theorem All2.take {α β : Type} {R : α → β → Prop} {xs : List α} {ys : List β} (h : All2 R xs ys) (n : Nat) : All2 R (xs.take n) (ys.take n) := by
  refine ⟨by simp [h.1], fun i a b ha hb => ?_⟩
  rw [List.getElem?_take] at ha hb
  split at ha
  · rename_i hi; rw [if_pos hi] at hb; exact h.2 i a b ha hb
  · cases ha
theorem All2.drop {α β : Type} {R : α → β → Prop} {xs : List α} {ys : List β} (h : All2 R xs ys) (n : Nat) : All2 R (xs.drop n) (ys.drop n) := by
  refine ⟨by simp [h.1], fun i a b ha hb => ?_⟩
  rw [List.getElem?_drop] at ha hb
  exact h.2 _ a b ha hb

/-- What a slice of a block is in the machine, where the block is as long as it was when the slice was made. -/
def SlOk (l : Loc) (blk : Blk) (off len : Nat) (v : Value) : Prop :=
  ∃ A c, v = .slice (some A) len c ∧ len ≤ c ∧ c ≤ maxLen ∧ ((len = 0 ∧ 0 < off) ∨ A = ⟨l.g, l.o + off, none⟩) ∧ (blk.own = true → off = 0 → c * blk.sz = l.c)

/-- An abstract value of one cell that bears no function, and the machine's. -/
inductive VR0 (μ : Map) (h : Heap) : Value → Value → Prop
  | prim (v : Value) (hp : prim v = true) : VR0 μ h v v
  | hollow (A : Addr) : VR0 μ h (.slice none 0 0) (.slice (some A) 0 0)
  | sl (b off len cap : Nat) (v : Value) (blk : Blk) (hb : h[b]? = some blk) (hle : len ≤ cap) (hc : off + cap * blk.sz ≤ blk.cells.length)
      (hv : off + cap * blk.sz = blk.cells.length → SlOk (μ b) blk off len v) (hw : v.oneCell' = true) : VR0 μ h (.slice (some ⟨b, off, none⟩) len cap) v
  | ptr (b off L : Nat) (v : Value) (blk : Blk) (hb : h[b]? = some blk) (hc : L ≤ blk.cells.length)
      (hv : L = blk.cells.length → v = .pointer (some ⟨(μ b).g, (μ b).o + off, none⟩)) (hw : v.oneCell' = true) : VR0 μ h (.pointer (some ⟨b, off, some L⟩)) v

/-- .. of one cell. -/
inductive VR1 (μ : Map) (h : Heap) : Value → Value → Prop
  | base (v v' : Value) (k : VR0 μ h v v') : VR1 μ h v v'
  | fn (f : Fn) (xs ys : List Value) (k : All2 (VR0 μ h) xs ys) : VR1 μ h (.func f #[] ⟨xs⟩) (.func f #[] ⟨ys⟩)

/-- .. of one cell or a row of cells. -/
inductive VRA (μ : Map) (h : Heap) : Value → Value → Prop
  | one (v v' : Value) (k : VR1 μ h v v') : VRA μ h v v'
  | agg (xs ys : List Value) (k : All2 (VR1 μ h) xs ys) : VRA μ h (.agg ⟨xs⟩) (.agg ⟨ys⟩)

/-- .. of a slot; 'undef' says nothing; '.map none' says that nothing was laid there. -/
inductive VR (μ : Map) (h : Heap) : Value → Value → Prop
  | dead (v : Value) : VR μ h undef v
  | gone : VR μ h (.map none) undef
  | val (v v' : Value) (k : VRA μ h v v') : VR μ h v v'
  | tup (xs ys : List Value) (k : All2 (VRA μ h) xs ys) : VR μ h (.tuple ⟨xs⟩) (.tuple ⟨ys⟩)

theorem VR0.oneCell {μ : Map} {h : Heap} {v v' : Value} (k : VR0 μ h v v') : v'.oneCell' = true := by
  cases k with
  | prim _ hp => cases v <;> first | rfl | (simp [Ab.prim] at hp)
  | hollow => rfl
  | sl _ _ _ _ _ _ _ _ _ _ hw => exact hw
  | ptr _ _ _ _ _ _ _ _ hw => exact hw
theorem VR1.oneCell {μ : Map} {h : Heap} {v v' : Value} (k : VR1 μ h v v') : v'.oneCell' = true := by
  cases k with
  | base _ _ k => exact k.oneCell
  | fn => rfl

/-- The memory has grown, or has been written: what was there is there, longer perhaps. -/
def Up (μ : Map) (h : Heap) (μ' : Map) (h' : Heap) : Prop :=
  ∀ (b : Nat) (blk : Blk), h[b]? = some blk → ∃ blk', h'[b]? = some blk' ∧ blk'.sz = blk.sz ∧ blk'.own = blk.own ∧ blk'.ty = blk.ty ∧ blk.cells.length ≤ blk'.cells.length ∧
    (blk'.cells.length = blk.cells.length → μ' b = μ b)

theorem Up.refl (μ : Map) (h : Heap) : Up μ h μ h := fun _ blk hb => ⟨blk, hb, rfl, rfl, rfl, Nat.le_refl _, fun _ => rfl⟩
theorem Up.trans {μ μ' μ'' : Map} {h h' h'' : Heap} (a : Up μ h μ' h') (c : Up μ' h' μ'' h'') : Up μ h μ'' h'' := by
  intro b blk hb
  obtain ⟨b1, e1, s1, o1, t1, l1, m1⟩ := a b blk hb
  obtain ⟨b2, e2, s2, o2, t2, l2, m2⟩ := c b b1 e1
  exact ⟨b2, e2, s2.trans s1, o2.trans o1, t2.trans t1, Nat.le_trans l1 l2, fun e => (m2 (by omega)).trans (m1 (by omega))⟩

theorem VR0.up {μ μ' : Map} {h h' : Heap} (u : Up μ h μ' h') {v v' : Value} (k : VR0 μ h v v') : VR0 μ' h' v v' := by
  cases k with
  | prim _ hp => exact .prim _ hp
  | hollow A => exact .hollow A
  | sl b off len cap _ blk hb hle hc hv hw =>
    obtain ⟨b1, e1, s1, o1, t1, l1, m1⟩ := u b blk hb
    refine .sl b off len cap _ b1 e1 hle (by rw [s1]; omega) (fun e => ?_) hw
    rw [s1] at e
    have := hv (by omega)
    rw [m1 (by omega)]
    obtain ⟨A, c, h1, h2, h3, h4, h5⟩ := this
    exact ⟨A, c, h1, h2, h3, h4, fun ho hz => by rw [s1]; exact h5 (by rw [← o1]; exact ho) hz⟩
  | ptr b off L _ blk hb hc hv hw =>
    obtain ⟨b1, e1, s1, o1, t1, l1, m1⟩ := u b blk hb
    exact .ptr b off L _ b1 e1 (by omega) (fun e => by rw [m1 (by omega)]; exact hv (by omega)) hw
theorem VR1.up {μ μ' : Map} {h h' : Heap} (u : Up μ h μ' h') {v v' : Value} (k : VR1 μ h v v') : VR1 μ' h' v v' := by
  cases k with
  | base _ _ k => exact .base _ _ (k.up u)
  | fn f xs ys k => exact .fn f xs ys (k.imp fun _ _ q => q.up u)
theorem VRA.up {μ μ' : Map} {h h' : Heap} (u : Up μ h μ' h') {v v' : Value} (k : VRA μ h v v') : VRA μ' h' v v' := by
  cases k with
  | one _ _ k => exact .one _ _ (k.up u)
  | agg xs ys k => exact .agg xs ys (k.imp fun _ _ q => q.up u)
theorem VR.up {μ μ' : Map} {h h' : Heap} (u : Up μ h μ' h') {v v' : Value} (k : VR μ h v v') : VR μ' h' v v' := by
  cases k with
  | dead => exact .dead _
  | gone => exact .gone
  | val _ _ k => exact .val _ _ (k.up u)
  | tup xs ys k => exact .tup xs ys (k.imp fun _ _ q => q.up u)

/-- The world shows the memory. -/
structure HRel (μ : Map) (h : Heap) (w : World) : Prop where
  cell : ∀ (b : Nat) (blk : Blk), h[b]? = some blk → ∀ (i : Nat) (v : Value), blk.cells[i]? = some v → ∃ v', w.cell? ⟨(μ b).g, (μ b).o + i, none⟩ = some v' ∧ VR1 μ h v v'
  pos : ∀ (b : Nat) (blk : Blk), h[b]? = some blk → 0 < blk.sz
  lt : ∀ (b : Nat) (blk : Blk), h[b]? = some blk → (μ b).g < w.heap.size
  own : ∀ (b : Nat) (blk : Blk), h[b]? = some blk → blk.own = true → (μ b).o = 0 ∧ ∃ cur, w.heap[(μ b).g]? = some (.cells cur blk.ty (0, 0)) ∧ cur.size = (μ b).c ∧ blk.cells.length ≤ cur.size
  sep : ∀ (b b' : Nat) (blk blk' : Blk), h[b]? = some blk → h[b']? = some blk' → blk.own = true → b ≠ b' → (μ b').g ≠ (μ b).g

/-- 'g' is a block of the machine that the memory's owner may write. -/
def Mine (μ : Map) (h : Heap) (g : Nat) : Prop := ∃ b blk, h[b]? = some blk ∧ blk.own = true ∧ (μ b).g = g

/-- From one world to the next: outside of what is mine nothing that was there has turned. -/
structure Frame1 (μ : Map) (h : Heap) (w w' : World) : Prop where
  os : w'.os = w.os
  tape : w'.tape = w.tape
  output : w'.output = w.output
  size : w.heap.size ≤ w'.heap.size
  block : ∀ k, k < w.heap.size → ¬ Mine μ h k → w'.heap[k]? = w.heap[k]?

/-- What is mine then is new, or was mine. -/
def Keeps (μ : Map) (h : Heap) (w : World) (μ' : Map) (h' : Heap) : Prop := ∀ g, Mine μ' h' g → w.heap.size ≤ g ∨ Mine μ h g

/-- The machine's block lies behind a block of the memory. -/
def In (μ : Map) (h : Heap) (g : Nat) : Prop := ∃ b blk, h[b]? = some blk ∧ (μ b).g = g

/-- A step from one memory to the next, in a world. -/
structure To (μ : Map) (h : Heap) (w : World) (μ' : Map) (h' : Heap) (w' : World) : Prop where
  up : Up μ h μ' h'
  frame : Frame1 μ h w w'
  keeps : Keeps μ h w μ' h'
  ins : ∀ g, In μ' h' g → w.heap.size ≤ g ∨ In μ h g

theorem Frame1.refl (μ : Map) (h : Heap) (w : World) : Frame1 μ h w w := ⟨rfl, rfl, rfl, Nat.le_refl _, fun _ _ _ => rfl⟩
theorem To.refl (μ : Map) (h : Heap) (w : World) : To μ h w μ h w := ⟨Up.refl _ _, Frame1.refl _ _ _, fun _ k => .inr k, fun _ k => .inr k⟩
theorem To.trans {μ μ' μ'' : Map} {h h' h'' : Heap} {w w' w'' : World} (a : To μ h w μ' h' w') (c : To μ' h' w' μ'' h'' w'') : To μ h w μ'' h'' w'' := by
  refine ⟨a.up.trans c.up, ⟨c.frame.os.trans a.frame.os, c.frame.tape.trans a.frame.tape, c.frame.output.trans a.frame.output, Nat.le_trans a.frame.size c.frame.size, fun k hk hm => ?_⟩, fun g hg => ?_, fun g hg => ?_⟩
  · rw [c.frame.block k (Nat.lt_of_lt_of_le hk a.frame.size) (fun hm' => ?_), a.frame.block k hk hm]
    rcases a.keeps k hm' with h1 | h1
    · omega
    · exact hm h1
  · rcases c.keeps g hg with h1 | h1
    · exact .inl (Nat.le_trans a.frame.size h1)
    · exact a.keeps g h1
  · rcases c.ins g hg with h1 | h1
    · exact .inl (Nat.le_trans a.frame.size h1)
    · exact a.ins g h1

theorem To.drew (μ : Map) (h : Heap) (w : World) : To μ h w μ h w.drew := ⟨Up.refl _ _, ⟨rfl, rfl, rfl, Nat.le_refl _, fun _ _ _ => rfl⟩, fun _ k => .inr k, fun _ k => .inr k⟩
theorem HRel.drew {μ : Map} {h : Heap} {w : World} (k : HRel μ h w) : HRel μ h w.drew := ⟨k.cell, k.pos, k.lt, k.own, k.sep⟩
theorem HRel.count {μ : Map} {h : Heap} {w : World} (k : HRel μ h w) (n : Nat) : HRel μ h { w with drawn := n } := ⟨k.cell, k.pos, k.lt, k.own, k.sep⟩
theorem To.count (μ : Map) (h : Heap) (w : World) (n : Nat) : To μ h w μ h { w with drawn := n } := ⟨Up.refl _ _, ⟨rfl, rfl, rfl, Nat.le_refl _, fun _ _ _ => rfl⟩, fun _ k => .inr k, fun _ k => .inr k⟩

end Go.Proofs.Ytlndlccbecnjoaa.Ab
