/- Joined: R, P0, R8, P10, P11, P12, P13, P14. No conditions. -/
import Derived.Test.YthfeahanmbmjhaaGreatDoorA3
import Derived.IntWalk
import Derived.Laws.StructEq
import Derived.Lib.AtoiAll
import Derived.Lib.ItoaNum
set_option linter.unusedSimpArgs false
set_option linter.unusedVariables false
set_option linter.unnecessarySimpa false
set_option maxHeartbeats 4000000
/- Rows: a slice that shows a list of rows. No conditions. -/
namespace Go.Proofs.YthfeahanmbmjhaaGreatDoor.Ab
open Go.RowKit
section
variable {t : Nat → Value} {loc : Nat → Option (List Value)} {al : Nat → Option (Nat × Nat)} {h h0 : Heap}
/-- One result in a box. -/
theorem rets_box {F : Fun} {r : Value × Heap} {e : Exit} {d n : Nat} {agg : Bool} {cs : List Value} {v : Value} (hF : F.res = [.box d n agg]) (he : e = .ret ∨ e = .normal) (hl : loc d = some cs) (hn : n ≤ cs.length) (hv : ofCells agg (cs.take n) = some v) (hlive : live v = true) (hf : finish h0 (v, h) = r) : Rets F h0 r e ⟨t, loc, al, h⟩ := by
  refine ⟨he.symm, v, ?_, hf⟩
  rw [hF]
  simp [results1, Res.get, hl, hn, hv, hlive]
/-- Two results in slots. -/
theorem rets_two {F : Fun} {r : Value × Heap} {e : Exit} {d d' : Nat} (hF : F.res = [.slot d, .slot d']) (he : e = .ret ∨ e = .normal) (hl : live (t d) = true) (hl' : live (t d') = true) (hf : finish h0 (.tuple ⟨[t d, t d']⟩, h) = r) : Rets F h0 r e ⟨t, loc, al, h⟩ := by
  refine ⟨he.symm, _, ?_, hf⟩
  rw [hF]
  simp [results1, Res.get, hl, hl']
end
/-- The slice 'v' shows these rows of 'sz' cells. -/
structure Rows (h : Heap) (sz : Nat) (v : Value) (rows : List (List Value)) : Prop where
  len : ∀ r ∈ rows, r.length = sz
  is : (v = .slice none 0 0 ∧ rows = []) ∨ ∃ b off cap blk, v = .slice (some ⟨b, off, none⟩) rows.length cap ∧ h[b]? = some blk ∧ blk.sz = sz ∧ off + cap * sz = blk.cells.length ∧ rows.length ≤ cap ∧ (blk.cells.drop off).take (rows.length * sz) = rows.flatten
/-- The place of an element's cell. -/
def elemP (v : Value) (sz i off : Nat) : Value := match v with
  | .slice (some ⟨b, o, none⟩) _ cap => .pointer (some ⟨b, o + i * sz + off, some (o + cap * sz)⟩)
  | _ => .pointer none
section
variable {h h' : Heap} {sz : Nat} {v : Value} {rows : List (List Value)}
theorem Rows.up (r : Rows h sz v rows) (hp : h <+: h') : Rows h' sz v rows := by
  refine ⟨r.len, ?_⟩
  rcases r.is with hn | ⟨b, off, cap, blk, h1, h2, h3⟩
  · exact .inl hn
  · exact .inr ⟨b, off, cap, blk, h1, pre_get hp h2, h3⟩
theorem Rows.nil : Rows h sz (.slice none 0 0) [] := ⟨fun _ h => (by cases h), .inl ⟨rfl, rfl⟩⟩
theorem Rows.ln (r : Rows h sz v rows) : lnV h v = some (.int .i64 rows.length) := by
  rcases r.is with ⟨rfl, rfl⟩ | ⟨b, off, cap, blk, rfl, h2, h3, h4, h5, _⟩
  · rfl
  · simp only [lnV, h2]
    subst h3
    rw [if_pos h4]
theorem flatten_len (hl : ∀ r ∈ rows, r.length = sz) : rows.flatten.length = rows.length * sz := by
  induction rows with
  | nil => simp
  | cons r rows ih =>
    rw [List.flatten_cons, List.length_append, hl r List.mem_cons_self, ih fun q hq => hl q (List.mem_cons_of_mem _ hq), List.length_cons, Nat.add_mul]
    omega
theorem flatten_at (hl : ∀ r ∈ rows, r.length = sz) : ∀ {i : Nat} (hi : i < rows.length), (rows.flatten.drop (i * sz)).take sz = rows[i] := by
  induction rows with
  | nil => intro i hi; simp at hi
  | cons r rows ih =>
    intro i hi
    have h1 := hl r List.mem_cons_self
    cases i with
    | zero => simp [h1]
    | succ i =>
      have e : (i + 1) * sz = i * sz + sz := by rw [Nat.add_mul, Nat.one_mul]
      rw [List.flatten_cons, e, List.drop_append, h1, Nat.add_sub_cancel, List.drop_of_length_le (by omega), List.nil_append]
      exact ih (fun q hq => hl q (List.mem_cons_of_mem _ hq)) (by simpa using hi)
theorem Rows.ia (r : Rows h sz v rows) {k : IntKind} {i : Int} (h0 : 0 ≤ i) (hi : i < (rows.length : Int)) : iaV h sz v (.int k i) = some (elemP v sz i.toNat 0) := by
  rcases r.is with ⟨rfl, rfl⟩ | ⟨b, off, cap, blk, rfl, h2, h3, h4, h5, _⟩
  · simp at hi; omega
  · simp only [iaV, h2, elemP]
    rw [if_pos ⟨h0, hi, h3, h4⟩, h4]
    rfl
theorem Rows.ld (r : Rows h sz v rows) {i off n : Nat} (hi : i < rows.length) (hn : off + n ≤ sz) : ldC h (elemP v sz i off) n = some ((rows[i].drop off).take n) := by
  rcases r.is with ⟨rfl, rfl⟩ | ⟨b, o, cap, blk, rfl, h2, h3, h4, h5, h6⟩
  · simp at hi
  · have hm : i * sz + sz ≤ rows.length * sz := by
      have := Nat.mul_le_mul_right sz (show i + 1 ≤ rows.length by omega)
      rw [Nat.add_mul] at this
      omega
    have hm2 : rows.length * sz ≤ cap * sz := Nat.mul_le_mul_right sz h5
    simp only [ldC, h2, elemP]
    rw [if_pos ⟨h4, by omega⟩, ← flatten_at r.len hi, ← h6]
    congr 1
    rw [List.drop_take, List.take_take, List.drop_drop, List.drop_take, List.take_take, List.drop_drop]
    rw [show min (min n (sz - off)) (rows.length * sz - (i * sz + off)) = n by omega]
    congr 2
    omega
theorem elem_fa {i off k : Nat} (r : Rows h sz v rows) (hi : i < rows.length) : faV h (elemP v sz i off) k = some (elemP v sz i (off + k)) := by
  rcases r.is with ⟨rfl, rfl⟩ | ⟨b, o, cap, blk, rfl, h2, h3, h4, h5, h6⟩
  · simp at hi
  · simp only [faV, h2, elemP]
    rw [if_pos h4]
    simp only [Nat.add_assoc]
theorem Rows.row (r : Rows h sz v rows) : rowC h sz v = some rows.flatten := by
  rcases r.is with ⟨rfl, rfl⟩ | ⟨b, o, cap, blk, rfl, h2, h3, h4, h5, h6⟩
  · rfl
  · simp only [rowC, h2]
    rw [if_pos ⟨h3, h4⟩, h6]
/-- A new block shows its rows. -/
theorem Rows.made (hl : ∀ r ∈ rows, r.length = sz) {ty : TypeId} : Rows (h ++ [⟨rows.flatten, sz, ty, true⟩]) sz (.slice (some ⟨h.length, 0, none⟩) rows.length rows.length) rows := by
  refine ⟨hl, .inr ⟨h.length, 0, rows.length, ⟨rows.flatten, sz, ty, true⟩, rfl, by simp, rfl, by simp [flatten_len hl], Nat.le_refl _, ?_⟩⟩
  rw [← flatten_len hl, List.drop_zero]
  exact List.take_length
end
/-- A number that fits. -/
def I64 (n : Int) : Prop := -9223372036854775808 ≤ n ∧ n ≤ 9223372036854775807
/-- Rows of one number. -/
def ints (l : List Int) : List (List Value) := l.map fun n => [.int .i64 n]
theorem ints_len {l : List Int} : (ints l).length = l.length := by simp [ints]
theorem ints_row {l : List Int} : ∀ r ∈ ints l, r.length = 1 := by
  intro r hr
  obtain ⟨n, _, rfl⟩ := List.mem_map.1 hr
  rfl
theorem ints_get {l : List Int} {i : Nat} (hi : i < (ints l).length) : (ints l)[i] = [.int .i64 (l[i]'(by simpa [ints] using hi))] := by simp [ints]
section
variable {h : Heap} {v : Value} {l : List Int}
theorem ints_ln (r : Rows h 1 v (ints l)) : lnV h v = some (.int .i64 l.length) := by rw [r.ln, ints_len]
theorem ints_ia (r : Rows h 1 v (ints l)) {k : IntKind} {i : Int} (h0 : 0 ≤ i) (hi : i < (l.length : Int)) : iaV h 1 v (.int k i) = some (elemP v 1 i.toNat 0) := r.ia h0 (by rw [ints_len]; exact hi)
theorem ints_ld (r : Rows h 1 v (ints l)) {i : Nat} (hi : i < l.length) : ldC h (elemP v 1 i 0) 1 = some [.int .i64 l[i]] := by
  rw [r.ld (by rw [ints_len]; exact hi) (Nat.le_refl _), ints_get]
  rfl
end
theorem w64 {n : Int} (h1 : -9223372036854775808 ≤ n) (h2 : n ≤ 9223372036854775807) : IntKind.i64.wrap n = n := by rw [IntKind.wrap_i64]; omega
end Go.Proofs.YthfeahanmbmjhaaGreatDoor.Ab
/- Lists that are made and then filled, row by row; lists that grow at their end. No conditions. -/
namespace Go.Proofs.YthfeahanmbmjhaaGreatDoor.Ab
open Go.RowKit
theorem zeros_length {z : List Value} : ∀ n, (zeros z n).length = n * z.length
  | 0 => by simp [zeros]
  | n + 1 => by simp only [zeros, List.length_append, zeros_length n, Nat.add_mul]; omega
/-- The first rows, and zeros. -/
def fillC (z : List Value) (rows : List (List Value)) (n i : Nat) : List Value := (rows.take i).flatten ++ zeros z (n - i)
theorem fill_start {z : List Value} {rows : List (List Value)} {n : Nat} : zeros z n = fillC z rows n 0 := by simp [fillC]
theorem fill_end {z : List Value} {rows : List (List Value)} {n : Nat} (hn : rows.length = n) : fillC z rows n n = rows.flatten := by
  subst hn
  simp [fillC, zeros]
section
variable {h ext : Heap} {z : List Value} {rows : List (List Value)} {n sz : Nat} {ty : TypeId}
theorem take_len (hr : ∀ r ∈ rows, r.length = sz) {i : Nat} (hi : i ≤ rows.length) : (rows.take i).flatten.length = i * sz := by
  rw [flatten_len fun r h => hr r (List.mem_of_mem_take h), List.length_take, Nat.min_eq_left hi]
theorem fill_len (hr : ∀ r ∈ rows, r.length = sz) (hz : z.length = sz) (hn : rows.length = n) {i : Nat} (hi : i ≤ n) : (fillC z rows n i).length = n * sz := by
  unfold fillC
  rw [List.length_append, take_len hr (by omega), zeros_length, hz, ← Nat.add_mul]
  congr 1
  omega
theorem at_block {b : Blk} : (h ++ b :: ext)[h.length]? = some b := by simp
theorem set_block {b c : Blk} : (h ++ b :: ext).set h.length c = h ++ c :: ext := by simp
theorem fill_ia (hr : ∀ r ∈ rows, r.length = sz) (hz : z.length = sz) (hn : rows.length = n) {i : Nat} (hi : i ≤ n) {k : IntKind} {j : Int} (h0 : 0 ≤ j) (hj : j < (n : Int)) :
    iaV (h ++ ⟨fillC z rows n i, sz, ty, true⟩ :: ext) sz (.slice (some ⟨h.length, 0, none⟩) n n) (.int k j) = some (elemP (.slice (some ⟨h.length, 0, none⟩) n n) sz j.toNat 0) := by
  simp only [iaV, at_block, elemP, fill_len hr hz hn hi, Nat.zero_add, Nat.add_zero]
  simp [h0, hj]
theorem fill_st (hr : ∀ r ∈ rows, r.length = sz) (hz : z.length = sz) (hn : rows.length = n) {i : Nat} (hi : i < rows.length) :
    stC (h ++ ⟨fillC z rows n i, sz, ty, true⟩ :: ext) (elemP (.slice (some ⟨h.length, 0, none⟩) n n) sz i 0) rows[i] = some (h ++ ⟨fillC z rows n (i + 1), sz, ty, true⟩ :: ext) := by
  have hl := fill_len (z := z) hr hz hn (i := i) (by omega)
  have hri := hr rows[i] (List.getElem_mem hi)
  have hm : i * sz + sz ≤ n * sz := by
    have := Nat.mul_le_mul_right sz (show i + 1 ≤ n by omega)
    rw [Nat.add_mul] at this
    omega
  simp only [stC, at_block, elemP, hl, Nat.zero_add, Nat.add_zero, hri]
  rw [if_pos ⟨trivial, hm, trivial⟩, set_block]
  have ht := take_len hr (i := i) (by omega)
  have e : putAt (fillC z rows n i) (i * sz) rows[i] = fillC z rows n (i + 1) := by
    unfold putAt fillC
    rw [List.take_append, ht, Nat.sub_self, List.take_of_length_le (by omega), List.take_zero, List.append_nil, List.drop_append, List.drop_of_length_le (by rw [ht, hri]; omega), ht, hri, List.nil_append,
      List.take_succ_eq_append_getElem hi, List.flatten_append]
    have e1 : n - i = (n - (i + 1)) + 1 := by omega
    rw [e1]
    simp only [zeros, List.flatten_cons, List.flatten_nil, List.append_nil]
    rw [List.drop_append, List.drop_of_length_le (by rw [hz]; omega), hz, show i * sz + sz - i * sz - sz = 0 by omega, List.nil_append, List.drop_zero]
  rw [e]
end
/-- What a list that was made and filled is. -/
theorem ints_flat {l : List Int} : (ints l).flatten = l.map fun n => .int .i64 n := by
  induction l with
  | nil => rfl
  | cons a l ih => simp only [ints, List.map_cons, List.flatten_cons] at ih ⊢; rw [ih]; rfl
end Go.Proofs.YthfeahanmbmjhaaGreatDoor.Ab
/- Rows of what the functions hold: pairs, edges; an element by its place. No conditions. -/
namespace Go.Proofs.YthfeahanmbmjhaaGreatDoor.Ab
open Go.RowKit
section
variable {h : Heap} {v : Value} {α : Type} {f : α → List Value} {l : List α} {sz : Nat}
theorem map_row (hf : ∀ a, (f a).length = sz) : ∀ r ∈ l.map f, r.length = sz := by
  intro r hr
  obtain ⟨a, _, rfl⟩ := List.mem_map.1 hr
  exact hf a
theorem map_at {d : α} {i : Nat} (hi : i < l.length) : (l.map f)[i]'(by simpa using hi) = f (l.getD i d) := by
  simp [hi]
/-- All that is asked of an element at a place. -/
theorem Rows.el (r : Rows h sz v (l.map f)) (d : α) {i : Nat} (hi : i < l.length) :
    iaV h sz v (.int .i64 (i : Int)) = some (elemP v sz i 0) ∧ (∀ o k, faV h (elemP v sz i o) k = some (elemP v sz i (o + k))) ∧ ldC h (elemP v sz i 0) sz = some (f (l.getD i d)) := by
  have hi' : i < (l.map f).length := by simpa using hi
  refine ⟨by have := r.ia (k := .i64) (i := (i : Int)) (by omega) (by omega); simpa using this, fun o k => elem_fa r hi', ?_⟩
  rw [r.ld hi' (Nat.le_of_eq (Nat.zero_add sz)), map_at (d := d) hi, List.drop_zero, List.take_of_length_le]
  have := r.len (f (l.getD i d)) (by rw [← map_at (f := f) (d := d) hi]; exact List.getElem_mem _)
  omega
theorem Rows.cell (r : Rows h sz v (l.map f)) (d : α) {i o : Nat} (hi : i < l.length) (ho : o < sz) : ldC h (elemP v sz i o) 1 = some [(f (l.getD i d)).getD o undef] := by
  have hi' : i < (l.map f).length := by simpa using hi
  have hl := r.len (f (l.getD i d)) (by rw [← map_at (f := f) (d := d) hi]; exact List.getElem_mem _)
  rw [r.ld hi' (by omega), map_at (d := d) hi]
  have ho' : o < (f (l.getD i d)).length := by omega
  rw [List.drop_eq_getElem_cons ho', List.take_succ_cons, List.take_zero]
  rw [List.getD_eq_getElem?_getD (l := f (l.getD i d)), List.getElem?_eq_getElem ho', Option.getD_some]
theorem Rows.lnm (r : Rows h sz v (l.map f)) : lnV h v = some (.int .i64 l.length) := by rw [r.ln, List.length_map]
end
/-- An edge. -/
structure E where
  a : Int
  b : Int
  w1 : Int
  w2 : Int
  w3 : Int
def e0 : E := ⟨0, 0, 0, 0, 0⟩
def edgeR (e : E) : List Value := [.int .i64 e.a, .int .i64 e.b, .int .i64 e.w1, .int .i64 e.w2, .int .i64 e.w3]
theorem edgeR_len (e : E) : (edgeR e).length = 5 := rfl
abbrev edges (l : List E) : List (List Value) := l.map edgeR
theorem edge_el {h : Heap} {v : Value} {l : List E} {i : Nat} (r : Rows h 5 v (edges l)) (hi : i < l.length) :
    iaV h 5 v (.int .i64 (i : Int)) = some (elemP v 5 i 0) ∧ (∀ o k, faV h (elemP v 5 i o) k = some (elemP v 5 i (o + k))) ∧ ldC h (elemP v 5 i 0) 5 = some [.int .i64 (l.getD i e0).a, .int .i64 (l.getD i e0).b, .int .i64 (l.getD i e0).w1, .int .i64 (l.getD i e0).w2, .int .i64 (l.getD i e0).w3] ∧
    ldC h (elemP v 5 i 0) 1 = some [.int .i64 (l.getD i e0).a] ∧ ldC h (elemP v 5 i 1) 1 = some [.int .i64 (l.getD i e0).b] ∧ ldC h (elemP v 5 i 2) 1 = some [.int .i64 (l.getD i e0).w1] ∧ ldC h (elemP v 5 i 3) 1 = some [.int .i64 (l.getD i e0).w2] ∧ ldC h (elemP v 5 i 4) 1 = some [.int .i64 (l.getD i e0).w3] :=
  ⟨(r.el e0 hi).1, (r.el e0 hi).2.1, (r.el e0 hi).2.2, r.cell e0 hi (by omega), r.cell e0 hi (by omega), r.cell e0 hi (by omega), r.cell e0 hi (by omega), r.cell e0 hi (by omega)⟩
/-- A couple. -/
structure Cp where
  a : Int
  b : Int
deriving DecidableEq
def c0 : Cp := ⟨0, 0⟩
def cpR (e : Cp) : List Value := [.int .i64 e.a, .int .i64 e.b]
theorem cpR_len (e : Cp) : (cpR e).length = 2 := rfl
abbrev cps (l : List Cp) : List (List Value) := l.map cpR
theorem cp_el {h : Heap} {v : Value} {l : List Cp} {i : Nat} (r : Rows h 2 v (cps l)) (hi : i < l.length) :
    iaV h 2 v (.int .i64 (i : Int)) = some (elemP v 2 i 0) ∧ (∀ o k, faV h (elemP v 2 i o) k = some (elemP v 2 i (o + k))) ∧ ldC h (elemP v 2 i 0) 2 = some [.int .i64 (l.getD i c0).a, .int .i64 (l.getD i c0).b] ∧
    ldC h (elemP v 2 i 0) 1 = some [.int .i64 (l.getD i c0).a] ∧ ldC h (elemP v 2 i 1) 1 = some [.int .i64 (l.getD i c0).b] :=
  ⟨(r.el c0 hi).1, (r.el c0 hi).2.1, (r.el c0 hi).2.2, r.cell c0 hi (by omega), r.cell c0 hi (by omega)⟩
theorem int_el {h : Heap} {v : Value} {l : List Int} {i : Nat} (r : Rows h 1 v (ints l)) (hi : i < l.length) :
    iaV h 1 v (.int .i64 (i : Int)) = some (elemP v 1 i 0) ∧ ldC h (elemP v 1 i 0) 1 = some [.int .i64 (l.getD i 0)] :=
  ⟨(Rows.el (f := fun n => [Value.int .i64 n]) r 0 hi).1, (Rows.el (f := fun n => [Value.int .i64 n]) r 0 hi).2.2⟩
end Go.Proofs.YthfeahanmbmjhaaGreatDoor.Ab
/- Lists that are appended to, from nothing on; texts of bytes. No conditions. -/
namespace Go.Proofs.YthfeahanmbmjhaaGreatDoor.Ab
open Go.RowKit
/-- A list that is appended to, above a memory. -/
structure Acc (h : Heap) (sz : Nat) (ty : TypeId) (v : Value) (rows : List (List Value)) (hh : Heap) : Prop where
  len : ∀ r ∈ rows, r.length = sz
  is : (v = .slice none 0 0 ∧ rows = [] ∧ hh = h) ∨ (v = .slice (some ⟨h.length, 0, none⟩) rows.length rows.length ∧ hh = h ++ [⟨rows.flatten, sz, ty, true⟩])
section
variable {h hh : Heap} {sz : Nat} {ty : TypeId} {v : Value} {rws : List (List Value)}
theorem Acc.nil : Acc h sz ty (.slice none 0 0) [] h := ⟨fun _ h => (by cases h), .inl ⟨rfl, rfl, rfl⟩⟩
theorem Acc.new : Acc h sz ty (.slice (some ⟨h.length, 0, none⟩) 0 0) [] (h ++ [⟨[], sz, ty, true⟩]) := ⟨fun _ h => (by cases h), .inr ⟨rfl, rfl⟩⟩
theorem Acc.made (hl : ∀ r ∈ rws, r.length = sz) : Acc h sz ty (.slice (some ⟨h.length, 0, none⟩) rws.length rws.length) rws (h ++ [⟨rws.flatten, sz, ty, true⟩]) := ⟨hl, .inr ⟨rfl, rfl⟩⟩
theorem Acc.rows (a : Acc h sz ty v rws hh) : Rows hh sz v rws := by
  rcases a.is with ⟨rfl, rfl, rfl⟩ | ⟨rfl, rfl⟩
  · exact Rows.nil
  · exact Rows.made a.len
theorem Acc.up (a : Acc h sz ty v rws hh) : h <+: hh := by
  rcases a.is with ⟨_, _, rfl⟩ | ⟨_, rfl⟩
  · exact List.prefix_refl _
  · exact List.prefix_append _ _
theorem Acc.push (a : Acc h sz ty v rws hh) (new : List (List Value)) (hn : ∀ r ∈ new, r.length = sz) (h1 : new ≠ []) (hl : rws.length + new.length ≤ lim) :
    ∃ v' hh', appLW hh sz ty new.length v (some new.flatten) = some (v', hh') ∧ Acc h sz ty v' (rws ++ new) hh' := by
  have hf := flatten_len hn
  have h0 : ¬ new.length = 0 := fun e => h1 (List.length_eq_zero_iff.1 e)
  have hall : ∀ r ∈ rws ++ new, r.length = sz := fun r hr => by
    rcases List.mem_append.1 hr with hr | hr
    · exact a.len r hr
    · exact hn r hr
  rcases a.is with ⟨rfl, rfl, rfl⟩ | ⟨rfl, rfl⟩
  · refine ⟨.slice (some ⟨hh.length, 0, none⟩) new.length new.length, hh ++ [⟨new.flatten, sz, ty, true⟩], ?_, hall, .inr ⟨rfl, rfl⟩⟩
    simp only [appLW, appV]
    rw [if_pos hf, if_neg h0, if_pos (by simpa using hl)]
  · refine ⟨.slice (some ⟨h.length, 0, none⟩) (rws ++ new).length (rws ++ new).length, h ++ [⟨(rws ++ new).flatten, sz, ty, true⟩], ?_, hall, .inr ⟨rfl, rfl⟩⟩
    have hr := flatten_len a.len
    simp only [appLW, appV, List.getElem?_append_right (Nat.le_refl _), Nat.sub_self, List.getElem?_cons_zero, List.length_append]
    rw [if_pos hf, if_pos (by rw [hr]; omega), if_neg h0, if_pos ⟨trivial, trivial, trivial, trivial, trivial, hl⟩]
    rw [List.flatten_append, List.set_append_right _ _ (Nat.le_refl _), Nat.sub_self]
    rfl
/-- One row more. -/
theorem Acc.push1 (a : Acc h sz ty v rws hh) (cs : List Value) (hc : cs.length = sz) (hl : rws.length < lim) :
    ∃ v' hh', appLW hh sz ty 1 v (some cs) = some (v', hh') ∧ Acc h sz ty v' (rws ++ [cs]) hh' := by
  obtain ⟨v', hh', h1, h2⟩ := a.push [cs] (fun r hr => by rw [List.mem_singleton.1 hr]; exact hc) (by simp) (by simp; omega)
  rw [List.flatten_cons, List.flatten_nil, List.append_nil] at h1
  exact ⟨v', hh', h1, h2⟩
end
/-- Bytes. -/
def bys (l : List Int) : List (List Value) := l.map fun n => [.int .u8 n]
theorem ints8_u8 : ∀ l : List Int, ints8 (l.map fun n => .int .u8 n) = some l
  | [] => rfl
  | n :: l => by simp only [List.map_cons, ints8, isInt8, ints8_u8 l]
theorem bys_flat {l : List Int} : (bys l).flatten = l.map fun n => .int .u8 n := by
  induction l with
  | nil => rfl
  | cons a l ih => simp only [bys, List.map_cons, List.flatten_cons] at ih ⊢; rw [ih]; rfl
theorem bys_len {l : List Int} : (bys l).length = l.length := by simp [bys]
theorem Rows.str {h : Heap} {v : Value} {l : List Int} (r : Rows h 1 v (bys l)) : strV h v = some (.string (strOfNums l)) := by
  simp only [strV, r.row, bys_flat, ints8_u8, Option.map_some]
theorem wu8 {n : Int} (h1 : 0 ≤ n) (h2 : n ≤ 255) : IntKind.u8.wrap n = n := by rw [IntKind.wrap_u8]; omega
theorem tmodN (m k : Nat) : (m : Int).tmod (k : Int) = ((m % k : Nat) : Int) := rfl
theorem tdivN (m k : Nat) : (m : Int).tdiv (k : Int) = ((m / k : Nat) : Int) := rfl
theorem tmod128 (m : Nat) : (m : Int).tmod 128 = ((m % 128 : Nat) : Int) := rfl
theorem tdiv128 (m : Nat) : (m : Int).tdiv 128 = ((m / 128 : Nat) : Int) := rfl
theorem prs_def {t : Nat → Value} {i : Nat} {x : Opd} {l : List (Nat × Opd)} : prs t ((i, x) :: l) = (i, ov t x) :: prs t l := rfl
theorem zeros_zero {z : List Value} : zeros z 0 = [] := rfl
theorem zeros_succ {z : List Value} {n : Nat} : zeros z (n + 1) = z ++ zeros z n := rfl
theorem fillAt_nil {sz : Nat} {cs : List Value} : fillAt sz cs [] = some cs := rfl
theorem fillAt_cons {sz i : Nat} {cs : List Value} {v : Value} {l : List (Nat × Value)} : fillAt sz cs ((i, v) :: l) = match cellsOf v with
    | some vs => if vs.length = sz ∧ i * sz + sz ≤ cs.length then fillAt sz (putAt cs (i * sz) vs) l else none
    | none => none := rfl
theorem fillOff_nil {cs : List Value} : fillOff cs [] = some cs := rfl
theorem fillOff_cons {n off : Nat} {cs : List Value} {v : Value} {l : List (Nat × Nat × Value)} : fillOff cs ((off, n, v) :: l) = match cellsOf v with
    | some vs => if vs.length = n ∧ off + n ≤ cs.length then fillOff (putAt cs off vs) l else none
    | none => none := rfl
attribute [go_sem] List.getElem?_cons_zero List.getElem?_cons_succ zeros_zero zeros_succ fillAt_nil fillAt_cons fillOff_nil fillOff_cons
end Go.Proofs.YthfeahanmbmjhaaGreatDoor.Ab
/- Slices of one's own, in blocks between two places: what they show, how they are written and grow; what leaves the rest alone. No conditions. -/
namespace Go.Proofs.YthfeahanmbmjhaaGreatDoor.Ab
open Go.RowKit
/-- A slice of one's own, whose block lies between two places, shows rows. -/
structure Own (h : Heap) (lo hi sz : Nat) (ty : TypeId) (v : Value) (rows : List (List Value)) : Prop where
  len : ∀ r ∈ rows, r.length = sz
  is : (v = .slice none 0 0 ∧ rows = []) ∨ ∃ b, lo ≤ b ∧ b < hi ∧ v = .slice (some ⟨b, 0, none⟩) rows.length rows.length ∧ h[b]? = some ⟨rows.flatten, sz, ty, true⟩
/-- All blocks but those between two places are as they were. -/
structure Same (lo hi : Nat) (h h' : Heap) : Prop where
  len : h'.length = h.length
  blk : ∀ b, b < lo ∨ hi ≤ b → h'[b]? = h[b]?
theorem pre_of_get {h0 h : Heap} (hl : h0.length ≤ h.length) (hb : ∀ b, b < h0.length → h[b]? = h0[b]?) : h0 <+: h := by
  rw [List.prefix_iff_eq_take]
  apply List.ext_getElem?
  intro i
  rw [List.getElem?_take]
  split
  · rename_i hi; exact (hb i hi).symm
  · rename_i hi; rw [List.getElem?_eq_none (by omega)]
theorem get_of_pre {h0 h : Heap} (hp : h0 <+: h) {b : Nat} (hb : b < h0.length) : h[b]? = h0[b]? := by
  obtain ⟨e, rfl⟩ := hp
  rw [List.getElem?_append_left hb]
theorem pre_len {h0 h : Heap} (hp : h0 <+: h) : h0.length ≤ h.length := hp.length_le
section
variable {h h' h'' h0 : Heap} {lo hi lo' hi' sz : Nat} {ty : TypeId} {v : Value} {rws : List (List Value)}
theorem Same.refl : Same lo hi h h := ⟨rfl, fun _ _ => rfl⟩
theorem Same.trans (a : Same lo hi h h') (b : Same lo hi h' h'') : Same lo hi h h'' := ⟨b.len.trans a.len, fun x hx => (b.blk x hx).trans (a.blk x hx)⟩
theorem Same.wide (a : Same lo hi h h') (h1 : lo' ≤ lo) (h2 : hi ≤ hi') : Same lo' hi' h h' := ⟨a.len, fun b hb => a.blk b (by omega)⟩
theorem Same.pre (a : Same lo hi h h') (hp : h0 <+: h) (hl : h0.length ≤ lo) : h0 <+: h' :=
  pre_of_get (by rw [a.len]; exact pre_len hp) fun b hb => by rw [a.blk b (.inl (by omega)), get_of_pre hp hb]
theorem Own.rows (o : Own h lo hi sz ty v rws) : Rows h sz v rws := by
  refine ⟨o.len, ?_⟩
  rcases o.is with hn | ⟨b, _, _, h1, h2⟩
  · exact .inl hn
  · refine .inr ⟨b, 0, rws.length, _, h1, h2, rfl, by simp [flatten_len o.len], Nat.le_refl _, ?_⟩
    rw [← flatten_len o.len, List.drop_zero]
    exact List.take_length
theorem Own.up (o : Own h lo hi sz ty v rws) (hp : h <+: h') : Own h' lo hi sz ty v rws := by
  refine ⟨o.len, ?_⟩
  rcases o.is with hn | ⟨b, l1, l2, h1, h2⟩
  · exact .inl hn
  · exact .inr ⟨b, l1, l2, h1, pre_get hp h2⟩
theorem Own.wide (o : Own h lo hi sz ty v rws) (h1 : lo' ≤ lo) (h2 : hi ≤ hi') : Own h lo' hi' sz ty v rws := by
  refine ⟨o.len, ?_⟩
  rcases o.is with hn | ⟨b, l1, l2, h3⟩
  · exact .inl hn
  · exact .inr ⟨b, by omega, by omega, h3⟩
theorem Own.same (o : Own h lo hi sz ty v rws) (a : Same lo' hi' h h') (hd : hi ≤ lo' ∨ hi' ≤ lo) : Own h' lo hi sz ty v rws := by
  refine ⟨o.len, ?_⟩
  rcases o.is with hn | ⟨b, l1, l2, h1, h2⟩
  · exact .inl hn
  · exact .inr ⟨b, l1, l2, h1, by rw [a.blk b (by omega)]; exact h2⟩
theorem Own.nil : Own h lo hi sz ty (.slice none 0 0) [] := ⟨fun _ h => (by cases h), .inl ⟨rfl, rfl⟩⟩
theorem Own.made (hl : ∀ r ∈ rws, r.length = sz) : Own (h ++ [⟨rws.flatten, sz, ty, true⟩]) h.length (h.length + 1) sz ty (.slice (some ⟨h.length, 0, none⟩) rws.length rws.length) rws :=
  ⟨hl, .inr ⟨h.length, Nat.le_refl _, Nat.lt_succ_self _, rfl, by simp⟩⟩
theorem Acc.own (a : Acc h sz ty v rws h') : Own h' h.length h'.length sz ty v rws := by
  refine ⟨a.len, ?_⟩
  rcases a.is with ⟨rfl, rfl, rfl⟩ | ⟨rfl, rfl⟩
  · exact .inl ⟨rfl, rfl⟩
  · exact .inr ⟨h.length, Nat.le_refl _, by simp, rfl, by simp⟩
theorem putAt_flat (hl : ∀ r ∈ rws, r.length = sz) : ∀ {i : Nat} (hi : i < rws.length) {k : Nat} {vs : List Value}, k + vs.length ≤ sz →
    putAt rws.flatten (i * sz + k) vs = (rws.set i (putAt rws[i] k vs)).flatten := by
  induction rws with
  | nil => intro i hi; simp at hi
  | cons r rws ih =>
    intro i hi k vs hk
    have h1 := hl r List.mem_cons_self
    cases i with
    | zero =>
      simp only [List.flatten_cons, List.set_cons_zero, List.getElem_cons_zero, putAt, Nat.zero_mul, Nat.zero_add]
      rw [List.take_append, List.drop_append, show k - r.length = 0 by omega, show k + vs.length - r.length = 0 by omega]
      simp
    | succ i =>
      have e : (i + 1) * sz = sz + i * sz := by rw [Nat.add_mul]; omega
      have ih' := ih (fun q hq => hl q (List.mem_cons_of_mem _ hq)) (i := i) (by simpa using hi) hk
      simp only [List.flatten_cons, List.set_cons_succ, List.getElem_cons_succ]
      rw [← ih']
      unfold putAt
      rw [e, List.take_append, List.drop_append, List.take_of_length_le (by omega), List.drop_of_length_le (by omega), h1,
        show sz + i * sz + k - sz = i * sz + k by omega, show sz + i * sz + k + vs.length - sz = i * sz + k + vs.length by omega]
      simp
theorem putAt_len {cs vs : List Value} {k : Nat} (hk : k + vs.length ≤ cs.length) : (putAt cs k vs).length = cs.length := by
  unfold putAt
  simp only [List.length_append, List.length_take, List.length_drop]
  omega
theorem set_row_len {i : Nat} {r : List Value} (hl : ∀ r ∈ rws, r.length = sz) (hr : r.length = sz) : ∀ q ∈ rws.set i r, q.length = sz := by
  intro q hq
  rcases List.mem_or_eq_of_mem_set hq with hq | rfl
  · exact hl q hq
  · exact hr
/-- A part of a row is written. -/
theorem Own.st (o : Own h lo hi sz ty v rws) {i : Nat} (hi' : i < rws.length) {k : Nat} {vs : List Value} (hk : k + vs.length ≤ sz) :
    ∃ h', stC h (elemP v sz i k) vs = some h' ∧ Same lo hi h h' ∧ Own h' lo hi sz ty v (rws.set i (putAt rws[i] k vs)) := by
  have hr : (putAt rws[i] k vs).length = sz := by
    have := o.len _ (List.getElem_mem hi')
    rw [putAt_len (by omega), this]
  rcases o.is with ⟨rfl, rfl⟩ | ⟨b, l1, l2, rfl, h2⟩
  · simp at hi'
  · have hb := lt_of_get h2
    have hm : i * sz + sz ≤ rws.length * sz := by
      have := Nat.mul_le_mul_right sz (show i + 1 ≤ rws.length by omega)
      rw [Nat.add_mul] at this
      omega
    have hfl := flatten_len o.len
    refine ⟨h.set b ⟨(rws.set i (putAt rws[i] k vs)).flatten, sz, ty, true⟩, ?_, ⟨by simp, fun b' hb' => ?_⟩, set_row_len o.len hr, .inr ⟨b, l1, l2, by simp, by rw [List.getElem?_set_self hb]⟩⟩
    · simp only [stC, h2, elemP, Nat.zero_add]
      rw [if_pos ⟨hfl.symm, by omega, trivial⟩, putAt_flat o.len hi' hk]
    · rw [List.getElem?_set_ne (by omega)]
/-- Rows are appended. -/
theorem Own.push (o : Own h lo hi sz ty v rws) (hlo : lo ≤ h.length) (new : List (List Value)) (hn : ∀ r ∈ new, r.length = sz) (h1 : new ≠ []) (hl : rws.length + new.length ≤ lim) :
    ∃ v' h', appLW h sz ty new.length v (some new.flatten) = some (v', h') ∧ h.length ≤ h'.length ∧ (∀ b, b < lo ∨ (hi ≤ b ∧ b < h.length) → h'[b]? = h[b]?) ∧ Own h' lo (max hi h'.length) sz ty v' (rws ++ new) := by
  have hf := flatten_len hn
  have h0 : ¬ new.length = 0 := fun e => h1 (List.length_eq_zero_iff.1 e)
  have hall : ∀ r ∈ rws ++ new, r.length = sz := fun r hr => by
    rcases List.mem_append.1 hr with hr | hr
    · exact o.len r hr
    · exact hn r hr
  rcases o.is with ⟨rfl, rfl⟩ | ⟨b, l1, l2, rfl, h2⟩
  · refine ⟨.slice (some ⟨h.length, 0, none⟩) new.length new.length, h ++ [⟨new.flatten, sz, ty, true⟩], ?_, by simp, fun b hb => ?_, hall, .inr ⟨h.length, hlo, by simp; omega, rfl, by simp⟩⟩
    · simp only [appLW, appV]
      rw [if_pos hf, if_neg h0, if_pos (by simpa using hl)]
    · rw [List.getElem?_append_left (by omega)]
  · have hb := lt_of_get h2
    have hr := flatten_len o.len
    refine ⟨.slice (some ⟨b, 0, none⟩) (rws ++ new).length (rws ++ new).length, h.set b ⟨(rws ++ new).flatten, sz, ty, true⟩, ?_, by simp, fun b' hb' => ?_, hall, .inr ⟨b, l1, by simp; omega, rfl, by rw [List.getElem?_set_self hb]⟩⟩
    · simp only [appLW, appV, h2, List.length_append]
      rw [if_pos hf, if_pos (by rw [hr]; omega), if_neg h0, if_pos ⟨trivial, trivial, trivial, trivial, trivial, hl⟩]
      rw [List.flatten_append]
    · rw [List.getElem?_set_ne (by omega)]
theorem Own.push1 (o : Own h lo hi sz ty v rws) (hlo : lo ≤ h.length) (cs : List Value) (hc : cs.length = sz) (hl : rws.length < lim) :
    ∃ v' h', appLW h sz ty 1 v (some cs) = some (v', h') ∧ h.length ≤ h'.length ∧ (∀ b, b < lo ∨ (hi ≤ b ∧ b < h.length) → h'[b]? = h[b]?) ∧ Own h' lo (max hi h'.length) sz ty v' (rws ++ [cs]) := by
  obtain ⟨v', hh', h1, h2⟩ := o.push hlo [cs] (fun r hr => by rw [List.mem_singleton.1 hr]; exact hc) (by simp) (by simp; omega)
  rw [List.flatten_cons, List.flatten_nil, List.append_nil] at h1
  exact ⟨v', hh', h1, h2⟩
/-- .. the rows of another slice. -/
theorem Own.app (o : Own h lo hi sz ty v rws) (hlo : lo ≤ h.length) {x : Value} {new : List (List Value)} (hx : Rows h sz x new) (hl : rws.length + new.length ≤ lim) :
    ∃ v' h', appW h sz ty v x = some (v', h') ∧ h.length ≤ h'.length ∧ (∀ b, b < lo ∨ (hi ≤ b ∧ b < h.length) → h'[b]? = h[b]?) ∧ Own h' lo (max hi h'.length) sz ty v' (rws ++ new) := by
  have hx' := hx.row
  have e : ∃ a n c, x = .slice a n c ∧ n = new.length := by
    rcases hx.is with ⟨rfl, rfl⟩ | ⟨b, off, cap, blk, rfl, _⟩
    · exact ⟨_, _, _, rfl, rfl⟩
    · exact ⟨_, _, _, rfl, rfl⟩
  obtain ⟨a, n, c, rfl, rfl⟩ := e
  by_cases h1 : new = []
  · subst h1
    refine ⟨v, h, ?_, Nat.le_refl _, fun _ _ => rfl, by rw [List.append_nil]; exact o.wide (Nat.le_refl _) (Nat.le_max_left _ _)⟩
    simp only [appW, hx', Option.bind_some, appV]
    rcases o.is with ⟨rfl, rfl⟩ | ⟨b, l1, l2, rfl, h2⟩
    · simp
    · simp only [h2]
      rw [if_pos (by simp [flatten_len o.len])]
      simp
  · obtain ⟨v', h', h2, h3⟩ := o.push hlo new hx.len h1 hl
    refine ⟨v', h', ?_, h3⟩
    simp only [appW, hx', Option.bind_some]
    simp only [appLW] at h2
    rw [if_pos (flatten_len hx.len)] at h2
    exact h2
/-- What was there is still there. -/
theorem pre_push (hp : h0 <+: h) (hl : h0.length ≤ lo) (hg : h.length ≤ h'.length) (hb : ∀ b, b < lo ∨ (hi ≤ b ∧ b < h.length) → h'[b]? = h[b]?) : h0 <+: h' :=
  pre_of_get (Nat.le_trans (pre_len hp) hg) fun b hb' => by rw [hb b (.inl (by omega)), get_of_pre hp hb']
end
section
variable {h hh h2 : Heap} {lo hi sz : Nat} {ty : TypeId} {v : Value} {rws : List (List Value)}
theorem Own.cells (o : Own h lo hi sz ty v rws) : cellsOf v = some [v] := by
  rcases o.is with ⟨rfl, _⟩ | ⟨b, _, _, rfl, _⟩ <;> rfl
theorem Rows.cells (o : Rows h sz v rws) : cellsOf v = some [v] := by
  rcases o.is with ⟨rfl, _⟩ | ⟨b, off, cap, blk, rfl, _⟩ <;> rfl
theorem Own.live (o : Own h lo hi sz ty v rws) : live v = true := by
  rcases o.is with ⟨rfl, _⟩ | ⟨b, _, _, rfl, _⟩ <;> rfl
theorem Own.flat (o : Own h lo hi sz ty v rws) (hf : flat1 v = true) : Own h2 lo hi sz ty v rws := by
  rcases o.is with ⟨rfl, rfl⟩ | ⟨b, _, _, rfl, _⟩
  · exact Own.nil
  · cases hf
theorem Own.fin (hp : h <+: hh) (o : Own hh h.length hh.length sz ty v rws) : h <+: (finish h (v, hh)).2 ∧ Own (finish h (v, hh)).2 h.length (finish h (v, hh)).2.length sz ty (finish h (v, hh)).1 rws := by
  obtain ⟨h3, e, p3, hc⟩ := finish_cases (v := v) hp
  rw [e]
  rcases hc with rfl | ⟨hf, rfl⟩
  · exact ⟨hp, o⟩
  · refine ⟨p3, ?_⟩
    rcases o.is with ⟨rfl, rfl⟩ | ⟨b, _, _, rfl, _⟩
    · exact Own.nil
    · cases hf
end
/-- A call hands back a list of its own. -/
def Gives (r : Option (Value × Heap)) (h : Heap) (sz : Nat) (ty : TypeId) (rows : List (List Value)) : Prop :=
  ∃ v hh, r = some (v, hh) ∧ h <+: hh ∧ Own hh h.length hh.length sz ty v rows
end Go.Proofs.YthfeahanmbmjhaaGreatDoor.Ab
/- Rows of texts, pairs, asks; marks; writing a row part by part. No conditions. -/
namespace Go.Proofs.YthfeahanmbmjhaaGreatDoor.Ab
open Go.RowKit
abbrev noT : ByteArray := ⟨⟨[]⟩⟩
/-- Texts. -/
def txR (s : ByteArray) : List Value := [.string s]
theorem txR_len (s : ByteArray) : (txR s).length = 1 := rfl
abbrev texts (l : List ByteArray) : List (List Value) := l.map txR
def intR (n : Int) : List Value := [.int .i64 n]
theorem intR_len (n : Int) : (intR n).length = 1 := rfl
theorem ints_map {l : List Int} : ints l = l.map intR := rfl
/-- A pair of a map. -/
structure Pr where
  k : ByteArray
  v : ByteArray
deriving DecidableEq
def p0 : Pr := ⟨noT, noT⟩
def prR (p : Pr) : List Value := [.string p.k, .string p.v]
theorem prR_len (p : Pr) : (prR p).length = 2 := rfl
abbrev prsL (l : List Pr) : List (List Value) := l.map prR
/-- An ask. -/
structure Aq where
  op : Int
  a : Int
  b : Int
  w1 : Int
  w2 : Int
  w3 : Int
def a0 : Aq := ⟨0, 0, 0, 0, 0, 0⟩
def aqR (x : Aq) : List Value := [.int .i64 x.op, .int .i64 x.a, .int .i64 x.b, .int .i64 x.w1, .int .i64 x.w2, .int .i64 x.w3]
theorem aqR_len (x : Aq) : (aqR x).length = 6 := rfl
abbrev asks (l : List Aq) : List (List Value) := l.map aqR
theorem mkW_ok {h : Heap} {sz : Nat} {ty : TypeId} {z : List Value} {n : Nat} (hn : n ≤ lim) : mkW h sz ty z (.int .i64 (n : Int)) = some (.slice (some ⟨h.length, 0, none⟩) n n, h ++ [⟨zeros z n, sz, ty, true⟩]) := by
  simp only [mkW]
  rw [if_pos ⟨by omega, by exact_mod_cast hn⟩, Int.toNat_natCast]
/-- Rows of marks. -/
def mkRows (row : Nat → List Value) (k F n : Nat) : List (List Value) := (List.range n).map fun i => row (k + i * F)
theorem mkRows_len {row : Nat → List Value} {k F n : Nat} : (mkRows row k F n).length = n := by simp [mkRows]
theorem range_getD {n i : Nat} (hi : i < n) : (List.range n).getD i 0 = i := by simp [hi]
section
variable {h h' h0 : Heap} {lo hi sz : Nat} {ty : TypeId} {v : Value} {rws : List (List Value)}
theorem Own.el (o : Own h lo hi sz ty v rws) {i : Nat} (hi' : i < rws.length) : iaV h sz v (.int .i64 (i : Int)) = some (elemP v sz i 0) ∧ ∀ o k, faV h (elemP v sz i o) k = some (elemP v sz i (o + k)) :=
  ⟨by have := o.rows.ia (k := .i64) (i := (i : Int)) (by omega) (by omega); simpa using this, fun _ _ => elem_fa o.rows hi'⟩
theorem Own.ln (o : Own h lo hi sz ty v rws) : lnV h v = some (.int .i64 rws.length) := o.rows.ln
theorem putAt_at {i : Nat} {r : List Value} (hi' : i < rws.length) (h' : i < (rws.set i r).length) : (rws.set i r)[i] = r := by simp
/-- A part of the row that is being written. -/
theorem Own.st2 {i : Nat} {r : List Value} (o : Own h lo hi sz ty v (rws.set i r)) (hi' : i < rws.length) {k : Nat} {vs : List Value} (hk : k + vs.length ≤ sz) :
    ∃ h', stC h (elemP v sz i k) vs = some h' ∧ Same lo hi h h' ∧ Own h' lo hi sz ty v (rws.set i (putAt r k vs)) := by
  obtain ⟨h', h1, h2, h3⟩ := o.st (i := i) (by simpa using hi') hk
  rw [putAt_at hi', List.set_set] at h3
  exact ⟨h', h1, h2, h3⟩
theorem Own.self {i : Nat} (o : Own h lo hi sz ty v rws) (hi' : i < rws.length) : Own h lo hi sz ty v (rws.set i rws[i]) := by rw [List.set_getElem_self]; exact o
theorem Own.row_len (o : Own h lo hi sz ty v rws) {i : Nat} (hi' : i < rws.length) : rws[i].length = sz := o.len _ (List.getElem_mem hi')
theorem rows_eq {rws rws' : List (List Value)} (h1 : rws.length = rws'.length) (h2 : ∀ j, j < rws.length → rws[j]? = rws'[j]?) : rws = rws' := by
  apply List.ext_getElem?
  intro j
  by_cases hj : j < rws.length
  · exact h2 j hj
  · rw [List.getElem?_eq_none (by omega), List.getElem?_eq_none (by omega)]
theorem mkRows_get {row : Nat → List Value} {k F n j : Nat} (hj : j < n) : (mkRows row k F n)[j]? = some (row (k + j * F)) := by simp [mkRows, hj]
end
/-- The figures of a mark. -/
def mkD (n : Nat) (s : ByteArray) : ByteArray := if 0 < n then mkD (n / 10) (strOfNums [((48 + n % 10 : Nat) : Int)] ++ s) else s
termination_by n
decreasing_by omega
def mByte : ByteArray := ⟨⟨[109]⟩⟩
/-- A mark. -/
def mkT (n : Nat) : ByteArray := if n = 0 then ⟨⟨[109, 48]⟩⟩ else mByte ++ mkD n noT
theorem mkD_zero {s : ByteArray} : mkD 0 s = s := by unfold mkD; simp
theorem mkD_pos {n : Nat} {s : ByteArray} (h : 0 < n) : mkD n s = mkD (n / 10) (strOfNums [((48 + n % 10 : Nat) : Int)] ++ s) := by rw [mkD, if_pos h]
theorem mkD_size : ∀ (k n : Nat) (s : ByteArray), n < 10 ^ k → (mkD n s).size ≤ s.size + k := by
  intro k
  induction k with
  | zero => intro n s h; have : n = 0 := by simpa using h
            subst this; unfold mkD; simp
  | succ k ih =>
    intro n s h
    unfold mkD
    split
    · have := ih (n / 10) (strOfNums [((48 + n % 10 : Nat) : Int)] ++ s) (by rw [Nat.pow_succ] at h; exact Nat.div_lt_of_lt_mul (by omega))
      rw [ByteArray.size_append, strOfNums_size] at this
      simp only [List.length_cons, List.length_nil] at this
      omega
    · omega
section
variable {h : Heap} {a : Value}
/-- A part of a list. -/
theorem Rows.sub {rws : List (List Value)} {sz i k : Nat} (r : Rows h sz a rws) (h1 : i ≤ k) (h2 : k ≤ rws.length) (hz : 0 < sz) {lo hi : Option Value} (hlo : bnd 0 lo = some (i : Int)) (hhi : bnd rws.length hi = some (k : Int)) :
    ∃ v', slLV sz a lo hi h = some v' ∧ Rows h sz v' ((rws.drop i).take (k - i)) := by
  rcases r.is with ⟨rfl, rfl⟩ | ⟨b, off, cap, blk, rfl, g1, g2, g3, g4, g5⟩
  · have e1 : k = 0 := by simpa using h2
    have e2 : i = 0 := by omega
    subst e1; subst e2
    have g1 : bnd 0 lo = some 0 := by simpa using hlo
    have g2 : bnd 0 hi = some 0 := by simpa using hhi
    exact ⟨.slice none 0 0, by simp only [slLV, g1, g2], by simpa using Rows.nil⟩
  · have hm : i * sz ≤ k * sz := Nat.mul_le_mul_right sz h1
    have hm2 : k * sz ≤ rws.length * sz := Nat.mul_le_mul_right sz h2
    have hm3 : rws.length * sz ≤ cap * sz := Nat.mul_le_mul_right sz g4
    have hlen : ((rws.drop i).take (k - i)).length = k - i := by simp; omega
    refine ⟨.slice (some ⟨b, off + i * sz, none⟩) (k - i) (cap - i), ?_, fun q hq => r.len q (List.mem_of_mem_drop (List.mem_of_mem_take hq)), .inr ⟨b, off + i * sz, cap - i, blk, by rw [hlen], g1, g2, ?_, by omega, ?_⟩⟩
    · simp only [slLV, g1, hlo, hhi]
      rw [if_pos ⟨by omega, by omega, by omega, g2, g3⟩]
      rw [show ((k : Int) - (i : Int)).toNat = k - i by omega, Int.toNat_natCast]
    · rw [Nat.sub_mul]; omega
    · rw [hlen]
      have e2 : (rws.drop i).flatten = (blk.cells.drop (off + i * sz)).take ((rws.length - i) * sz) := by
        have : rws.flatten = (rws.take i).flatten ++ (rws.drop i).flatten := by rw [← List.flatten_append, List.take_append_drop]
        rw [← g5] at this
        have hl1 : (rws.take i).flatten.length = i * sz := by rw [flatten_len fun q hq => r.len q (List.mem_of_mem_take hq), List.length_take, Nat.min_eq_left (by omega)]
        have h3 : ((blk.cells.drop off).take (rws.length * sz)).drop (i * sz) = (rws.drop i).flatten := by rw [this, List.drop_append, hl1, Nat.sub_self, List.drop_of_length_le (by omega)]; rfl
        rw [← h3, List.drop_take, List.drop_drop, Nat.sub_mul]
      have e3 : ((rws.drop i).take (k - i)).flatten = ((rws.drop i).flatten).take ((k - i) * sz) := by
        have hl1 : ((rws.drop i).take (k - i)).flatten.length = (k - i) * sz := by rw [flatten_len fun q hq => r.len q (List.mem_of_mem_drop (List.mem_of_mem_take hq)), hlen]
        conv => rhs; rw [← List.take_append_drop (k - i) (rws.drop i), List.flatten_append]
        rw [List.take_left' hl1]
      rw [e3, e2, List.take_take, Nat.min_eq_left (Nat.mul_le_mul_right sz (by omega))]
end
end Go.Proofs.YthfeahanmbmjhaaGreatDoor.Ab
set_option linter.unusedSimpArgs false
set_option linter.unusedVariables false
set_option linter.unnecessarySimpa false
set_option maxHeartbeats 4000000
namespace Go.Proofs.YthfeahanmbmjhaaGreatDoor.Ab
theorem take_getD {α : Type} {l : List α} {i : Nat} {d : α} (hi : i < l.length) : l.take (i + 1) = l.take i ++ [l.getD i d] := by
  rw [List.take_succ_eq_append_getElem hi]
  simp [hi]
theorem getD_mem {α : Type} {l : List α} {i : Nat} {d : α} (hi : i < l.length) : l.getD i d ∈ l := by
  simp [hi]
theorem mem_getD {α : Type} {l : List α} {x d : α} (hx : x ∈ l) : ∃ i, i < l.length ∧ l.getD i d = x := by
  obtain ⟨i, hi, rfl⟩ := List.getElem_of_mem hx
  exact ⟨i, hi, by simp [hi]⟩
theorem drop_getD {α : Type} {l : List α} {i : Nat} {d : α} (hi : i < l.length) : l.drop i = l.getD i d :: l.drop (i + 1) := by
  rw [List.drop_eq_getElem_cons hi]
  simp [hi]
theorem below_succ {P : Nat → Prop} {i : Nat} (h : ∀ j, j < i → P j) (hi : P i) : ∀ j, j < i + 1 → P j := fun j hj => by
  by_cases e : j = i
  · subst e; exact hi
  · exact h j (by omega)
section
variable {α : Type} {p : α → Prop} [DecidablePred p]
end
end Go.Proofs.YthfeahanmbmjhaaGreatDoor.Ab
set_option linter.unusedSimpArgs false
set_option linter.unusedVariables false
set_option linter.unnecessarySimpa false
set_option maxHeartbeats 4000000
namespace Go.Proofs.YthfeahanmbmjhaaGreatDoor.Ab
open Go.RowKit
theorem str_eq {a b : ByteArray} : (a.toList == b.toList) = decide (a = b) := by
  rw [ByteArray.toList_eq, ByteArray.toList_eq]
  by_cases h : a = b
  · subst h; rw [decide_eq_true rfl]; exact BEq.rfl
  · have h2 : ¬ a.data.toList = b.data.toList := fun e => h (ByteArray.ext (Array.toList_inj.1 e))
    rw [decide_eq_false h]
    exact beq_eq_false_iff_ne.2 h2
/-- A text's byte. -/
def byt (s : ByteArray) (i : Nat) : Nat := (s.data.toList.getD i 0).toNat
theorem byt_lt {s : ByteArray} {i : Nat} : byt s i < 256 := (s.data.toList.getD i 0).toNat_lt
theorem ix_byt {s : ByteArray} {i : Nat} (h : i < s.size) : ixV (.string s) (.int .i64 (i : Int)) = some (.int .u8 (byt s i : Nat)) := by
  simp only [ixV]
  rw [if_pos ⟨by omega, by omega⟩, Int.toNat_natCast]
  rfl
/-- A part of a text, as numbers. -/
def segN (s : ByteArray) (a b : Nat) : List Int := ((s.data.toList.drop a).take (b - a)).map fun x => (x.toNat : Int)
theorem size_list {s : ByteArray} : s.data.toList.length = s.size := Array.length_toList
theorem segN_nil {s : ByteArray} {a : Nat} : segN s a a = [] := by simp [segN]
theorem strOfNums_inj : ∀ {l m : List Int}, (∀ x ∈ l, 0 ≤ x ∧ x < 256) → (∀ x ∈ m, 0 ≤ x ∧ x < 256) → strOfNums l = strOfNums m → l = m := by
  intro l m hl hm h
  have h1 : (l.map fun n => UInt8.ofNat n.toNat) = m.map fun n => UInt8.ofNat n.toNat := by
    have := congrArg (fun b : ByteArray => b.data.toList) h
    simpa [strOfNums_data] using this
  clear h
  induction l generalizing m with
  | nil =>
    cases m with
    | nil => rfl
    | cons b m => simp at h1
  | cons a l ih =>
    cases m with
    | nil => simp at h1
    | cons b m =>
      simp only [List.map_cons, List.cons.injEq] at h1
      have ha := hl a List.mem_cons_self
      have hb := hm b List.mem_cons_self
      have e : a = b := by
        have h2 := congrArg UInt8.toNat h1.1
        simp only [UInt8.toNat_ofNat'] at h2
        rw [Nat.mod_eq_of_lt (by omega), Nat.mod_eq_of_lt (by omega)] at h2
        omega
      rw [e, ih (fun x hx => hl x (List.mem_cons_of_mem _ hx)) (fun x hx => hm x (List.mem_cons_of_mem _ hx)) h1.2]
/-- A number's bytes. -/
def varL (n : Nat) : List Int := if 127 < n then ((n % 128 + 128 : Nat) : Int) :: varL (n / 128) else [(n : Int)]
termination_by n
decreasing_by omega
/-- .. as a text. -/
def varT (n : Nat) : ByteArray := strOfNums (varL n)
end Go.Proofs.YthfeahanmbmjhaaGreatDoor.Ab
set_option linter.unusedSimpArgs false
set_option linter.unusedVariables false
set_option linter.unnecessarySimpa false
set_option maxHeartbeats 4000000
namespace Go.Proofs.YthfeahanmbmjhaaGreatDoor.Ab
open Go.RowKit
def kLt (a b : ByteArray) : Prop := Op.bytesLess a.toList b.toList = true
theorem bl_irrefl : ∀ l : List UInt8, Op.bytesLess l l = false
  | [] => rfl
  | a :: l => by
    unfold Op.bytesLess
    rw [bl_irrefl l]
    simp
theorem bl_trans : ∀ {x y z : List UInt8}, Op.bytesLess x y = true → Op.bytesLess y z = true → Op.bytesLess x z = true
  | x, y, [], _, h => by cases y <;> simp [Op.bytesLess] at h
  | [], y, c :: z, _, _ => by simp [Op.bytesLess]
  | a :: x, [], c :: z, h, _ => by simp [Op.bytesLess] at h
  | a :: x, b :: y, c :: z, h1, h2 => by
    unfold Op.bytesLess at h1 h2 ⊢
    simp only [Bool.or_eq_true, decide_eq_true_eq, Bool.and_eq_true, beq_iff_eq] at h1 h2 ⊢
    rcases h1 with h1 | ⟨rfl, h1⟩
    · rcases h2 with h2 | ⟨rfl, h2⟩
      · exact .inl (UInt8.lt_trans h1 h2)
      · exact .inl h1
    · rcases h2 with h2 | ⟨rfl, h2⟩
      · exact .inl h2
      · exact .inr ⟨rfl, bl_trans h1 h2⟩
theorem kLt.irrefl {a : ByteArray} : ¬ kLt a a := fun h => by unfold kLt at h; rw [bl_irrefl] at h; cases h
theorem kLt.trans {a b c : ByteArray} (h : kLt a b) (k : kLt b c) : kLt a c := bl_trans h k
/-- A map that is right. -/
def MapIs (m : List Pr) : Prop := m.length ≤ 120 ∧ ∀ i, i < m.length → ((1 ≤ (m.getD i p0).k.size ∧ (m.getD i p0).k.size ≤ 8) ∧ (m.getD i p0).v.size ≤ 40) ∧ (0 < i → kLt (m.getD (i - 1) p0).k (m.getD i p0).k)
theorem MapIs.lt {m : List Pr} (h : MapIs m) {i : Nat} : ∀ {j : Nat}, i < j → j < m.length → kLt (m.getD i p0).k (m.getD j p0).k
  | 0, hij, _ => by omega
  | j + 1, hij, hj => by
    have h1 := (h.2 (j + 1) hj).2 (by omega)
    rw [Nat.add_sub_cancel] at h1
    by_cases e : i = j
    · rw [e]; exact h1
    · exact (h.lt (by omega) (by omega)).trans h1
/-- Keys stand once. -/
theorem MapIs.one {m : List Pr} (h : MapIs m) {i j : Nat} (hi : i < m.length) (hj : j < m.length) (e : (m.getD i p0).k = (m.getD j p0).k) : i = j := by
  rcases Nat.lt_trichotomy i j with k | k | k
  · have := h.lt k hj; rw [e] at this; exact absurd this kLt.irrefl
  · exact k
  · have := h.lt k hi; rw [e] at this; exact absurd this kLt.irrefl
/-- The value of a key. -/
def getK : List Pr → ByteArray → Option ByteArray
  | [], _ => none
  | p :: m, k => if p.k = k then some p.v else getK m k
theorem getK_some {k v : ByteArray} : ∀ {m : List Pr}, getK m k = some v → ∃ i, i < m.length ∧ (m.getD i p0).k = k ∧ (m.getD i p0).v = v
  | [], h => by cases h
  | p :: m, h => by
    unfold getK at h
    split at h
    · rename_i e
      cases h
      exact ⟨0, by simp, by simpa using e, by simp⟩
    · obtain ⟨i, h1, h2, h3⟩ := getK_some h
      exact ⟨i + 1, by simpa using h1, by simpa using h2, by simpa using h3⟩
theorem getK_first {k : ByteArray} : ∀ {m : List Pr} {i : Nat}, i < m.length → (m.getD i p0).k = k → (∀ j, j < i → ¬ (m.getD j p0).k = k) → getK m k = some (m.getD i p0).v
  | [], i, hi, _, _ => by simp at hi
  | p :: m, 0, _, h, _ => by unfold getK; rw [if_pos (by simpa using h)]; simp
  | p :: m, i + 1, hi, h, hj => by
    unfold getK
    rw [if_neg (by have := hj 0 (by omega); simpa using this)]
    have := getK_first (m := m) (i := i) (by simpa using hi) (by simpa using h) fun j hj' => by have := hj (j + 1) (by omega); simpa using this
    rw [this]
    simp
theorem MapIs.get {m : List Pr} (h : MapIs m) {i : Nat} (hi : i < m.length) : getK m (m.getD i p0).k = some (m.getD i p0).v :=
  getK_first hi rfl fun j hj e => by have := h.one (by omega) hi e; omega
end Go.Proofs.YthfeahanmbmjhaaGreatDoor.Ab
set_option linter.unusedSimpArgs false
set_option linter.unusedVariables false
set_option linter.unnecessarySimpa false
set_option maxHeartbeats 4000000
namespace Go.Proofs.YthfeahanmbmjhaaGreatDoor.Ab
open Go.RowKit
/-- A number's figures. -/
def decL (n : Nat) : List Int := if n < 10 then [((48 + n : Nat) : Int)] else decL (n / 10) ++ [((48 + n % 10 : Nat) : Int)]
def valD (l : List Int) : Int := l.foldl (fun a d => 10 * a + (d - 48)) 0
theorem valD_snoc {l : List Int} {d : Int} : valD (l ++ [d]) = 10 * valD l + (d - 48) := by simp [valD, List.foldl_append]
theorem decL_val : ∀ (k n : Nat), n < k → valD (decL n) = n
  | 0, n, h => by omega
  | k + 1, n, h => by
    unfold decL
    split
    · simp [valD]; omega
    · rw [valD_snoc, decL_val k (n / 10) (by omega)]
      omega
theorem decL_rng : ∀ (k n : Nat), n < k → ∀ x ∈ decL n, 48 ≤ x ∧ x ≤ 57
  | 0, n, h => by omega
  | k + 1, n, h => by
    unfold decL
    split
    · intro x hx
      rw [List.mem_singleton.1 hx]
      omega
    · intro x hx
      rcases List.mem_append.1 hx with q | q
      · exact decL_rng k (n / 10) (by omega) x q
      · rw [List.mem_singleton.1 q]
        omega
theorem decL_pos : ∀ (n : Nat), 1 ≤ (decL n).length := by
  intro n
  unfold decL
  split
  · simp
  · simp
theorem decL_len : ∀ (k n : Nat), n < 10 ^ k → 0 < k → (decL n).length ≤ k
  | 0, n, _, h => by omega
  | k + 1, n, h, _ => by
    unfold decL
    split
    · simp
    · rename_i hn
      cases k with
      | zero => simp at h; omega
      | succ k =>
        have := decL_len (k + 1) (n / 10) (by rw [Nat.pow_succ] at h; omega) (by omega)
        simp
        omega
def decT (n : Nat) : ByteArray := strOfNums (decL n)
/-- Two figures, or more. -/
def twoL (n : Nat) : List Int := if n < 10 then [48, ((48 + n : Nat) : Int)] else decL n
/-- Keys, as bytes. -/
def qL (r : Nat) : List Int := 113 :: twoL r
def rL (r i : Nat) : List Int := 114 :: (twoL r ++ twoL i)
def qK (r : Nat) : ByteArray := strOfNums (qL r)
def rK (r i : Nat) : ByteArray := strOfNums (rL r i)
/-- So many rounds. -/
def IsRnd (m : List Pr) (n : Nat) : Prop := (∀ i, i < n → (getK m (qK i)).isSome = true) ∧ getK m (qK n) = none
theorem IsRnd.one {m : List Pr} {a b : Nat} (h : IsRnd m a) (k : IsRnd m b) : a = b := by
  rcases Nat.lt_trichotomy a b with q | q | q
  · have := k.1 a q; rw [h.2] at this; cases this
  · exact q
  · have := h.1 b q; rw [k.2] at this; cases this
end Go.Proofs.YthfeahanmbmjhaaGreatDoor.Ab
set_option linter.unusedSimpArgs false
set_option linter.unusedVariables false
set_option linter.unnecessarySimpa false
set_option maxHeartbeats 4000000
namespace Go.Proofs.YthfeahanmbmjhaaGreatDoor.Ab
open Go.RowKit
/-- Pieces of a text. -/
def cutF : Nat → ByteArray → List ByteArray
  | 0, _ => []
  | f + 1, s => if 40 < s.size then s.extract 0 40 :: cutF f (s.extract 40 s.size) else if s.size = 0 then [] else [s]
def cut (s : ByteArray) : List ByteArray := cutF (s.size + 1) s
/-- So many parts stand there, one behind the other. -/
def IsParts (m : List Pr) (r n : Nat) : Prop := n ≤ 100 ∧ (∀ i, i < n → (getK m (rK r i)).isSome = true) ∧ (n = 100 ∨ getK m (rK r n) = none)
theorem IsParts.one {m : List Pr} {r a b : Nat} (h : IsParts m r a) (k : IsParts m r b) : a = b := by
  rcases Nat.lt_trichotomy a b with q | q | q
  · have h1 := k.2.1 a q
    rcases h.2.2 with e | e
    · have := k.1; omega
    · rw [e] at h1; cases h1
  · exact q
  · have h1 := h.2.1 b q
    rcases k.2.2 with e | e
    · have := h.1; omega
    · rw [e] at h1; cases h1
-- keys by their bytes
-- the parts' order
theorem MapIs.mem {m : List Pr} (h : MapIs m) {p : Pr} : p ∈ m ↔ getK m p.k = some p.v := by
  constructor
  · intro hp
    obtain ⟨i, hi, rfl⟩ := mem_getD (d := p0) hp
    exact h.get hi
  · intro hg
    obtain ⟨i, hi, h1, h2⟩ := getK_some hg
    have : p = m.getD i p0 := by
      obtain ⟨k, v⟩ := p
      have e : m.getD i p0 = ⟨k, v⟩ := by
        cases hx : m.getD i p0 with
        | mk k' v' => rw [hx] at h1 h2; simp only at h1 h2; rw [h1, h2]
      exact e.symm
    rw [this]
    exact getD_mem hi
end Go.Proofs.YthfeahanmbmjhaaGreatDoor.Ab
set_option linter.unusedSimpArgs false
set_option linter.unusedVariables false
set_option linter.unnecessarySimpa false
set_option maxHeartbeats 4000000
namespace Go.Proofs.YthfeahanmbmjhaaGreatDoor.Ab
open Go.RowKit
theorem byt_nums {L : List Int} (hr : ∀ x ∈ L, 0 ≤ x ∧ x < 256) {i : Nat} (hi : i < L.length) : ((byt (strOfNums L) i : Nat) : Int) = L.getD i 0 := by
  unfold byt
  rw [strOfNums_data]
  have hx := hr _ (getD_mem (d := 0) hi)
  have e : (L.map fun n => UInt8.ofNat n.toNat).getD i 0 = UInt8.ofNat (L.getD i 0).toNat := by simp [hi]
  rw [e]
  generalize L.getD i 0 = x at hx
  have e2 : (UInt8.ofNat x.toNat).toNat = x.toNat % 256 := by simp
  rw [e2]
  omega
-- cutting
end Go.Proofs.YthfeahanmbmjhaaGreatDoor.Ab
set_option linter.unusedSimpArgs false
set_option linter.unusedVariables false
set_option linter.unnecessarySimpa false
set_option maxHeartbeats 4000000
namespace Go.Proofs.YthfeahanmbmjhaaGreatDoor.Ab
open Go.RowKit
theorem dec_digits : ∀ (k n : Nat), n < k → Lib.decDigits n = (decL n).map fun z => UInt8.ofNat z.toNat
  | 0, n, h => by omega
  | k + 1, n, h => by
    rw [Lib.decDigits, decL]
    by_cases h1 : n < 10
    · rw [dif_pos h1, if_pos h1]; simp only [List.map_cons, List.map_nil, Int.toNat_natCast]
    · rw [dif_neg h1, if_neg h1, dec_digits k (n / 10) (by omega)]; simp only [List.map_cons, List.map_nil, List.map_append, Int.toNat_natCast]
theorem decT_data {n : Nat} : (decT n).data.toList = Lib.decDigits n := by
  unfold decT
  rw [strOfNums_data, dec_digits (n + 1) n (by omega)]
theorem decT_lib {n : Nat} : (⟨(Lib.decDigits n).toArray⟩ : ByteArray) = decT n := by
  apply ByteArray.ext
  apply Array.toList_inj.1
  rw [decT_data]
theorem decT_inj {a b : Nat} (h : decT a = decT b) : a = b := by
  have := strOfNums_inj (fun x hx => by have := decL_rng (a + 1) a (by omega) x hx; omega) (fun x hx => by have := decL_rng (b + 1) b (by omega) x hx; omega) h
  have e1 := decL_val (a + 1) a (by omega)
  have e2 := decL_val (b + 1) b (by omega)
  rw [this] at e1
  omega
theorem parse_snoc : ∀ (l : List UInt8) (acc u : Nat) (c : UInt8), Lib.parseUint10 acc l = .ok u → 48 ≤ c.toNat ∧ c.toNat ≤ 57 → u < 1844674407370955161 → Lib.parseUint10 acc (l ++ [c]) = .ok (u * 10 + (c.toNat - 48))
  | [], acc, u, c, h, hc, hu => by
    simp only [Lib.parseUint10] at h
    injection h with h
    subst h
    simp only [List.nil_append, Lib.parseUint10, if_pos hc]
    rw [if_neg (by omega), if_neg (by omega)]
  | d :: l, acc, u, c, h, hc, hu => by
    simp only [Lib.parseUint10] at h
    simp only [List.cons_append, Lib.parseUint10]
    split at h
    · rename_i hd
      rw [if_pos hd]
      split at h
      · cases h
      · rename_i h1
        rw [if_neg h1]
        split at h
        · cases h
        · rename_i h2
          rw [if_neg h2]
          exact parse_snoc l _ u c h hc hu
    · cases h
theorem dig_nat {d : Nat} (h : d < 10) : (UInt8.ofNat (48 + d)).toNat = 48 + d := by
  rw [UInt8.toNat_ofNat']; omega
theorem parse_dec : ∀ (k n : Nat), n < k → n ≤ 1000000000 → Lib.parseUint10 0 (Lib.decDigits n) = .ok n
  | 0, n, h, _ => by omega
  | k + 1, n, h, hn => by
    rw [Lib.decDigits]
    by_cases h1 : n < 10
    · rw [dif_pos h1]
      have := parse_snoc [] 0 0 (UInt8.ofNat (48 + n)) (by simp [Lib.parseUint10]) (by rw [dig_nat h1]; omega) (by omega)
      rw [dig_nat h1] at this
      simpa using this
    · rw [dif_neg h1]
      have hd : n % 10 < 10 := Nat.mod_lt _ (by omega)
      have := parse_snoc (Lib.decDigits (n / 10)) 0 (n / 10) (UInt8.ofNat (48 + n % 10)) (parse_dec k (n / 10) (by omega) (by omega)) (by rw [dig_nat hd]; omega) (by omega)
      rw [dig_nat hd] at this
      rw [this]
      congr 1
      omega
theorem digits_head {n : Nat} : ∃ c r, Lib.decDigits n = c :: r ∧ 48 ≤ c.toNat ∧ c.toNat ≤ 57 := by
  rw [dec_digits (n + 1) n (by omega)]
  have h1 := decL_pos n
  have h2 := decL_rng (n + 1) n (by omega)
  cases hd : decL n with
  | nil => rw [hd] at h1; simp at h1
  | cons d r =>
    have := h2 d (by rw [hd]; simp)
    refine ⟨_, _, rfl, ?_⟩
    rw [UInt8.toNat_ofNat']
    omega
theorem atoi_dec {n : Nat} (hn : n ≤ 1000000000) : Lib.atoiAll (Lib.decDigits n) = .ok (n : Int) := by
  obtain ⟨c, r, h, h1, h2⟩ := digits_head (n := n)
  have hp := parse_dec (n + 1) n (by omega) hn
  rw [h] at hp ⊢
  simp only [Lib.atoiAll]
  rw [if_neg (by omega)]
  have : Lib.parseMag (c :: r) = .ok n := by unfold Lib.parseMag; rw [if_neg (by simp)]; exact hp
  rw [this]
  simp only
  rw [if_neg (by omega), if_neg (by omega), if_neg (by omega)]
open Classical in
/-- The number that a text spells, if it does. -/
noncomputable def rdDec (s : ByteArray) : Option Nat := if h : ∃ n, n ≤ 1000000000 ∧ s = decT n then some (Classical.choose h) else none
theorem rdDec_some {s : ByteArray} {n : Nat} : rdDec s = some n ↔ n ≤ 1000000000 ∧ s = decT n := by
  unfold rdDec
  by_cases h : ∃ n, n ≤ 1000000000 ∧ s = decT n
  · rw [dif_pos h]
    have hs := Classical.choose_spec h
    constructor
    · intro e; injection e with e; rw [e] at hs; exact hs
    · rintro ⟨h1, h2⟩; rw [decT_inj (hs.2.symm.trans h2)]
  · rw [dif_neg h]
    exact ⟨fun e => (nomatch e), fun e => absurd ⟨n, e⟩ h⟩
theorem rdDec_none {s : ByteArray} : rdDec s = none ↔ ∀ n, n ≤ 1000000000 → ¬ s = decT n := by
  constructor
  · intro h n hn e
    have := rdDec_some.2 ⟨hn, e⟩
    rw [h] at this; cases this
  · intro h
    cases e : rdDec s with
    | none => rfl
    | some n => have := rdDec_some.1 e; exact absurd this.2 (h n this.1)
theorem atoi_none {s : ByteArray} (h : ∀ v, Lib.atoiAll s.data.toList = .ok v → False) : rdDec s = none := rdDec_none.2 fun n hn e => h n (by rw [e, decT_data]; exact atoi_dec hn)
theorem atoi_ok {s : ByteArray} {v : Int} (h : Lib.atoiAll s.data.toList = .ok v) {n : Nat} (hn : rdDec s = some n) : v = n := by
  obtain ⟨h1, h2⟩ := rdDec_some.1 hn
  rw [h2, decT_data, atoi_dec h1] at h
  injection h with h
  exact h.symm
noncomputable def dcN (s : ByteArray) : Nat := (rdDec s).getD 0
noncomputable def dcB (s : ByteArray) : Bool := (rdDec s).isSome
end Go.Proofs.YthfeahanmbmjhaaGreatDoor.Ab
