/- Rows: what slices show; slices of one's own. No conditions. -/
import Derived.Test.YtioogligololoaaA3
import Derived.IntWalk
set_option linter.unusedSimpArgs false
set_option linter.unusedVariables false
set_option linter.unnecessarySimpa false
set_option maxHeartbeats 4000000
/- Rows: a slice that shows a list of rows. No conditions. -/
namespace Go.Proofs.Ytioogligololoaa.Ab
open Go.RowKit

section
variable {t : Nat → Value} {loc : Nat → Option (List Value)} {al : Nat → Option (Nat × Nat)} {h h0 : Heap}
/-- One result in a box. -/
theorem rets_box {F : Fun} {r : Value × Heap} {e : Exit} {d n : Nat} {agg : Bool} {cs : List Value} {v : Value} (hF : F.res = [.box d n agg]) (he : e = .ret ∨ e = .normal) (hl : loc d = some cs) (hn : n ≤ cs.length) (hv : ofCells agg (cs.take n) = some v) (hlive : live v = true) (hf : finish h0 (v, h) = r) : Rets F h0 r e ⟨t, loc, al, h⟩ := by
  refine ⟨he.symm, v, ?_, hf⟩
  rw [hF]
  simp [results1, Res.get, hl, hn, hv, hlive]
/-- Two results in slots. -/
theorem rets_two {F : Fun} {r : Value × Heap} {e : Exit} {d d' : Nat} (hF : F.res = [.slot d, .slot d']) (he : e = .ret ∨ e = .normal) (hl : live (t d) = true) (hl' : live (t d') = true) (hf : finish h0 (.tuple ⟨[t d, t d']⟩, h) = r) : Rets F h0 r e ⟨t, loc, al, h⟩ := by
  refine ⟨he.symm, _, ?_, hf⟩
  rw [hF]
  simp [results1, Res.get, hl, hl']
end

/-- The slice 'v' shows these rows of 'sz' cells. -/
structure Rows (h : Heap) (sz : Nat) (v : Value) (rows : List (List Value)) : Prop where
  len : ∀ r ∈ rows, r.length = sz
  is : (v = .slice none 0 0 ∧ rows = []) ∨ ∃ b off cap blk, v = .slice (some ⟨b, off, none⟩) rows.length cap ∧ h[b]? = some blk ∧ blk.sz = sz ∧ off + cap * sz = blk.cells.length ∧ rows.length ≤ cap ∧ (blk.cells.drop off).take (rows.length * sz) = rows.flatten

/-- The place of an element's cell. -/
def elemP (v : Value) (sz i off : Nat) : Value := match v with
  | .slice (some ⟨b, o, none⟩) _ cap => .pointer (some ⟨b, o + i * sz + off, some (o + cap * sz)⟩)
  | _ => .pointer none

section
variable {h h' : Heap} {sz : Nat} {v : Value} {rows : List (List Value)}

theorem Rows.up (r : Rows h sz v rows) (hp : h <+: h') : Rows h' sz v rows := by
  refine ⟨r.len, ?_⟩
  rcases r.is with hn | ⟨b, off, cap, blk, h1, h2, h3⟩
  · exact .inl hn
  · exact .inr ⟨b, off, cap, blk, h1, pre_get hp h2, h3⟩

theorem Rows.nil : Rows h sz (.slice none 0 0) [] := ⟨fun _ h => (by cases h), .inl ⟨rfl, rfl⟩⟩

theorem Rows.ln (r : Rows h sz v rows) : lnV h v = some (.int .i64 rows.length) := by
  rcases r.is with ⟨rfl, rfl⟩ | ⟨b, off, cap, blk, rfl, h2, h3, h4, h5, _⟩
  · rfl
  · simp only [lnV, h2]
    subst h3
    rw [if_pos h4]

theorem flatten_len (hl : ∀ r ∈ rows, r.length = sz) : rows.flatten.length = rows.length * sz := by
  induction rows with
  | nil => simp
  | cons r rows ih =>
    rw [List.flatten_cons, List.length_append, hl r List.mem_cons_self, ih fun q hq => hl q (List.mem_cons_of_mem _ hq), List.length_cons, Nat.add_mul]
    omega

theorem flatten_at (hl : ∀ r ∈ rows, r.length = sz) : ∀ {i : Nat} (hi : i < rows.length), (rows.flatten.drop (i * sz)).take sz = rows[i] := by
  induction rows with
  | nil => intro i hi; simp at hi
  | cons r rows ih =>
    intro i hi
    have h1 := hl r List.mem_cons_self
    cases i with
    | zero => simp [h1]
    | succ i =>
      have e : (i + 1) * sz = i * sz + sz := by rw [Nat.add_mul, Nat.one_mul]
      rw [List.flatten_cons, e, List.drop_append, h1, Nat.add_sub_cancel, List.drop_of_length_le (by omega), List.nil_append]
      exact ih (fun q hq => hl q (List.mem_cons_of_mem _ hq)) (by simpa using hi)

theorem Rows.ia (r : Rows h sz v rows) {k : IntKind} {i : Int} (h0 : 0 ≤ i) (hi : i < (rows.length : Int)) : iaV h sz v (.int k i) = some (elemP v sz i.toNat 0) := by
  rcases r.is with ⟨rfl, rfl⟩ | ⟨b, off, cap, blk, rfl, h2, h3, h4, h5, _⟩
  · simp at hi; omega
  · simp only [iaV, h2, elemP]
    rw [if_pos ⟨h0, hi, h3, h4⟩, h4]
    rfl

theorem Rows.ld (r : Rows h sz v rows) {i off n : Nat} (hi : i < rows.length) (hn : off + n ≤ sz) : ldC h (elemP v sz i off) n = some ((rows[i].drop off).take n) := by
  rcases r.is with ⟨rfl, rfl⟩ | ⟨b, o, cap, blk, rfl, h2, h3, h4, h5, h6⟩
  · simp at hi
  · have hm : i * sz + sz ≤ rows.length * sz := by
      have := Nat.mul_le_mul_right sz (show i + 1 ≤ rows.length by omega)
      rw [Nat.add_mul] at this
      omega
    have hm2 : rows.length * sz ≤ cap * sz := Nat.mul_le_mul_right sz h5
    simp only [ldC, h2, elemP]
    rw [if_pos ⟨h4, by omega⟩, ← flatten_at r.len hi, ← h6]
    congr 1
    rw [List.drop_take, List.take_take, List.drop_drop, List.drop_take, List.take_take, List.drop_drop]
    rw [show min (min n (sz - off)) (rows.length * sz - (i * sz + off)) = n by omega]
    congr 2
    omega

theorem elem_fa {i off k : Nat} (r : Rows h sz v rows) (hi : i < rows.length) : faV h (elemP v sz i off) k = some (elemP v sz i (off + k)) := by
  rcases r.is with ⟨rfl, rfl⟩ | ⟨b, o, cap, blk, rfl, h2, h3, h4, h5, h6⟩
  · simp at hi
  · simp only [faV, h2, elemP]
    rw [if_pos h4]
    simp only [Nat.add_assoc]

theorem Rows.row (r : Rows h sz v rows) : rowC h sz v = some rows.flatten := by
  rcases r.is with ⟨rfl, rfl⟩ | ⟨b, o, cap, blk, rfl, h2, h3, h4, h5, h6⟩
  · rfl
  · simp only [rowC, h2]
    rw [if_pos ⟨h3, h4⟩, h6]

/-- A new block shows its rows. -/
theorem Rows.made (hl : ∀ r ∈ rows, r.length = sz) {ty : TypeId} : Rows (h ++ [⟨rows.flatten, sz, ty, true⟩]) sz (.slice (some ⟨h.length, 0, none⟩) rows.length rows.length) rows := by
  refine ⟨hl, .inr ⟨h.length, 0, rows.length, ⟨rows.flatten, sz, ty, true⟩, rfl, by simp, rfl, by simp [flatten_len hl], Nat.le_refl _, ?_⟩⟩
  rw [← flatten_len hl, List.drop_zero]
  exact List.take_length

end

/-- A number that fits. -/
def I64 (n : Int) : Prop := -9223372036854775808 ≤ n ∧ n ≤ 9223372036854775807
/-- Rows of one number. -/
def ints (l : List Int) : List (List Value) := l.map fun n => [.int .i64 n]
theorem ints_len {l : List Int} : (ints l).length = l.length := by simp [ints]
theorem ints_row {l : List Int} : ∀ r ∈ ints l, r.length = 1 := by
  intro r hr
  obtain ⟨n, _, rfl⟩ := List.mem_map.1 hr
  rfl
theorem ints_get {l : List Int} {i : Nat} (hi : i < (ints l).length) : (ints l)[i] = [.int .i64 (l[i]'(by simpa [ints] using hi))] := by simp [ints]

section
variable {h : Heap} {v : Value} {l : List Int}
theorem ints_ln (r : Rows h 1 v (ints l)) : lnV h v = some (.int .i64 l.length) := by rw [r.ln, ints_len]
theorem ints_ia (r : Rows h 1 v (ints l)) {k : IntKind} {i : Int} (h0 : 0 ≤ i) (hi : i < (l.length : Int)) : iaV h 1 v (.int k i) = some (elemP v 1 i.toNat 0) := r.ia h0 (by rw [ints_len]; exact hi)
theorem ints_ld (r : Rows h 1 v (ints l)) {i : Nat} (hi : i < l.length) : ldC h (elemP v 1 i 0) 1 = some [.int .i64 l[i]] := by
  rw [r.ld (by rw [ints_len]; exact hi) (Nat.le_refl _), ints_get]
  rfl
end

theorem w64 {n : Int} (h1 : -9223372036854775808 ≤ n) (h2 : n ≤ 9223372036854775807) : IntKind.i64.wrap n = n := by rw [IntKind.wrap_i64]; omega
end Go.Proofs.Ytioogligololoaa.Ab
/- Lists that are made and then filled, row by row; lists that grow at their end. No conditions. -/
namespace Go.Proofs.Ytioogligololoaa.Ab
open Go.RowKit

theorem zeros_length {z : List Value} : ∀ n, (zeros z n).length = n * z.length
  | 0 => by simp [zeros]
  | n + 1 => by simp only [zeros, List.length_append, zeros_length n, Nat.add_mul]; omega

/-- The first rows, and zeros. -/
def fillC (z : List Value) (rows : List (List Value)) (n i : Nat) : List Value := (rows.take i).flatten ++ zeros z (n - i)

theorem fill_start {z : List Value} {rows : List (List Value)} {n : Nat} : zeros z n = fillC z rows n 0 := by simp [fillC]
theorem fill_end {z : List Value} {rows : List (List Value)} {n : Nat} (hn : rows.length = n) : fillC z rows n n = rows.flatten := by
  subst hn
  simp [fillC, zeros]

section
variable {h ext : Heap} {z : List Value} {rows : List (List Value)} {n sz : Nat} {ty : TypeId}

theorem take_len (hr : ∀ r ∈ rows, r.length = sz) {i : Nat} (hi : i ≤ rows.length) : (rows.take i).flatten.length = i * sz := by
  rw [flatten_len fun r h => hr r (List.mem_of_mem_take h), List.length_take, Nat.min_eq_left hi]

theorem fill_len (hr : ∀ r ∈ rows, r.length = sz) (hz : z.length = sz) (hn : rows.length = n) {i : Nat} (hi : i ≤ n) : (fillC z rows n i).length = n * sz := by
  unfold fillC
  rw [List.length_append, take_len hr (by omega), zeros_length, hz, ← Nat.add_mul]
  congr 1
  omega

theorem at_block {b : Blk} : (h ++ b :: ext)[h.length]? = some b := by simp
theorem set_block {b c : Blk} : (h ++ b :: ext).set h.length c = h ++ c :: ext := by simp

theorem fill_ia (hr : ∀ r ∈ rows, r.length = sz) (hz : z.length = sz) (hn : rows.length = n) {i : Nat} (hi : i ≤ n) {k : IntKind} {j : Int} (h0 : 0 ≤ j) (hj : j < (n : Int)) :
    iaV (h ++ ⟨fillC z rows n i, sz, ty, true⟩ :: ext) sz (.slice (some ⟨h.length, 0, none⟩) n n) (.int k j) = some (elemP (.slice (some ⟨h.length, 0, none⟩) n n) sz j.toNat 0) := by
  simp only [iaV, at_block, elemP, fill_len hr hz hn hi, Nat.zero_add, Nat.add_zero]
  simp [h0, hj]

theorem fill_st (hr : ∀ r ∈ rows, r.length = sz) (hz : z.length = sz) (hn : rows.length = n) {i : Nat} (hi : i < rows.length) :
    stC (h ++ ⟨fillC z rows n i, sz, ty, true⟩ :: ext) (elemP (.slice (some ⟨h.length, 0, none⟩) n n) sz i 0) rows[i] = some (h ++ ⟨fillC z rows n (i + 1), sz, ty, true⟩ :: ext) := by
  have hl := fill_len (z := z) hr hz hn (i := i) (by omega)
  have hri := hr rows[i] (List.getElem_mem hi)
  have hm : i * sz + sz ≤ n * sz := by
    have := Nat.mul_le_mul_right sz (show i + 1 ≤ n by omega)
    rw [Nat.add_mul] at this
    omega
  simp only [stC, at_block, elemP, hl, Nat.zero_add, Nat.add_zero, hri]
  rw [if_pos ⟨trivial, hm, trivial⟩, set_block]
  have ht := take_len hr (i := i) (by omega)
  have e : putAt (fillC z rows n i) (i * sz) rows[i] = fillC z rows n (i + 1) := by
    unfold putAt fillC
    rw [List.take_append, ht, Nat.sub_self, List.take_of_length_le (by omega), List.take_zero, List.append_nil, List.drop_append, List.drop_of_length_le (by rw [ht, hri]; omega), ht, hri, List.nil_append,
      List.take_succ_eq_append_getElem hi, List.flatten_append]
    have e1 : n - i = (n - (i + 1)) + 1 := by omega
    rw [e1]
    simp only [zeros, List.flatten_cons, List.flatten_nil, List.append_nil]
    rw [List.drop_append, List.drop_of_length_le (by rw [hz]; omega), hz, show i * sz + sz - i * sz - sz = 0 by omega, List.nil_append, List.drop_zero]
  rw [e]

end

/-- What a list that was made and filled is. -/
theorem ints_flat {l : List Int} : (ints l).flatten = l.map fun n => .int .i64 n := by
  induction l with
  | nil => rfl
  | cons a l ih => simp only [ints, List.map_cons, List.flatten_cons] at ih ⊢; rw [ih]; rfl

end Go.Proofs.Ytioogligololoaa.Ab
/- Rows of what the functions hold: pairs, edges; an element by its place. No conditions. -/
namespace Go.Proofs.Ytioogligololoaa.Ab
open Go.RowKit

section
variable {h : Heap} {v : Value} {α : Type} {f : α → List Value} {l : List α} {sz : Nat}

theorem map_row (hf : ∀ a, (f a).length = sz) : ∀ r ∈ l.map f, r.length = sz := by
  intro r hr
  obtain ⟨a, _, rfl⟩ := List.mem_map.1 hr
  exact hf a

theorem map_at {d : α} {i : Nat} (hi : i < l.length) : (l.map f)[i]'(by simpa using hi) = f (l.getD i d) := by
  simp [hi]

/-- All that is asked of an element at a place. -/
theorem Rows.el (r : Rows h sz v (l.map f)) (d : α) {i : Nat} (hi : i < l.length) :
    iaV h sz v (.int .i64 (i : Int)) = some (elemP v sz i 0) ∧ (∀ o k, faV h (elemP v sz i o) k = some (elemP v sz i (o + k))) ∧ ldC h (elemP v sz i 0) sz = some (f (l.getD i d)) := by
  have hi' : i < (l.map f).length := by simpa using hi
  refine ⟨by have := r.ia (k := .i64) (i := (i : Int)) (by omega) (by omega); simpa using this, fun o k => elem_fa r hi', ?_⟩
  rw [r.ld hi' (Nat.le_of_eq (Nat.zero_add sz)), map_at (d := d) hi, List.drop_zero, List.take_of_length_le]
  have := r.len (f (l.getD i d)) (by rw [← map_at (f := f) (d := d) hi]; exact List.getElem_mem _)
  omega
theorem Rows.cell (r : Rows h sz v (l.map f)) (d : α) {i o : Nat} (hi : i < l.length) (ho : o < sz) : ldC h (elemP v sz i o) 1 = some [(f (l.getD i d)).getD o undef] := by
  have hi' : i < (l.map f).length := by simpa using hi
  have hl := r.len (f (l.getD i d)) (by rw [← map_at (f := f) (d := d) hi]; exact List.getElem_mem _)
  rw [r.ld hi' (by omega), map_at (d := d) hi]
  have ho' : o < (f (l.getD i d)).length := by omega
  rw [List.drop_eq_getElem_cons ho', List.take_succ_cons, List.take_zero]
  rw [List.getD_eq_getElem?_getD (l := f (l.getD i d)), List.getElem?_eq_getElem ho', Option.getD_some]
theorem Rows.lnm (r : Rows h sz v (l.map f)) : lnV h v = some (.int .i64 l.length) := by rw [r.ln, List.length_map]
end

/-- An edge. -/
structure E where
  a : Int
  b : Int
  w1 : Int
  w2 : Int
  w3 : Int
def e0 : E := ⟨0, 0, 0, 0, 0⟩
def edgeR (e : E) : List Value := [.int .i64 e.a, .int .i64 e.b, .int .i64 e.w1, .int .i64 e.w2, .int .i64 e.w3]
theorem edgeR_len (e : E) : (edgeR e).length = 5 := rfl
abbrev edges (l : List E) : List (List Value) := l.map edgeR

theorem edge_el {h : Heap} {v : Value} {l : List E} {i : Nat} (r : Rows h 5 v (edges l)) (hi : i < l.length) :
    iaV h 5 v (.int .i64 (i : Int)) = some (elemP v 5 i 0) ∧ (∀ o k, faV h (elemP v 5 i o) k = some (elemP v 5 i (o + k))) ∧ ldC h (elemP v 5 i 0) 5 = some [.int .i64 (l.getD i e0).a, .int .i64 (l.getD i e0).b, .int .i64 (l.getD i e0).w1, .int .i64 (l.getD i e0).w2, .int .i64 (l.getD i e0).w3] ∧
    ldC h (elemP v 5 i 0) 1 = some [.int .i64 (l.getD i e0).a] ∧ ldC h (elemP v 5 i 1) 1 = some [.int .i64 (l.getD i e0).b] ∧ ldC h (elemP v 5 i 2) 1 = some [.int .i64 (l.getD i e0).w1] ∧ ldC h (elemP v 5 i 3) 1 = some [.int .i64 (l.getD i e0).w2] ∧ ldC h (elemP v 5 i 4) 1 = some [.int .i64 (l.getD i e0).w3] :=
  ⟨(r.el e0 hi).1, (r.el e0 hi).2.1, (r.el e0 hi).2.2, r.cell e0 hi (by omega), r.cell e0 hi (by omega), r.cell e0 hi (by omega), r.cell e0 hi (by omega), r.cell e0 hi (by omega)⟩

/-- A couple. -/
structure Cp where
  a : Int
  b : Int
deriving DecidableEq
def c0 : Cp := ⟨0, 0⟩
def cpR (e : Cp) : List Value := [.int .i64 e.a, .int .i64 e.b]
theorem cpR_len (e : Cp) : (cpR e).length = 2 := rfl
abbrev cps (l : List Cp) : List (List Value) := l.map cpR
theorem cp_el {h : Heap} {v : Value} {l : List Cp} {i : Nat} (r : Rows h 2 v (cps l)) (hi : i < l.length) :
    iaV h 2 v (.int .i64 (i : Int)) = some (elemP v 2 i 0) ∧ (∀ o k, faV h (elemP v 2 i o) k = some (elemP v 2 i (o + k))) ∧ ldC h (elemP v 2 i 0) 2 = some [.int .i64 (l.getD i c0).a, .int .i64 (l.getD i c0).b] ∧
    ldC h (elemP v 2 i 0) 1 = some [.int .i64 (l.getD i c0).a] ∧ ldC h (elemP v 2 i 1) 1 = some [.int .i64 (l.getD i c0).b] :=
  ⟨(r.el c0 hi).1, (r.el c0 hi).2.1, (r.el c0 hi).2.2, r.cell c0 hi (by omega), r.cell c0 hi (by omega)⟩

theorem int_el {h : Heap} {v : Value} {l : List Int} {i : Nat} (r : Rows h 1 v (ints l)) (hi : i < l.length) :
    iaV h 1 v (.int .i64 (i : Int)) = some (elemP v 1 i 0) ∧ ldC h (elemP v 1 i 0) 1 = some [.int .i64 (l.getD i 0)] :=
  ⟨(Rows.el (f := fun n => [Value.int .i64 n]) r 0 hi).1, (Rows.el (f := fun n => [Value.int .i64 n]) r 0 hi).2.2⟩

end Go.Proofs.Ytioogligololoaa.Ab
/- Lists that are appended to, from nothing on; texts of bytes. No conditions. -/
namespace Go.Proofs.Ytioogligololoaa.Ab
open Go.RowKit

/-- A list that is appended to, above a memory. -/
structure Acc (h : Heap) (sz : Nat) (ty : TypeId) (v : Value) (rows : List (List Value)) (hh : Heap) : Prop where
  len : ∀ r ∈ rows, r.length = sz
  is : (v = .slice none 0 0 ∧ rows = [] ∧ hh = h) ∨ (v = .slice (some ⟨h.length, 0, none⟩) rows.length rows.length ∧ hh = h ++ [⟨rows.flatten, sz, ty, true⟩])

section
variable {h hh : Heap} {sz : Nat} {ty : TypeId} {v : Value} {rws : List (List Value)}

theorem Acc.nil : Acc h sz ty (.slice none 0 0) [] h := ⟨fun _ h => (by cases h), .inl ⟨rfl, rfl, rfl⟩⟩
theorem Acc.new : Acc h sz ty (.slice (some ⟨h.length, 0, none⟩) 0 0) [] (h ++ [⟨[], sz, ty, true⟩]) := ⟨fun _ h => (by cases h), .inr ⟨rfl, rfl⟩⟩
theorem Acc.made (hl : ∀ r ∈ rws, r.length = sz) : Acc h sz ty (.slice (some ⟨h.length, 0, none⟩) rws.length rws.length) rws (h ++ [⟨rws.flatten, sz, ty, true⟩]) := ⟨hl, .inr ⟨rfl, rfl⟩⟩
theorem Acc.rows (a : Acc h sz ty v rws hh) : Rows hh sz v rws := by
  rcases a.is with ⟨rfl, rfl, rfl⟩ | ⟨rfl, rfl⟩
  · exact Rows.nil
  · exact Rows.made a.len
theorem Acc.up (a : Acc h sz ty v rws hh) : h <+: hh := by
  rcases a.is with ⟨_, _, rfl⟩ | ⟨_, rfl⟩
  · exact List.prefix_refl _
  · exact List.prefix_append _ _

theorem Acc.push (a : Acc h sz ty v rws hh) (new : List (List Value)) (hn : ∀ r ∈ new, r.length = sz) (h1 : new ≠ []) (hl : rws.length + new.length ≤ lim) :
    ∃ v' hh', appLW hh sz ty new.length v (some new.flatten) = some (v', hh') ∧ Acc h sz ty v' (rws ++ new) hh' := by
  have hf := flatten_len hn
  have h0 : ¬ new.length = 0 := fun e => h1 (List.length_eq_zero_iff.1 e)
  have hall : ∀ r ∈ rws ++ new, r.length = sz := fun r hr => by
    rcases List.mem_append.1 hr with hr | hr
    · exact a.len r hr
    · exact hn r hr
  rcases a.is with ⟨rfl, rfl, rfl⟩ | ⟨rfl, rfl⟩
  · refine ⟨.slice (some ⟨hh.length, 0, none⟩) new.length new.length, hh ++ [⟨new.flatten, sz, ty, true⟩], ?_, hall, .inr ⟨rfl, rfl⟩⟩
    simp only [appLW, appV]
    rw [if_pos hf, if_neg h0, if_pos (by simpa using hl)]
  · refine ⟨.slice (some ⟨h.length, 0, none⟩) (rws ++ new).length (rws ++ new).length, h ++ [⟨(rws ++ new).flatten, sz, ty, true⟩], ?_, hall, .inr ⟨rfl, rfl⟩⟩
    have hr := flatten_len a.len
    simp only [appLW, appV, List.getElem?_append_right (Nat.le_refl _), Nat.sub_self, List.getElem?_cons_zero, List.length_append]
    rw [if_pos hf, if_pos (by rw [hr]; omega), if_neg h0, if_pos ⟨trivial, trivial, trivial, trivial, trivial, hl⟩]
    rw [List.flatten_append, List.set_append_right _ _ (Nat.le_refl _), Nat.sub_self]
    rfl

/-- One row more. -/
theorem Acc.push1 (a : Acc h sz ty v rws hh) (cs : List Value) (hc : cs.length = sz) (hl : rws.length < lim) :
    ∃ v' hh', appLW hh sz ty 1 v (some cs) = some (v', hh') ∧ Acc h sz ty v' (rws ++ [cs]) hh' := by
  obtain ⟨v', hh', h1, h2⟩ := a.push [cs] (fun r hr => by rw [List.mem_singleton.1 hr]; exact hc) (by simp) (by simp; omega)
  rw [List.flatten_cons, List.flatten_nil, List.append_nil] at h1
  exact ⟨v', hh', h1, h2⟩
end

/-- Bytes. -/
def bys (l : List Int) : List (List Value) := l.map fun n => [.int .u8 n]
theorem ints8_u8 : ∀ l : List Int, ints8 (l.map fun n => .int .u8 n) = some l
  | [] => rfl
  | n :: l => by simp only [List.map_cons, ints8, isInt8, ints8_u8 l]
theorem bys_flat {l : List Int} : (bys l).flatten = l.map fun n => .int .u8 n := by
  induction l with
  | nil => rfl
  | cons a l ih => simp only [bys, List.map_cons, List.flatten_cons] at ih ⊢; rw [ih]; rfl
theorem bys_len {l : List Int} : (bys l).length = l.length := by simp [bys]
theorem Rows.str {h : Heap} {v : Value} {l : List Int} (r : Rows h 1 v (bys l)) : strV h v = some (.string (strOfNums l)) := by
  simp only [strV, r.row, bys_flat, ints8_u8, Option.map_some]

theorem wu8 {n : Int} (h1 : 0 ≤ n) (h2 : n ≤ 255) : IntKind.u8.wrap n = n := by rw [IntKind.wrap_u8]; omega
theorem tmodN (m k : Nat) : (m : Int).tmod (k : Int) = ((m % k : Nat) : Int) := rfl
theorem tdivN (m k : Nat) : (m : Int).tdiv (k : Int) = ((m / k : Nat) : Int) := rfl
theorem tmod128 (m : Nat) : (m : Int).tmod 128 = ((m % 128 : Nat) : Int) := rfl
theorem tdiv128 (m : Nat) : (m : Int).tdiv 128 = ((m / 128 : Nat) : Int) := rfl

theorem prs_def {t : Nat → Value} {i : Nat} {x : Opd} {l : List (Nat × Opd)} : prs t ((i, x) :: l) = (i, ov t x) :: prs t l := rfl
theorem zeros_zero {z : List Value} : zeros z 0 = [] := rfl
theorem zeros_succ {z : List Value} {n : Nat} : zeros z (n + 1) = z ++ zeros z n := rfl
theorem fillAt_nil {sz : Nat} {cs : List Value} : fillAt sz cs [] = some cs := rfl
theorem fillAt_cons {sz i : Nat} {cs : List Value} {v : Value} {l : List (Nat × Value)} : fillAt sz cs ((i, v) :: l) = match cellsOf v with
    | some vs => if vs.length = sz ∧ i * sz + sz ≤ cs.length then fillAt sz (putAt cs (i * sz) vs) l else none
    | none => none := rfl
theorem fillOff_nil {cs : List Value} : fillOff cs [] = some cs := rfl
theorem fillOff_cons {n off : Nat} {cs : List Value} {v : Value} {l : List (Nat × Nat × Value)} : fillOff cs ((off, n, v) :: l) = match cellsOf v with
    | some vs => if vs.length = n ∧ off + n ≤ cs.length then fillOff (putAt cs off vs) l else none
    | none => none := rfl
attribute [go_sem] List.getElem?_cons_zero List.getElem?_cons_succ zeros_zero zeros_succ fillAt_nil fillAt_cons fillOff_nil fillOff_cons
end Go.Proofs.Ytioogligololoaa.Ab
/- Slices of one's own, in blocks between two places: what they show, how they are written and grow; what leaves the rest alone. No conditions. -/
namespace Go.Proofs.Ytioogligololoaa.Ab
open Go.RowKit

/-- A slice of one's own, whose block lies between two places, shows rows. -/
structure Own (h : Heap) (lo hi sz : Nat) (ty : TypeId) (v : Value) (rows : List (List Value)) : Prop where
  len : ∀ r ∈ rows, r.length = sz
  is : (v = .slice none 0 0 ∧ rows = []) ∨ ∃ b, lo ≤ b ∧ b < hi ∧ v = .slice (some ⟨b, 0, none⟩) rows.length rows.length ∧ h[b]? = some ⟨rows.flatten, sz, ty, true⟩

/-- All blocks but those between two places are as they were. -/
structure Same (lo hi : Nat) (h h' : Heap) : Prop where
  len : h'.length = h.length
  blk : ∀ b, b < lo ∨ hi ≤ b → h'[b]? = h[b]?

theorem pre_of_get {h0 h : Heap} (hl : h0.length ≤ h.length) (hb : ∀ b, b < h0.length → h[b]? = h0[b]?) : h0 <+: h := by
  rw [List.prefix_iff_eq_take]
  apply List.ext_getElem?
  intro i
  rw [List.getElem?_take]
  split
  · rename_i hi; exact (hb i hi).symm
  · rename_i hi; rw [List.getElem?_eq_none (by omega)]
theorem get_of_pre {h0 h : Heap} (hp : h0 <+: h) {b : Nat} (hb : b < h0.length) : h[b]? = h0[b]? := by
  obtain ⟨e, rfl⟩ := hp
  rw [List.getElem?_append_left hb]
theorem pre_len {h0 h : Heap} (hp : h0 <+: h) : h0.length ≤ h.length := hp.length_le

section
variable {h h' h'' h0 : Heap} {lo hi lo' hi' sz : Nat} {ty : TypeId} {v : Value} {rws : List (List Value)}

theorem Same.refl : Same lo hi h h := ⟨rfl, fun _ _ => rfl⟩
theorem Same.trans (a : Same lo hi h h') (b : Same lo hi h' h'') : Same lo hi h h'' := ⟨b.len.trans a.len, fun x hx => (b.blk x hx).trans (a.blk x hx)⟩
theorem Same.wide (a : Same lo hi h h') (h1 : lo' ≤ lo) (h2 : hi ≤ hi') : Same lo' hi' h h' := ⟨a.len, fun b hb => a.blk b (by omega)⟩
theorem Same.pre (a : Same lo hi h h') (hp : h0 <+: h) (hl : h0.length ≤ lo) : h0 <+: h' :=
  pre_of_get (by rw [a.len]; exact pre_len hp) fun b hb => by rw [a.blk b (.inl (by omega)), get_of_pre hp hb]

theorem Own.rows (o : Own h lo hi sz ty v rws) : Rows h sz v rws := by
  refine ⟨o.len, ?_⟩
  rcases o.is with hn | ⟨b, _, _, h1, h2⟩
  · exact .inl hn
  · refine .inr ⟨b, 0, rws.length, _, h1, h2, rfl, by simp [flatten_len o.len], Nat.le_refl _, ?_⟩
    rw [← flatten_len o.len, List.drop_zero]
    exact List.take_length
theorem Own.up (o : Own h lo hi sz ty v rws) (hp : h <+: h') : Own h' lo hi sz ty v rws := by
  refine ⟨o.len, ?_⟩
  rcases o.is with hn | ⟨b, l1, l2, h1, h2⟩
  · exact .inl hn
  · exact .inr ⟨b, l1, l2, h1, pre_get hp h2⟩
theorem Own.wide (o : Own h lo hi sz ty v rws) (h1 : lo' ≤ lo) (h2 : hi ≤ hi') : Own h lo' hi' sz ty v rws := by
  refine ⟨o.len, ?_⟩
  rcases o.is with hn | ⟨b, l1, l2, h3⟩
  · exact .inl hn
  · exact .inr ⟨b, by omega, by omega, h3⟩
theorem Own.same (o : Own h lo hi sz ty v rws) (a : Same lo' hi' h h') (hd : hi ≤ lo' ∨ hi' ≤ lo) : Own h' lo hi sz ty v rws := by
  refine ⟨o.len, ?_⟩
  rcases o.is with hn | ⟨b, l1, l2, h1, h2⟩
  · exact .inl hn
  · exact .inr ⟨b, l1, l2, h1, by rw [a.blk b (by omega)]; exact h2⟩
theorem Own.nil : Own h lo hi sz ty (.slice none 0 0) [] := ⟨fun _ h => (by cases h), .inl ⟨rfl, rfl⟩⟩
theorem Own.made (hl : ∀ r ∈ rws, r.length = sz) : Own (h ++ [⟨rws.flatten, sz, ty, true⟩]) h.length (h.length + 1) sz ty (.slice (some ⟨h.length, 0, none⟩) rws.length rws.length) rws :=
  ⟨hl, .inr ⟨h.length, Nat.le_refl _, Nat.lt_succ_self _, rfl, by simp⟩⟩
theorem Acc.own (a : Acc h sz ty v rws h') : Own h' h.length h'.length sz ty v rws := by
  refine ⟨a.len, ?_⟩
  rcases a.is with ⟨rfl, rfl, rfl⟩ | ⟨rfl, rfl⟩
  · exact .inl ⟨rfl, rfl⟩
  · exact .inr ⟨h.length, Nat.le_refl _, by simp, rfl, by simp⟩

theorem putAt_flat (hl : ∀ r ∈ rws, r.length = sz) : ∀ {i : Nat} (hi : i < rws.length) {k : Nat} {vs : List Value}, k + vs.length ≤ sz →
    putAt rws.flatten (i * sz + k) vs = (rws.set i (putAt rws[i] k vs)).flatten := by
  induction rws with
  | nil => intro i hi; simp at hi
  | cons r rws ih =>
    intro i hi k vs hk
    have h1 := hl r List.mem_cons_self
    cases i with
    | zero =>
      simp only [List.flatten_cons, List.set_cons_zero, List.getElem_cons_zero, putAt, Nat.zero_mul, Nat.zero_add]
      rw [List.take_append, List.drop_append, show k - r.length = 0 by omega, show k + vs.length - r.length = 0 by omega]
      simp
    | succ i =>
      have e : (i + 1) * sz = sz + i * sz := by rw [Nat.add_mul]; omega
      have ih' := ih (fun q hq => hl q (List.mem_cons_of_mem _ hq)) (i := i) (by simpa using hi) hk
      simp only [List.flatten_cons, List.set_cons_succ, List.getElem_cons_succ]
      rw [← ih']
      unfold putAt
      rw [e, List.take_append, List.drop_append, List.take_of_length_le (by omega), List.drop_of_length_le (by omega), h1,
        show sz + i * sz + k - sz = i * sz + k by omega, show sz + i * sz + k + vs.length - sz = i * sz + k + vs.length by omega]
      simp

theorem putAt_len {cs vs : List Value} {k : Nat} (hk : k + vs.length ≤ cs.length) : (putAt cs k vs).length = cs.length := by
  unfold putAt
  simp only [List.length_append, List.length_take, List.length_drop]
  omega

theorem set_row_len {i : Nat} {r : List Value} (hl : ∀ r ∈ rws, r.length = sz) (hr : r.length = sz) : ∀ q ∈ rws.set i r, q.length = sz := by
  intro q hq
  rcases List.mem_or_eq_of_mem_set hq with hq | rfl
  · exact hl q hq
  · exact hr

/-- A part of a row is written. -/
theorem Own.st (o : Own h lo hi sz ty v rws) {i : Nat} (hi' : i < rws.length) {k : Nat} {vs : List Value} (hk : k + vs.length ≤ sz) :
    ∃ h', stC h (elemP v sz i k) vs = some h' ∧ Same lo hi h h' ∧ Own h' lo hi sz ty v (rws.set i (putAt rws[i] k vs)) := by
  have hr : (putAt rws[i] k vs).length = sz := by
    have := o.len _ (List.getElem_mem hi')
    rw [putAt_len (by omega), this]
  rcases o.is with ⟨rfl, rfl⟩ | ⟨b, l1, l2, rfl, h2⟩
  · simp at hi'
  · have hb := lt_of_get h2
    have hm : i * sz + sz ≤ rws.length * sz := by
      have := Nat.mul_le_mul_right sz (show i + 1 ≤ rws.length by omega)
      rw [Nat.add_mul] at this
      omega
    have hfl := flatten_len o.len
    refine ⟨h.set b ⟨(rws.set i (putAt rws[i] k vs)).flatten, sz, ty, true⟩, ?_, ⟨by simp, fun b' hb' => ?_⟩, set_row_len o.len hr, .inr ⟨b, l1, l2, by simp, by rw [List.getElem?_set_self hb]⟩⟩
    · simp only [stC, h2, elemP, Nat.zero_add]
      rw [if_pos ⟨hfl.symm, by omega, trivial⟩, putAt_flat o.len hi' hk]
    · rw [List.getElem?_set_ne (by omega)]

/-- Rows are appended. -/
theorem Own.push (o : Own h lo hi sz ty v rws) (hlo : lo ≤ h.length) (new : List (List Value)) (hn : ∀ r ∈ new, r.length = sz) (h1 : new ≠ []) (hl : rws.length + new.length ≤ lim) :
    ∃ v' h', appLW h sz ty new.length v (some new.flatten) = some (v', h') ∧ h.length ≤ h'.length ∧ (∀ b, b < lo ∨ (hi ≤ b ∧ b < h.length) → h'[b]? = h[b]?) ∧ Own h' lo (max hi h'.length) sz ty v' (rws ++ new) := by
  have hf := flatten_len hn
  have h0 : ¬ new.length = 0 := fun e => h1 (List.length_eq_zero_iff.1 e)
  have hall : ∀ r ∈ rws ++ new, r.length = sz := fun r hr => by
    rcases List.mem_append.1 hr with hr | hr
    · exact o.len r hr
    · exact hn r hr
  rcases o.is with ⟨rfl, rfl⟩ | ⟨b, l1, l2, rfl, h2⟩
  · refine ⟨.slice (some ⟨h.length, 0, none⟩) new.length new.length, h ++ [⟨new.flatten, sz, ty, true⟩], ?_, by simp, fun b hb => ?_, hall, .inr ⟨h.length, hlo, by simp; omega, rfl, by simp⟩⟩
    · simp only [appLW, appV]
      rw [if_pos hf, if_neg h0, if_pos (by simpa using hl)]
    · rw [List.getElem?_append_left (by omega)]
  · have hb := lt_of_get h2
    have hr := flatten_len o.len
    refine ⟨.slice (some ⟨b, 0, none⟩) (rws ++ new).length (rws ++ new).length, h.set b ⟨(rws ++ new).flatten, sz, ty, true⟩, ?_, by simp, fun b' hb' => ?_, hall, .inr ⟨b, l1, by simp; omega, rfl, by rw [List.getElem?_set_self hb]⟩⟩
    · simp only [appLW, appV, h2, List.length_append]
      rw [if_pos hf, if_pos (by rw [hr]; omega), if_neg h0, if_pos ⟨trivial, trivial, trivial, trivial, trivial, hl⟩]
      rw [List.flatten_append]
    · rw [List.getElem?_set_ne (by omega)]
theorem Own.push1 (o : Own h lo hi sz ty v rws) (hlo : lo ≤ h.length) (cs : List Value) (hc : cs.length = sz) (hl : rws.length < lim) :
    ∃ v' h', appLW h sz ty 1 v (some cs) = some (v', h') ∧ h.length ≤ h'.length ∧ (∀ b, b < lo ∨ (hi ≤ b ∧ b < h.length) → h'[b]? = h[b]?) ∧ Own h' lo (max hi h'.length) sz ty v' (rws ++ [cs]) := by
  obtain ⟨v', hh', h1, h2⟩ := o.push hlo [cs] (fun r hr => by rw [List.mem_singleton.1 hr]; exact hc) (by simp) (by simp; omega)
  rw [List.flatten_cons, List.flatten_nil, List.append_nil] at h1
  exact ⟨v', hh', h1, h2⟩
/-- .. the rows of another slice. -/
theorem Own.app (o : Own h lo hi sz ty v rws) (hlo : lo ≤ h.length) {x : Value} {new : List (List Value)} (hx : Rows h sz x new) (hl : rws.length + new.length ≤ lim) :
    ∃ v' h', appW h sz ty v x = some (v', h') ∧ h.length ≤ h'.length ∧ (∀ b, b < lo ∨ (hi ≤ b ∧ b < h.length) → h'[b]? = h[b]?) ∧ Own h' lo (max hi h'.length) sz ty v' (rws ++ new) := by
  have hx' := hx.row
  have e : ∃ a n c, x = .slice a n c ∧ n = new.length := by
    rcases hx.is with ⟨rfl, rfl⟩ | ⟨b, off, cap, blk, rfl, _⟩
    · exact ⟨_, _, _, rfl, rfl⟩
    · exact ⟨_, _, _, rfl, rfl⟩
  obtain ⟨a, n, c, rfl, rfl⟩ := e
  by_cases h1 : new = []
  · subst h1
    refine ⟨v, h, ?_, Nat.le_refl _, fun _ _ => rfl, by rw [List.append_nil]; exact o.wide (Nat.le_refl _) (Nat.le_max_left _ _)⟩
    simp only [appW, hx', Option.bind_some, appV]
    rcases o.is with ⟨rfl, rfl⟩ | ⟨b, l1, l2, rfl, h2⟩
    · simp
    · simp only [h2]
      rw [if_pos (by simp [flatten_len o.len])]
      simp
  · obtain ⟨v', h', h2, h3⟩ := o.push hlo new hx.len h1 hl
    refine ⟨v', h', ?_, h3⟩
    simp only [appW, hx', Option.bind_some]
    simp only [appLW] at h2
    rw [if_pos (flatten_len hx.len)] at h2
    exact h2

/-- What was there is still there. -/
theorem pre_push (hp : h0 <+: h) (hl : h0.length ≤ lo) (hg : h.length ≤ h'.length) (hb : ∀ b, b < lo ∨ (hi ≤ b ∧ b < h.length) → h'[b]? = h[b]?) : h0 <+: h' :=
  pre_of_get (Nat.le_trans (pre_len hp) hg) fun b hb' => by rw [hb b (.inl (by omega)), get_of_pre hp hb']
end

section
variable {h hh h2 : Heap} {lo hi sz : Nat} {ty : TypeId} {v : Value} {rws : List (List Value)}
theorem Own.cells (o : Own h lo hi sz ty v rws) : cellsOf v = some [v] := by
  rcases o.is with ⟨rfl, _⟩ | ⟨b, _, _, rfl, _⟩ <;> rfl
theorem Rows.cells (o : Rows h sz v rws) : cellsOf v = some [v] := by
  rcases o.is with ⟨rfl, _⟩ | ⟨b, off, cap, blk, rfl, _⟩ <;> rfl
theorem Own.live (o : Own h lo hi sz ty v rws) : live v = true := by
  rcases o.is with ⟨rfl, _⟩ | ⟨b, _, _, rfl, _⟩ <;> rfl
theorem Own.flat (o : Own h lo hi sz ty v rws) (hf : flat1 v = true) : Own h2 lo hi sz ty v rws := by
  rcases o.is with ⟨rfl, rfl⟩ | ⟨b, _, _, rfl, _⟩
  · exact Own.nil
  · cases hf
theorem Own.fin (hp : h <+: hh) (o : Own hh h.length hh.length sz ty v rws) : h <+: (finish h (v, hh)).2 ∧ Own (finish h (v, hh)).2 h.length (finish h (v, hh)).2.length sz ty (finish h (v, hh)).1 rws := by
  obtain ⟨h3, e, p3, hc⟩ := finish_cases (v := v) hp
  rw [e]
  rcases hc with rfl | ⟨hf, rfl⟩
  · exact ⟨hp, o⟩
  · refine ⟨p3, ?_⟩
    rcases o.is with ⟨rfl, rfl⟩ | ⟨b, _, _, rfl, _⟩
    · exact Own.nil
    · cases hf
end

/-- A call hands back a list of its own. -/
def Gives (r : Option (Value × Heap)) (h : Heap) (sz : Nat) (ty : TypeId) (rows : List (List Value)) : Prop :=
  ∃ v hh, r = some (v, hh) ∧ h <+: hh ∧ Own hh h.length hh.length sz ty v rows

end Go.Proofs.Ytioogligololoaa.Ab
/- Rows of texts, pairs, asks; marks; writing a row part by part. No conditions. -/
namespace Go.Proofs.Ytioogligololoaa.Ab
open Go.RowKit

abbrev noT : ByteArray := ⟨⟨[]⟩⟩
/-- Texts. -/
def txR (s : ByteArray) : List Value := [.string s]
theorem txR_len (s : ByteArray) : (txR s).length = 1 := rfl
abbrev texts (l : List ByteArray) : List (List Value) := l.map txR
def intR (n : Int) : List Value := [.int .i64 n]
theorem intR_len (n : Int) : (intR n).length = 1 := rfl
theorem ints_map {l : List Int} : ints l = l.map intR := rfl

/-- A pair of a map. -/
structure Pr where
  k : ByteArray
  v : ByteArray
deriving DecidableEq
def p0 : Pr := ⟨noT, noT⟩
def prR (p : Pr) : List Value := [.string p.k, .string p.v]
theorem prR_len (p : Pr) : (prR p).length = 2 := rfl
abbrev prsL (l : List Pr) : List (List Value) := l.map prR

/-- An ask. -/
structure Aq where
  op : Int
  a : Int
  b : Int
  w1 : Int
  w2 : Int
  w3 : Int
def a0 : Aq := ⟨0, 0, 0, 0, 0, 0⟩
def aqR (x : Aq) : List Value := [.int .i64 x.op, .int .i64 x.a, .int .i64 x.b, .int .i64 x.w1, .int .i64 x.w2, .int .i64 x.w3]
theorem aqR_len (x : Aq) : (aqR x).length = 6 := rfl
abbrev asks (l : List Aq) : List (List Value) := l.map aqR

theorem mkW_ok {h : Heap} {sz : Nat} {ty : TypeId} {z : List Value} {n : Nat} (hn : n ≤ lim) : mkW h sz ty z (.int .i64 (n : Int)) = some (.slice (some ⟨h.length, 0, none⟩) n n, h ++ [⟨zeros z n, sz, ty, true⟩]) := by
  simp only [mkW]
  rw [if_pos ⟨by omega, by exact_mod_cast hn⟩, Int.toNat_natCast]

/-- Rows of marks. -/
def mkRows (row : Nat → List Value) (k F n : Nat) : List (List Value) := (List.range n).map fun i => row (k + i * F)
theorem mkRows_len {row : Nat → List Value} {k F n : Nat} : (mkRows row k F n).length = n := by simp [mkRows]
theorem range_getD {n i : Nat} (hi : i < n) : (List.range n).getD i 0 = i := by simp [hi]

section
variable {h h' h0 : Heap} {lo hi sz : Nat} {ty : TypeId} {v : Value} {rws : List (List Value)}

theorem Own.el (o : Own h lo hi sz ty v rws) {i : Nat} (hi' : i < rws.length) : iaV h sz v (.int .i64 (i : Int)) = some (elemP v sz i 0) ∧ ∀ o k, faV h (elemP v sz i o) k = some (elemP v sz i (o + k)) :=
  ⟨by have := o.rows.ia (k := .i64) (i := (i : Int)) (by omega) (by omega); simpa using this, fun _ _ => elem_fa o.rows hi'⟩
theorem Own.ln (o : Own h lo hi sz ty v rws) : lnV h v = some (.int .i64 rws.length) := o.rows.ln

theorem putAt_at {i : Nat} {r : List Value} (hi' : i < rws.length) (h' : i < (rws.set i r).length) : (rws.set i r)[i] = r := by simp

/-- A part of the row that is being written. -/
theorem Own.st2 {i : Nat} {r : List Value} (o : Own h lo hi sz ty v (rws.set i r)) (hi' : i < rws.length) {k : Nat} {vs : List Value} (hk : k + vs.length ≤ sz) :
    ∃ h', stC h (elemP v sz i k) vs = some h' ∧ Same lo hi h h' ∧ Own h' lo hi sz ty v (rws.set i (putAt r k vs)) := by
  obtain ⟨h', h1, h2, h3⟩ := o.st (i := i) (by simpa using hi') hk
  rw [putAt_at hi', List.set_set] at h3
  exact ⟨h', h1, h2, h3⟩
theorem Own.self {i : Nat} (o : Own h lo hi sz ty v rws) (hi' : i < rws.length) : Own h lo hi sz ty v (rws.set i rws[i]) := by rw [List.set_getElem_self]; exact o
theorem Own.row_len (o : Own h lo hi sz ty v rws) {i : Nat} (hi' : i < rws.length) : rws[i].length = sz := o.len _ (List.getElem_mem hi')
theorem rows_eq {rws rws' : List (List Value)} (h1 : rws.length = rws'.length) (h2 : ∀ j, j < rws.length → rws[j]? = rws'[j]?) : rws = rws' := by
  apply List.ext_getElem?
  intro j
  by_cases hj : j < rws.length
  · exact h2 j hj
  · rw [List.getElem?_eq_none (by omega), List.getElem?_eq_none (by omega)]
theorem mkRows_get {row : Nat → List Value} {k F n j : Nat} (hj : j < n) : (mkRows row k F n)[j]? = some (row (k + j * F)) := by simp [mkRows, hj]
end

/-- The figures of a mark. -/
def mkD (n : Nat) (s : ByteArray) : ByteArray := if 0 < n then mkD (n / 10) (strOfNums [((48 + n % 10 : Nat) : Int)] ++ s) else s
termination_by n
decreasing_by omega
def mByte : ByteArray := ⟨⟨[109]⟩⟩
/-- A mark. -/
def mkT (n : Nat) : ByteArray := if n = 0 then ⟨⟨[109, 48]⟩⟩ else mByte ++ mkD n noT
theorem mkD_zero {s : ByteArray} : mkD 0 s = s := by unfold mkD; simp
theorem mkD_pos {n : Nat} {s : ByteArray} (h : 0 < n) : mkD n s = mkD (n / 10) (strOfNums [((48 + n % 10 : Nat) : Int)] ++ s) := by rw [mkD, if_pos h]
theorem mkD_size : ∀ (k n : Nat) (s : ByteArray), n < 10 ^ k → (mkD n s).size ≤ s.size + k := by
  intro k
  induction k with
  | zero => intro n s h; have : n = 0 := by simpa using h
            subst this; unfold mkD; simp
  | succ k ih =>
    intro n s h
    unfold mkD
    split
    · have := ih (n / 10) (strOfNums [((48 + n % 10 : Nat) : Int)] ++ s) (by rw [Nat.pow_succ] at h; exact Nat.div_lt_of_lt_mul (by omega))
      rw [ByteArray.size_append, strOfNums_size] at this
      simp only [List.length_cons, List.length_nil] at this
      omega
    · omega
section
variable {h : Heap} {a : Value}
/-- A part of a list. -/
theorem Rows.sub {rws : List (List Value)} {sz i k : Nat} (r : Rows h sz a rws) (h1 : i ≤ k) (h2 : k ≤ rws.length) (hz : 0 < sz) {lo hi : Option Value} (hlo : bnd 0 lo = some (i : Int)) (hhi : bnd rws.length hi = some (k : Int)) :
    ∃ v', slLV sz a lo hi h = some v' ∧ Rows h sz v' ((rws.drop i).take (k - i)) := by
  rcases r.is with ⟨rfl, rfl⟩ | ⟨b, off, cap, blk, rfl, g1, g2, g3, g4, g5⟩
  · have e1 : k = 0 := by simpa using h2
    have e2 : i = 0 := by omega
    subst e1; subst e2
    have g1 : bnd 0 lo = some 0 := by simpa using hlo
    have g2 : bnd 0 hi = some 0 := by simpa using hhi
    exact ⟨.slice none 0 0, by simp only [slLV, g1, g2], by simpa using Rows.nil⟩
  · have hm : i * sz ≤ k * sz := Nat.mul_le_mul_right sz h1
    have hm2 : k * sz ≤ rws.length * sz := Nat.mul_le_mul_right sz h2
    have hm3 : rws.length * sz ≤ cap * sz := Nat.mul_le_mul_right sz g4
    have hlen : ((rws.drop i).take (k - i)).length = k - i := by simp; omega
    refine ⟨.slice (some ⟨b, off + i * sz, none⟩) (k - i) (cap - i), ?_, fun q hq => r.len q (List.mem_of_mem_drop (List.mem_of_mem_take hq)), .inr ⟨b, off + i * sz, cap - i, blk, by rw [hlen], g1, g2, ?_, by omega, ?_⟩⟩
    · simp only [slLV, g1, hlo, hhi]
      rw [if_pos ⟨by omega, by omega, by omega, g2, g3⟩]
      rw [show ((k : Int) - (i : Int)).toNat = k - i by omega, Int.toNat_natCast]
    · rw [Nat.sub_mul]; omega
    · rw [hlen]
      have e2 : (rws.drop i).flatten = (blk.cells.drop (off + i * sz)).take ((rws.length - i) * sz) := by
        have : rws.flatten = (rws.take i).flatten ++ (rws.drop i).flatten := by rw [← List.flatten_append, List.take_append_drop]
        rw [← g5] at this
        have hl1 : (rws.take i).flatten.length = i * sz := by rw [flatten_len fun q hq => r.len q (List.mem_of_mem_take hq), List.length_take, Nat.min_eq_left (by omega)]
        have h3 : ((blk.cells.drop off).take (rws.length * sz)).drop (i * sz) = (rws.drop i).flatten := by rw [this, List.drop_append, hl1, Nat.sub_self, List.drop_of_length_le (by omega)]; rfl
        rw [← h3, List.drop_take, List.drop_drop, Nat.sub_mul]
      have e3 : ((rws.drop i).take (k - i)).flatten = ((rws.drop i).flatten).take ((k - i) * sz) := by
        have hl1 : ((rws.drop i).take (k - i)).flatten.length = (k - i) * sz := by rw [flatten_len fun q hq => r.len q (List.mem_of_mem_drop (List.mem_of_mem_take hq)), hlen]
        conv => rhs; rw [← List.take_append_drop (k - i) (rws.drop i), List.flatten_append]
        rw [List.take_left' hl1]
      rw [e3, e2, List.take_take, Nat.min_eq_left (Nat.mul_le_mul_right sz (by omega))]

end
end Go.Proofs.Ytioogligololoaa.Ab
