/- Rows: a slice that shows a list of rows. No conditions. -/
import Derived.Test.YtlndlccbecnjoaaAb21
import Derived.IntWalk
namespace Go.Proofs.Ytlndlccbecnjoaa.Ab
set_option linter.unusedSimpArgs false
set_option linter.unusedVariables false
set_option linter.unnecessarySimpa false
open Go.RowKit

section
variable {t : Nat → Value} {loc : Nat → Option (List Value)} {al : Nat → Option (Nat × Nat)} {h h0 : Heap}
/-- One result in a box. -/
theorem rets_box {F : Fun} {r : Value × Heap} {e : Exit} {d n : Nat} {agg : Bool} {cs : List Value} {v : Value} (hF : F.res = [.box d n agg]) (he : e = .ret ∨ e = .normal) (hl : loc d = some cs) (hn : n ≤ cs.length) (hv : ofCells agg (cs.take n) = some v) (hlive : live v = true) (hf : finish h0 (v, h) = r) : Rets F h0 r e ⟨t, loc, al, h⟩ := by
  refine ⟨he.symm, v, ?_, hf⟩
  rw [hF]
  simp [results1, Res.get, hl, hn, hv, hlive]
/-- Two results in slots. -/
theorem rets_two {F : Fun} {r : Value × Heap} {e : Exit} {d d' : Nat} (hF : F.res = [.slot d, .slot d']) (he : e = .ret ∨ e = .normal) (hl : live (t d) = true) (hl' : live (t d') = true) (hf : finish h0 (.tuple ⟨[t d, t d']⟩, h) = r) : Rets F h0 r e ⟨t, loc, al, h⟩ := by
  refine ⟨he.symm, _, ?_, hf⟩
  rw [hF]
  simp [results1, Res.get, hl, hl']
end

/-- The slice 'v' shows these rows of 'sz' cells. -/
structure Rows (h : Heap) (sz : Nat) (v : Value) (rows : List (List Value)) : Prop where
  len : ∀ r ∈ rows, r.length = sz
  is : (v = .slice none 0 0 ∧ rows = []) ∨ ∃ b off cap blk, v = .slice (some ⟨b, off, none⟩) rows.length cap ∧ h[b]? = some blk ∧ blk.sz = sz ∧ off + cap * sz = blk.cells.length ∧ rows.length ≤ cap ∧ (blk.cells.drop off).take (rows.length * sz) = rows.flatten

/-- The place of an element's cell. -/
def elemP (v : Value) (sz i off : Nat) : Value := match v with
  | .slice (some ⟨b, o, none⟩) _ cap => .pointer (some ⟨b, o + i * sz + off, some (o + cap * sz)⟩)
  | _ => .pointer none

section
variable {h h' : Heap} {sz : Nat} {v : Value} {rows : List (List Value)}

theorem Rows.up (r : Rows h sz v rows) (hp : h <+: h') : Rows h' sz v rows := by
  refine ⟨r.len, ?_⟩
  rcases r.is with hn | ⟨b, off, cap, blk, h1, h2, h3⟩
  · exact .inl hn
  · exact .inr ⟨b, off, cap, blk, h1, pre_get hp h2, h3⟩

theorem Rows.nil : Rows h sz (.slice none 0 0) [] := ⟨fun _ h => (by cases h), .inl ⟨rfl, rfl⟩⟩

theorem Rows.ln (r : Rows h sz v rows) : lnV h v = some (.int .i64 rows.length) := by
  rcases r.is with ⟨rfl, rfl⟩ | ⟨b, off, cap, blk, rfl, h2, h3, h4, h5, _⟩
  · rfl
  · simp only [lnV, h2]
    subst h3
    rw [if_pos h4]

theorem flatten_len (hl : ∀ r ∈ rows, r.length = sz) : rows.flatten.length = rows.length * sz := by
  induction rows with
  | nil => simp
  | cons r rows ih =>
    rw [List.flatten_cons, List.length_append, hl r List.mem_cons_self, ih fun q hq => hl q (List.mem_cons_of_mem _ hq), List.length_cons, Nat.add_mul]
    omega

theorem flatten_at (hl : ∀ r ∈ rows, r.length = sz) : ∀ {i : Nat} (hi : i < rows.length), (rows.flatten.drop (i * sz)).take sz = rows[i] := by
  induction rows with
  | nil => intro i hi; simp at hi
  | cons r rows ih =>
    intro i hi
    have h1 := hl r List.mem_cons_self
    cases i with
    | zero => simp [h1]
    | succ i =>
      have e : (i + 1) * sz = i * sz + sz := by rw [Nat.add_mul, Nat.one_mul]
      rw [List.flatten_cons, e, List.drop_append, h1, Nat.add_sub_cancel, List.drop_of_length_le (by omega), List.nil_append]
      exact ih (fun q hq => hl q (List.mem_cons_of_mem _ hq)) (by simpa using hi)

theorem Rows.ia (r : Rows h sz v rows) {k : IntKind} {i : Int} (h0 : 0 ≤ i) (hi : i < (rows.length : Int)) : iaV h sz v (.int k i) = some (elemP v sz i.toNat 0) := by
  rcases r.is with ⟨rfl, rfl⟩ | ⟨b, off, cap, blk, rfl, h2, h3, h4, h5, _⟩
  · simp at hi; omega
  · simp only [iaV, h2, elemP]
    rw [if_pos ⟨h0, hi, h3, h4⟩, h4]
    rfl

theorem Rows.ld (r : Rows h sz v rows) {i off n : Nat} (hi : i < rows.length) (hn : off + n ≤ sz) : ldC h (elemP v sz i off) n = some ((rows[i].drop off).take n) := by
  rcases r.is with ⟨rfl, rfl⟩ | ⟨b, o, cap, blk, rfl, h2, h3, h4, h5, h6⟩
  · simp at hi
  · have hm : i * sz + sz ≤ rows.length * sz := by
      have := Nat.mul_le_mul_right sz (show i + 1 ≤ rows.length by omega)
      rw [Nat.add_mul] at this
      omega
    have hm2 : rows.length * sz ≤ cap * sz := Nat.mul_le_mul_right sz h5
    simp only [ldC, h2, elemP]
    rw [if_pos ⟨h4, by omega⟩, ← flatten_at r.len hi, ← h6]
    congr 1
    rw [List.drop_take, List.take_take, List.drop_drop, List.drop_take, List.take_take, List.drop_drop]
    rw [show min (min n (sz - off)) (rows.length * sz - (i * sz + off)) = n by omega]
    congr 2
    omega

theorem elem_fa {i off k : Nat} (r : Rows h sz v rows) (hi : i < rows.length) : faV h (elemP v sz i off) k = some (elemP v sz i (off + k)) := by
  rcases r.is with ⟨rfl, rfl⟩ | ⟨b, o, cap, blk, rfl, h2, h3, h4, h5, h6⟩
  · simp at hi
  · simp only [faV, h2, elemP]
    rw [if_pos h4]
    simp only [Nat.add_assoc]

theorem Rows.row (r : Rows h sz v rows) : rowC h sz v = some rows.flatten := by
  rcases r.is with ⟨rfl, rfl⟩ | ⟨b, o, cap, blk, rfl, h2, h3, h4, h5, h6⟩
  · rfl
  · simp only [rowC, h2]
    rw [if_pos ⟨h3, h4⟩, h6]

/-- A new block shows its rows. -/
theorem Rows.made (hl : ∀ r ∈ rows, r.length = sz) {ty : TypeId} : Rows (h ++ [⟨rows.flatten, sz, ty, true⟩]) sz (.slice (some ⟨h.length, 0, none⟩) rows.length rows.length) rows := by
  refine ⟨hl, .inr ⟨h.length, 0, rows.length, ⟨rows.flatten, sz, ty, true⟩, rfl, by simp, rfl, by simp [flatten_len hl], Nat.le_refl _, ?_⟩⟩
  rw [← flatten_len hl, List.drop_zero]
  exact List.take_length

end

/-- Rows of one number. -/
def ints (l : List Int) : List (List Value) := l.map fun n => [.int .i64 n]
theorem ints_len {l : List Int} : (ints l).length = l.length := by simp [ints]
theorem ints_row {l : List Int} : ∀ r ∈ ints l, r.length = 1 := by
  intro r hr
  obtain ⟨n, _, rfl⟩ := List.mem_map.1 hr
  rfl
theorem ints_get {l : List Int} {i : Nat} (hi : i < (ints l).length) : (ints l)[i] = [.int .i64 (l[i]'(by simpa [ints] using hi))] := by simp [ints]

section
variable {h : Heap} {v : Value} {l : List Int}
theorem ints_ln (r : Rows h 1 v (ints l)) : lnV h v = some (.int .i64 l.length) := by rw [r.ln, ints_len]
theorem ints_ia (r : Rows h 1 v (ints l)) {k : IntKind} {i : Int} (h0 : 0 ≤ i) (hi : i < (l.length : Int)) : iaV h 1 v (.int k i) = some (elemP v 1 i.toNat 0) := r.ia h0 (by rw [ints_len]; exact hi)
theorem ints_ld (r : Rows h 1 v (ints l)) {i : Nat} (hi : i < l.length) : ldC h (elemP v 1 i 0) 1 = some [.int .i64 l[i]] := by
  rw [r.ld (by rw [ints_len]; exact hi) (Nat.le_refl _), ints_get]
  rfl
end

theorem w64 {n : Int} (h1 : -9223372036854775808 ≤ n) (h2 : n ≤ 9223372036854775807) : IntKind.i64.wrap n = n := by rw [IntKind.wrap_i64]; omega
end Go.Proofs.Ytlndlccbecnjoaa.Ab
