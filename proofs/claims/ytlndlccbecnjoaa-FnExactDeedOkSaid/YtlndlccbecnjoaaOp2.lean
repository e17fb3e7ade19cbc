/- Arguments taken apart: what a shown argument is, kind by kind. No conditions. -/
import Derived.Test.YtlndlccbecnjoaaOp1
namespace Go.Proofs.Ytlndlccbecnjoaa.Ab
set_option linter.unusedSimpArgs false
set_option linter.unusedVariables false
set_option linter.unnecessarySimpa false
open Go.RowKit

theorem All2.nil_inv {α β : Type} {R : α → β → Prop} {ys : List β} (h : All2 R [] ys) : ys = [] := by
  have := h.1
  cases ys with
  | nil => rfl
  | cons y ys => simp at this
theorem All2.cons_inv {α β : Type} {R : α → β → Prop} {x : α} {xs : List α} {ys : List β} (h : All2 R (x :: xs) ys) : ∃ y ys', ys = y :: ys' ∧ R x y ∧ All2 R xs ys' := by
  have := h.1
  cases ys with
  | nil => simp at this
  | cons y ys =>
    refine ⟨y, ys, rfl, h.2 0 x y rfl rfl, by simpa using this, fun i a b ha hb => h.2 (i + 1) a b (by simpa using ha) (by simpa using hb)⟩

section
variable {h : Heap} {v : Value}

/-- A number that fits. -/
def I64 (n : Int) : Prop := -9223372036854775808 ≤ n ∧ n ≤ 9223372036854775807

theorem wf64 {n : Int} (hw : (Lit.int .i64 n).wf = true) : I64 n := by
  have h : IntKind.i64.min ≤ n ∧ n ≤ IntKind.i64.max := by simpa [Lit.wf] using hw
  exact ⟨h.1, h.2⟩

theorem Shape.int_inv (s : Shape h (.int .i64) v) : ∃ n, v = .int .i64 n ∧ I64 n := by
  cases s with
  | int k n hw => exact ⟨n, rfl, wf64 hw⟩
theorem Shape.bool_inv (s : Shape h .bool v) : ∃ b, v = .bool b := by
  cases s with
  | bool b => exact ⟨b, rfl⟩
theorem Shape.str_inv (s : Shape h .str v) : ∃ b, v = .string b ∧ b.size ≤ maxLen := by
  cases s with
  | str b hs => exact ⟨b, rfl, hs⟩
theorem Shape.sl_inv {e : List CK} (s : Shape h (.sl e) v) : ∃ rows, Rows h e.length v rows ∧ rows.length ≤ maxLen ∧ ∀ r ∈ rows, All2 (Shape h) e r := by
  cases s with
  | sl e v rows hr hm hk => exact ⟨rows, hr, hm, fun r hrm => ⟨(hr.len r hrm).symm, fun i k x h1 h2 => hk r hrm i k x h1 h2⟩⟩

theorem rows_map {α : Type} {f : α → List Value} {Q : α → Prop} : ∀ {rows : List (List Value)}, (∀ r ∈ rows, ∃ a, r = f a ∧ Q a) → ∃ l : List α, rows = l.map f ∧ ∀ a ∈ l, Q a
  | [], _ => ⟨[], rfl, fun _ h => by cases h⟩
  | r :: rows, hr => by
    obtain ⟨a, ha, qa⟩ := hr r List.mem_cons_self
    obtain ⟨l, hl, ql⟩ := rows_map (fun r h => hr r (List.mem_cons_of_mem _ h))
    exact ⟨a :: l, by simp [ha, hl], fun b hb => by
      rcases List.mem_cons.1 hb with rfl | hb
      · exact qa
      · exact ql b hb⟩

/-- A list of numbers. -/
theorem Shape.ints_inv (s : Shape h (.sl [.int .i64]) v) : ∃ l : List Int, Rows h 1 v (ints l) ∧ l.length ≤ maxLen ∧ ∀ n ∈ l, I64 n := by
  obtain ⟨rows, hr, hm, hk⟩ := s.sl_inv
  obtain ⟨l, rfl, hl⟩ := rows_map (f := fun n : Int => [Value.int .i64 n]) (Q := I64) (rows := rows) (fun r hrm => by
    obtain ⟨x, r', rfl, hx, h2⟩ := (hk r hrm).cons_inv
    obtain rfl := h2.nil_inv
    obtain ⟨n, rfl, hn⟩ := hx.int_inv
    exact ⟨n, rfl, hn⟩)
  exact ⟨l, hr, by simpa using hm, hl⟩
end

theorem ArgOk.row {h : Heap} {ks : List CK} {v : Value} (a : ArgOk h (true, ks) v) : ∃ acs, All2 (Shape h) ks acs ∧ v = .agg ⟨acs⟩ := by
  obtain ⟨acs, h1, h2⟩ := a
  exact ⟨acs, h1, by simpa using h2⟩
theorem ArgOk.cell {h : Heap} {k : CK} {v : Value} (a : ArgOk h (false, [k]) v) : Shape h k v := by
  obtain ⟨acs, h1, h2⟩ := a
  obtain ⟨x, r, rfl, hx, h3⟩ := h1.cons_inv
  obtain rfl := h3.nil_inv
  obtain rfl : x = v := by simpa using h2
  exact hx

theorem trodAll_len {H : Type} {enc : TypeId × Value → H} {P : Program} {W : World} {spare : Nat → Bool} {held : Bool} : ∀ {ts : List TypeId} {vs : List Value} {ds : List (DataW H)} {pl : List MemPlace}, DataW.TrodAll enc P W 0 spare held ts vs ds pl → ds.length = ts.length
  | [], vs, ds, pl, h => by
    obtain ⟨_, rfl, _⟩ := Go.ChangeShapes.trodAll_nil h
    rfl
  | t :: ts, vs, ds, pl, h => by
    obtain ⟨v, vs', d, ds', p, q, rfl, rfl, rfl, _, h2⟩ := Go.ChangeShapes.trodAll_cons h
    simp [trodAll_len h2]
theorem len1 {α : Type} {l : List α} (h : l.length = 1) : ∃ a, l = [a] := List.length_eq_one_iff.1 h
theorem len2 {α : Type} {l : List α} (h : l.length = 2) : ∃ a b, l = [a, b] := by
  match l, h with
  | [a, b], _ => exact ⟨a, b, rfl⟩
theorem len3 {α : Type} {l : List α} (h : l.length = 3) : ∃ a b c, l = [a, b, c] := by
  match l, h with
  | [a, b, c], _ => exact ⟨a, b, c, rfl⟩
theorem len4 {α : Type} {l : List α} (h : l.length = 4) : ∃ a b c d, l = [a, b, c, d] := by
  match l, h with
  | [a, b, c, d], _ => exact ⟨a, b, c, d, rfl⟩
end Go.Proofs.Ytlndlccbecnjoaa.Ab
