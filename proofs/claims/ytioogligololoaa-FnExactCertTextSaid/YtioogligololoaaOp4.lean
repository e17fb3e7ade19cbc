/- Arguments taken apart: proofs. No conditions. -/
import Derived.Test.YtioogligololoaaOp3
import Derived.Test.YtioogligololoaaR7
set_option linter.unusedSimpArgs false
set_option linter.unusedVariables false
set_option linter.unnecessarySimpa false
set_option maxHeartbeats 4000000
namespace Go.Proofs.Ytioogligololoaa.Ab
open Go.RowKit
section
variable {h : Heap} {v : Value}
theorem Shape.groups_inv (s : Shape h (.sl [.sl [.int .i64], .int .i64]) v) : ∃ gs : List Gp, RowsG h v gs ∧ gs.length ≤ maxLen ∧ ∀ g ∈ gs, g.ms.length ≤ maxLen ∧ I64 g.z := by
  obtain ⟨rows, hr, hm, hk⟩ := s.sl_inv
  obtain ⟨l, rfl, hl⟩ := rows_map (f := fun p : Value × Gp => [p.1, .int .i64 p.2.z]) (Q := fun p => Rows h 1 p.1 (ints p.2.ms) ∧ p.2.ms.length ≤ maxLen ∧ I64 p.2.z) (rows := rows) (fun r hrm => by
    obtain ⟨x, r', rfl, hx, h2⟩ := (hk r hrm).cons_inv
    obtain ⟨y, r', rfl, hy, h2⟩ := h2.cons_inv
    obtain rfl := h2.nil_inv
    obtain ⟨ms, h3, h4, _⟩ := hx.ints_inv
    obtain ⟨z, rfl, hz⟩ := hy.int_inv
    exact ⟨(x, ⟨ms, z⟩), rfl, h3, h4, hz⟩)
  have hget : ∀ i, i < l.length → (l.map (·.1)).getD i nilV = (l.getD i (nilV, g0)).1 ∧ (l.map (·.2)).getD i g0 = (l.getD i (nilV, g0)).2 := fun i hi => by simp [hi]
  refine ⟨l.map (·.2), ⟨l.map (·.1), ?_, fun i hi => ?_⟩, by simpa using hm, fun g hg => ?_⟩
  · have : gRows (l.map (·.1)) (l.map (·.2)) = l.map fun p => [p.1, .int .i64 p.2.z] := by
      unfold gRows
      rw [List.length_map]
      apply List.ext_getElem?
      intro i
      by_cases hi : i < l.length
      · rw [List.getElem?_map, List.getElem?_map, List.getElem?_range hi, List.getElem?_eq_getElem hi]
        simp only [Option.map_some, gRow]
        rw [(hget i hi).1, (hget i hi).2]
        simp [hi]
      · rw [List.getElem?_eq_none (by simp; omega), List.getElem?_eq_none (by simp; omega)]
    rw [this]; exact hr
  · have hi' : i < l.length := by simpa using hi
    rw [(hget i hi').1, (hget i hi').2]
    exact (hl _ (getD_mem hi')).1
  · obtain ⟨p, hp, rfl⟩ := List.mem_map.1 hg
    exact ⟨(hl p hp).2.1, (hl p hp).2.2⟩
theorem ArgOk.proof (a : ArgOk h (true, [.sl [.int .i64], .sl [.sl [.int .i64], .int .i64]]) v) : ∃ yv gv ys gs, v = proofV yv gv ∧ Rows h 1 yv (ints ys) ∧ RowsG h gv gs ∧ PfMax ys gs := by
  obtain ⟨acs, k, rfl⟩ := a.row
  obtain ⟨v0, r, rfl, k0, k⟩ := k.cons_inv
  obtain ⟨v1, r, rfl, k1, k⟩ := k.cons_inv
  obtain rfl := k.nil_inv
  obtain ⟨ys, h1, h2, h3⟩ := k0.ints_inv
  obtain ⟨gs, h4, h5, h6⟩ := k1.groups_inv
  exact ⟨v0, v1, ys, gs, rfl, h1, h4, h2, h5, h6, h3⟩
end
end Go.Proofs.Ytioogligololoaa.Ab
