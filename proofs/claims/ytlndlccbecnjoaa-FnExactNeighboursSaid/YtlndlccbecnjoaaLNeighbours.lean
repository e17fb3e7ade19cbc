/- The law of a vertex's neighbours, of arguments as they are shown. No conditions. -/
import Derived.Test.YtlndlccbecnjoaaK13
import Derived.Test.YtlndlccbecnjoaaH1
import Derived.Test.YtlndlccbecnjoaaOp3
set_option linter.unusedSimpArgs false
set_option linter.unusedVariables false
set_option linter.unnecessarySimpa false
set_option maxHeartbeats 4000000
namespace Go.Proofs.Ytlndlccbecnjoaa.Ab
open Go.RowKit
section
variable {X : CallF} {h : Heap} {ev : Value} {es : List E} {size x : Int}

open Classical in
theorem l_Neighbours (he : Rows h 5 ev (edges es)) (hm : es.length ≤ maxLen) (hs : I64 size) : C T X n_laws_FnExactNeighbours [graphV size ev, .int .i64 x] h = some (.bool true, h) := by
  refine C_go t_laws_FnExactNeighbours rfl ?_
  unfold F_laws_FnExactNeighbours
  have hsz := k_szGraph (X := X) (size := size) he hm (n := 1048576) (by omega) (by omega)
  by_cases hn : 1048576 < es.length
  · have e0 : szL es.length 1048576 < 0 := by unfold szL; rw [if_pos (by omega)]; omega
    unfold graphV at hsz ⊢
    simp only [hsz, e0, go_sem, reduceIte, Nat.reduceEqDiff, Nat.reduceAdd, Nat.reduceMul, Nat.reduceLT, Nat.reduceLeDiff, reduceCtorEq, ne_eq, Int.reduceEq, Int.reduceLT, Int.reduceLE, Int.reduceNeg, Int.reduceToNat]
  have e0 : ¬ szL es.length 1048576 < 0 := by unfold szL; rw [if_neg (by omega)]; omega
  have hl : es.length ≤ lim := by unfold lim; omega
  have hrow : ∀ g : Heap, Rows (g ++ [⟨(edges es).flatten, 5, y_Edge, true⟩]) 5 (.slice (some ⟨g.length, 0, none⟩) es.length es.length) (edges es) := fun g => by
    have := Rows.made (h := g) (ty := y_Edge) (map_row (l := es) edgeR_len)
    rwa [List.length_map] at this
  obtain ⟨L, hL1, hL2⟩ : ∃ L : List Int, (if GOk size es then es.foldl (nbStep x) [] else []) = L ∧ (if GOk size es then nextL es size x else []) = L := by
    refine ⟨_, rfl, ?_⟩
    split
    · rename_i g; exact (nb_next g).symm
    · rfl
  have hLl : L.length ≤ lim := by
    rw [← hL1]
    split
    · have := nbFold_len x es []; simp only [List.length_nil] at this; unfold lim; omega
    · exact Nat.zero_le _
  obtain ⟨blk, hblk⟩ : ∃ b : Blk, b = ⟨(edges es).flatten, 5, y_Edge, true⟩ := ⟨_, rfl⟩
  -- the reference's answer
  have c1 := k_toGraph (X := X) (size := size) he hl
  rw [← hblk] at c1 hrow
  have p1 : h <+: h ++ [blk] := List.prefix_append _ _
  obtain ⟨w, h2, c2, p2, o2⟩ := k_spec_Neighbours (X := X) (x := x) (hrow h) hl hs
  rw [hL2] at o2
  have q2 := p1.trans p2
  -- the program's
  have c3 := k_toGraph (X := X) (size := size) (he.up q2) hl
  rw [← hblk] at c3
  have p3 : h2 <+: h2 ++ [blk] := List.prefix_append _ _
  have ox : Own (h2 ++ [blk]) h2.length (h2.length + 1) 5 y_Edge (.slice (some ⟨h2.length, 0, none⟩) es.length es.length) (edges es) := by
    have := Own.made (h := h2) (ty := y_Edge) (map_row (l := es) edgeR_len)
    rwa [List.length_map, ← hblk] at this
  obtain ⟨g, h4, c4, p4, o4⟩ := k_impl_Neighbours (X := X) (x := x) (size := size) (hrow h2) (by omega)
  rw [hL1] at o4
  have q4 := q2.trans (p3.trans p4)
  have o2' := o2.up (p3.trans p4)
  have ox' := ox.up p4
  have c5 := k_eqIntS (X := X) o4.rows o2'.rows hLl
  have c6 := k_toGraph (X := X) (size := size) (he.up q4) hl
  rw [← hblk] at c6
  have p6 : h4 <+: h4 ++ [blk] := List.prefix_append _ _
  have c7 := k_eqGraph (X := X) (size := size) (ox'.up p6).rows (hrow h4) hl
  have lb : (h2 ++ [blk]).length = h2.length + 1 := by simp
  -- marks
  have q6 := q4.trans p6
  obtain ⟨h8, c8, s8⟩ := k_markGraph (X := X) (size := size) (ox'.up p6) hl (k := 1) (by omega)
  have q8 := s8.pre q6 (pre_len q2)
  have o2' := (o2'.up p6).same s8 (.inl (Nat.le_refl _))
  have o4' := (o4.up p6).same s8 (.inr (by rw [lb]; omega))
  have c9 := k_eqIntS (X := X) o4'.rows o2'.rows hLl
  obtain ⟨h10, c10, s10, o10⟩ := k_markIntS (X := X) o4' (by rw [ints_len]; exact hLl) (k := 1) (by omega)
  rw [ints_len] at c10 o10
  have q10 := s10.pre q8 (by have := pre_len q2; rw [lb]; omega)
  have o2'' := o2'.same s10 (.inl (by rw [lb]; omega))
  have c11 := k_heldIntS (X := X) (n := L.length) o10.rows hLl (by omega)
  have c12 := k_toGraph (X := X) (size := size) (he.up q10) hl
  rw [← hblk] at c12
  have p12 : h10 <+: h10 ++ [blk] := List.prefix_append _ _
  obtain ⟨g2, h13, c13, p13, o13⟩ := k_impl_Neighbours (X := X) (x := x) (size := size) (hrow h10) (by omega)
  rw [hL1] at o13
  have c14 := k_eqIntS (X := X) o13.rows (o2''.up (p12.trans p13)).rows hLl
  have c15 := k_heldIntS (X := X) (n := L.length) (o10.up (p12.trans p13)).rows hLl (by omega)
  have q13 := q10.trans (p12.trans p13)
  have b1 : ¬ (((1 + L.length * 1 : Nat) : Int) < 0) := by omega
  have b2 : ¬ (((1 + es.length * 5 : Nat) : Int) < 0) := by omega
  have e1 : ((1 : Nat) : Int) = 1 := rfl
  rw [e1] at c8 c10 c11 c15
  unfold graphV at *
  simp only [hsz, e0, c1, c2, c3, c4, c5, c6, c7, c8, c9, c10, c11, c12, c13, c14, c15, b1, b2, p6, List.prefix_refl, go_sem, reduceIte, Nat.reduceEqDiff, Nat.reduceAdd, Nat.reduceMul, Nat.reduceLT, Nat.reduceLeDiff, reduceCtorEq, ne_eq, Int.reduceEq, Int.reduceLT, Int.reduceLE, Int.reduceNeg, Int.reduceToNat]
  exact finish_flat rfl q13
end

def ps_FnExactNeighbours : List (Bool × List CK) := [(true, [.int .i64, .sl [.int .i64, .int .i64, .int .i64, .int .i64, .int .i64]]), (false, [.int .i64])]
theorem law_FnExactNeighbours (h : Heap) (avs : List Value) (ha : All2 (ArgOk h) ps_FnExactNeighbours avs) : C T noX n_laws_FnExactNeighbours avs h = some (.bool true, h) := by
  obtain ⟨v, r, rfl, a, ha⟩ := ha.cons_inv
  obtain ⟨v2, r, rfl, b, ha⟩ := ha.cons_inv
  obtain rfl := ha.nil_inv
  obtain ⟨size, ev, es, rfl, hs, he, hm⟩ := a.graph
  obtain ⟨x, rfl, _⟩ := b.cell.int_inv
  exact l_Neighbours he hm hs
end Go.Proofs.Ytlndlccbecnjoaa.Ab
