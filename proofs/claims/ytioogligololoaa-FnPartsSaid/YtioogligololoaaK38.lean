/- Contracts: drawn asks and drawn texts. No conditions. -/
import Derived.Test.YtioogligololoaaK37
set_option linter.unusedSimpArgs false
set_option linter.unusedVariables false
set_option linter.unnecessarySimpa false
set_option maxHeartbeats 4000000
namespace Go.Proofs.Ytioogligololoaa.Ab
open Go.RowKit
section
variable {X : CallF} {B h h2 h3 : Heap} {b : Nat} {cv : Value} {l : List Int}

theorem Fr'.push2 (f : Fr' b h h2) (hl : h2.length ≤ h3.length) (hk : ∀ c, c < h.length → h3[c]? = h2[c]?) : Fr' b h h3 :=
  ⟨Nat.le_trans f.len hl, fun c hc hne => by rw [hk c hc, f.old c hc hne]⟩
theorem Dr.push2 (d0 : Dr B b cv l h) (d : Dr B b cv l h2) (f : Fr' b h h3) (hk : ∀ c, c < h.length → h3[c]? = h2[c]?) : Dr B b cv l h3 := by
  obtain ⟨i, x, hi, hb⟩ := d.cur
  exact d0.same f ⟨i, x, hi, by rw [hk b d0.lt]; exact hb⟩

theorem k_l01Text (d : Dr B b cv l h) (n : Int) : ∃ (s : ByteArray) (hh : Heap), C T X n_spec_l01Text [pk b 0, .int .i64 n] h = some (.string s, hh) ∧ s.size ≤ 5000 ∧ Dr B b cv l hh ∧ Fr' b h hh := by
  suffices hx : ∃ w hh, C T X n_spec_l01Text [pk b 0, .int .i64 n] h = some (w, hh) ∧ (∃ s : ByteArray, w = .string s ∧ s.size ≤ 5000) ∧ Dr B b cv l hh ∧ Fr' b h hh by
    obtain ⟨w, hh, c, ⟨s, rfl, hs⟩, r⟩ := hx
    exact ⟨s, hh, c, hs, r⟩
  refine C_ex t_spec_l01Text rfl ?_
  unfold F_spec_l01Text
  have hbl := d.lt
  simp only [go_sem, reduceIte, Nat.reduceEqDiff, Nat.reduceAdd, Nat.reduceMul, Nat.reduceLT, Nat.reduceLeDiff, reduceCtorEq, ne_eq, Int.reduceEq, Int.reduceLT, Int.reduceLE, Int.reduceNeg, Int.reduceToNat]
  refine w_join (fun t loc h' => h' = h ∧ t 0 = pk b 0 ∧ ∃ k : Int, k ≤ 5000 ∧ t 1 = .int .i64 k) ?_ ?_
  · by_cases hn : n > 5000
    · simp only [hn, go_sem, reduceIte, Nat.reduceEqDiff, Nat.reduceAdd, Nat.reduceMul, Nat.reduceLT, Nat.reduceLeDiff, reduceCtorEq, ne_eq, Int.reduceEq, Int.reduceLT, Int.reduceLE, Int.reduceNeg, Int.reduceToNat]
      exact ⟨5000, by omega, rfl⟩
    · simp only [hn, go_sem, reduceIte, Nat.reduceEqDiff, Nat.reduceAdd, Nat.reduceMul, Nat.reduceLT, Nat.reduceLeDiff, reduceCtorEq, ne_eq, Int.reduceEq, Int.reduceLT, Int.reduceLE, Int.reduceNeg, Int.reduceToNat]
      exact ⟨n, by omega, rfl⟩
  rintro t loc h' ⟨rfl, t0, k, hk, t1⟩
  simp only [t0, t1, zeros, fillAt, go_sem, reduceIte, Nat.reduceEqDiff, Nat.reduceAdd, Nat.reduceMul, Nat.reduceLT, Nat.reduceLeDiff, reduceCtorEq, ne_eq, Int.reduceEq, Int.reduceLT, Int.reduceLE, Int.reduceNeg, Int.reduceToNat]
  refine w_meas 5001 (fun m t loc h2 => t 0 = pk b 0 ∧ t 1 = .int .i64 k ∧ ∃ (i : Nat), ∃ L v, m + i = 5001 ∧ t 6 = .int .i64 (i : Nat) ∧ t 5 = v ∧ L.length = i ∧ i ≤ 5000 ∧ Dr B b cv l h2 ∧ Fr' b h' h2 ∧ Own h2 h'.length h2.length 1 y_byte v (bys L)) ⟨rfl, rfl, 0, [], _, rfl, rfl, rfl, rfl, by omega, d.up (List.prefix_append _ _), Fr'.pre (List.prefix_append _ _), Acc.new.own⟩ ?_
  rintro m t loc h1 ⟨t0, t1, i, L, v, hm, t6, t5, hL, hi, d1, f1, o⟩
  simp only [t1, t6, go_sem, reduceIte, Nat.reduceEqDiff, Nat.reduceAdd, Nat.reduceMul, Nat.reduceLT, Nat.reduceLeDiff, reduceCtorEq, ne_eq, Int.reduceEq, Int.reduceLT, Int.reduceLE, Int.reduceNeg, Int.reduceToNat]
  refine w_open (by simp only [go_sem, reduceIte, Nat.reduceEqDiff, Nat.reduceAdd, Nat.reduceMul, Nat.reduceLT, Nat.reduceLeDiff, reduceCtorEq, ne_eq, Int.reduceEq, Int.reduceLT, Int.reduceLE, Int.reduceNeg, Int.reduceToNat]; rfl) ?_ ?_ <;> intro hc
  · have hw : IntKind.i64.wrap ((i : Int) + 1) = ((i + 1 : Nat) : Int) := w64 (by omega) (by omega)
    obtain ⟨x, h2, c2, d2, s2, x0, x1⟩ := k_l01Byte (X := X) d1
    have o2 := o.same s2 (.inr (by omega))
    rw [← s2.len] at o2
    obtain ⟨v3, h3, c3, q1, q2, o3⟩ := o2.push1 (by rw [s2.len]; exact f1.len) [.int .u8 (IntKind.u8.wrap x)] rfl (by rw [bys_len]; unfold lim; omega)
    rw [Nat.max_eq_right q1] at o3
    have f3 := (f1.trans (Fr'.same s2)).push2 q1 (fun c hc => q2 c (.inl hc))
    simp only [t0, t1, t5, t6, c2, zeros, fillAt, c3, hw, go_sem, reduceIte, Nat.reduceEqDiff, Nat.reduceAdd, Nat.reduceMul, Nat.reduceLT, Nat.reduceLeDiff, reduceCtorEq, ne_eq, Int.reduceEq, Int.reduceLT, Int.reduceLE, Int.reduceNeg, Int.reduceToNat]
    exact ⟨m - 1, by omega, i + 1, L ++ [IntKind.u8.wrap x], v3, by omega, rfl, rfl, by simp; omega, by omega, d.push2 d2 f3 (fun c hc => q2 c (.inl hc)), f3, by simpa [bys] using o3⟩
  · have hst : strV h1 v = some (.string (strOfNums L)) := o.rows.str
    simp only [t5, hst, go_sem, reduceIte, Nat.reduceEqDiff, Nat.reduceAdd, Nat.reduceMul, Nat.reduceLT, Nat.reduceLeDiff, reduceCtorEq, ne_eq, Int.reduceEq, Int.reduceLT, Int.reduceLE, Int.reduceNeg, Int.reduceToNat]
    refine ⟨⟨strOfNums L, by rw [finish_fst], ?_⟩, fin_fr d d1 f1⟩
    rw [strOfNums_size]
    omega

theorem sl_to {s : ByteArray} {i : Nat} (hi : i ≤ s.size) : slSV (.string s) none (some (.int .i64 (i : Int))) = some (.string (s.extract 0 i)) := by
  simp only [slSV, bnd]
  rw [if_pos ⟨by omega, by omega, by omega⟩]
  rfl
theorem sl_from {s : ByteArray} {i : Nat} (hi : i ≤ s.size) : slSV (.string s) (some (.int .i64 (i : Int))) none = some (.string (s.extract i s.size)) := by
  simp only [slSV, bnd]
  rw [if_pos ⟨by omega, by omega, by omega⟩]
  rfl
theorem ex_size {s : ByteArray} {i j : Nat} (hj : j ≤ s.size) : (s.extract i j).size ≤ s.size := by
  rw [ByteArray.size_extract]
  omega

theorem k_l02Spoilt (d : Dr B b cv l h) {s : ByteArray} (hs : s.size ≤ 1000000000) : ∃ (u : ByteArray) (hh : Heap), C T X n_spec_l02Spoilt [pk b 0, .string s] h = some (.string u, hh) ∧ u.size ≤ 2 * s.size + 5000 ∧ Dr B b cv l hh ∧ Fr' b h hh := by
  suffices hx : ∃ w hh, C T X n_spec_l02Spoilt [pk b 0, .string s] h = some (w, hh) ∧ (∃ u : ByteArray, w = .string u ∧ u.size ≤ 2 * s.size + 5000) ∧ Dr B b cv l hh ∧ Fr' b h hh by
    obtain ⟨w, hh, c, ⟨s, rfl, hs⟩, r⟩ := hx
    exact ⟨s, hh, c, hs, r⟩
  refine C_ex t_spec_l02Spoilt rfl ?_
  unfold F_spec_l02Spoilt
  obtain ⟨k, h1, c1, d1, s1, k0, k1, _⟩ := k_l01Below (X := X) d 12
  by_cases q0 : k = 0
  · obtain ⟨u, h2, c2, hu, d2, f2⟩ := k_l01Text (X := X) d1 1
    have hfit : s.size + u.size ≤ 9223372036854775807 := by omega
    simp only [c1, q0, c2, hfit, go_sem, reduceIte, Nat.reduceEqDiff, Nat.reduceAdd, Nat.reduceMul, Nat.reduceLT, Nat.reduceLeDiff, reduceCtorEq, ne_eq, Int.reduceEq, Int.reduceLT, Int.reduceLE, Int.reduceNeg, Int.reduceToNat]
    refine ⟨⟨s ++ u, by rw [finish_fst], ?_⟩, fin_fr d d2 ((Fr'.same s1).trans f2)⟩
    rw [ByteArray.size_append]
    omega
  by_cases q1 : k = 1
  · have hw : IntKind.i64.wrap ((s.size : Int) + 1) = ((s.size + 1 : Nat) : Int) := w64 (by omega) (by omega)
    obtain ⟨i, h2, c2, d2, s2, i0, i1, _⟩ := k_l01Below (X := X) d1 ((s.size + 1 : Nat) : Int)
    obtain ⟨j, rfl⟩ := Int.eq_ofNat_of_zero_le i0
    have hj : j ≤ s.size := by have := i1 (by omega); omega
    simp only [c1, q1, hw, c2, sl_to hj, go_sem, reduceIte, Nat.reduceEqDiff, Nat.reduceAdd, Nat.reduceMul, Nat.reduceLT, Nat.reduceLeDiff, reduceCtorEq, ne_eq, Int.reduceEq, Int.reduceLT, Int.reduceLE, Int.reduceNeg, Int.reduceToNat]
    refine ⟨⟨_, by rw [finish_fst], ?_⟩, fin_fr d d2 ((Fr'.same s1).trans (Fr'.same s2))⟩
    have := ex_size (s := s) (i := 0) hj
    omega
  by_cases q2 : k = 2 ∨ k = 3
  · by_cases hz : (s.size : Int) > 0
    · obtain ⟨i, h2, c2, d2, s2, i0, i1, _⟩ := k_l01Below (X := X) d1 (s.size : Int)
      obtain ⟨j, rfl⟩ := Int.eq_ofNat_of_zero_le i0
      have hj : j < s.size := by have := i1 (by omega); omega
      have hw : IntKind.i64.wrap ((j : Int) + 1) = ((j + 1 : Nat) : Int) := w64 (by omega) (by omega)
      obtain ⟨u, h3, c3, hu, d3, f3⟩ := k_l01Text (X := X) d2 1
      have e1 := ex_size (s := s) (i := 0) (j := j) (by omega)
      have e2 := ex_size (s := s) (i := j + 1) (j := s.size) (Nat.le_refl _)
      have f1 : (s.extract 0 j).size + u.size ≤ 9223372036854775807 := by omega
      have f2 : (s.extract 0 j).size + u.size + (s.extract (j + 1) s.size).size ≤ 9223372036854775807 := by omega
      have fin : (∃ v : ByteArray, (finish h (.string (s.extract 0 j ++ u ++ s.extract (j + 1) s.size), h3)).1 = .string v ∧ v.size ≤ 2 * s.size + 5000) ∧ Dr B b cv l (finish h (.string (s.extract 0 j ++ u ++ s.extract (j + 1) s.size), h3)).2 ∧ Fr' b h (finish h (.string (s.extract 0 j ++ u ++ s.extract (j + 1) s.size), h3)).2 := by
        refine ⟨⟨_, by rw [finish_fst], ?_⟩, fin_fr d d3 (((Fr'.same s1).trans (Fr'.same s2)).trans f3)⟩
        rw [ByteArray.size_append, ByteArray.size_append]
        omega
      rcases q2 with q2 | q2
      · simp only [c1, q2, hz, c2, sl_to (show j ≤ s.size by omega), hw, sl_from (show j + 1 ≤ s.size by omega), c3, f1, f2, go_sem, reduceIte, Nat.reduceEqDiff, Nat.reduceAdd, Nat.reduceMul, Nat.reduceLT, Nat.reduceLeDiff, reduceCtorEq, ne_eq, Int.reduceEq, Int.reduceLT, Int.reduceLE, Int.reduceNeg, Int.reduceToNat]
        exact fin
      · simp only [c1, q2, hz, c2, sl_to (show j ≤ s.size by omega), hw, sl_from (show j + 1 ≤ s.size by omega), c3, f1, f2, go_sem, reduceIte, Nat.reduceEqDiff, Nat.reduceAdd, Nat.reduceMul, Nat.reduceLT, Nat.reduceLeDiff, reduceCtorEq, ne_eq, Int.reduceEq, Int.reduceLT, Int.reduceLE, Int.reduceNeg, Int.reduceToNat]
        exact fin
    · have fin : (∃ v : ByteArray, (finish h (.string s, h1)).1 = .string v ∧ v.size ≤ 2 * s.size + 5000) ∧ Dr B b cv l (finish h (.string s, h1)).2 ∧ Fr' b h (finish h (.string s, h1)).2 :=
        ⟨⟨_, by rw [finish_fst], by omega⟩, fin_fr d d1 (Fr'.same s1)⟩
      rcases q2 with q2 | q2
      · simp only [c1, q2, hz, go_sem, reduceIte, Nat.reduceEqDiff, Nat.reduceAdd, Nat.reduceMul, Nat.reduceLT, Nat.reduceLeDiff, reduceCtorEq, ne_eq, Int.reduceEq, Int.reduceLT, Int.reduceLE, Int.reduceNeg, Int.reduceToNat]
        exact fin
      · simp only [c1, q2, hz, go_sem, reduceIte, Nat.reduceEqDiff, Nat.reduceAdd, Nat.reduceMul, Nat.reduceLT, Nat.reduceLeDiff, reduceCtorEq, ne_eq, Int.reduceEq, Int.reduceLT, Int.reduceLE, Int.reduceNeg, Int.reduceToNat]
        exact fin
  · have q3 : ¬ k = 2 := fun e => q2 (.inl e)
    have q4 : ¬ k = 3 := fun e => q2 (.inr e)
    simp only [c1, q0, q1, q3, q4, go_sem, reduceIte, Nat.reduceEqDiff, Nat.reduceAdd, Nat.reduceMul, Nat.reduceLT, Nat.reduceLeDiff, reduceCtorEq, ne_eq, Int.reduceEq, Int.reduceLT, Int.reduceLE, Int.reduceNeg, Int.reduceToNat]
    exact ⟨⟨_, by rw [finish_fst], by omega⟩, fin_fr d d1 (Fr'.same s1)⟩
end
end Go.Proofs.Ytioogligololoaa.Ab
