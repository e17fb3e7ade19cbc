/- Contracts: drawn asks and drawn bytes of asks. No conditions. -/
import Derived.Test.YtioogligololoaaK38
import Derived.Test.YtioogligololoaaK9
set_option linter.unusedSimpArgs false
set_option linter.unusedVariables false
set_option linter.unnecessarySimpa false
set_option maxHeartbeats 4000000
namespace Go.Proofs.Ytioogligololoaa.Ab
open Go.RowKit
section
variable {X : CallF} {h : Heap} {cv : Value} {l : List Int}

theorem dr_new (hc : Rows h 1 cv (bys l)) (hl : l.length ≤ 1048576) {x : Int} : Dr h h.length cv l (h ++ [curB cv 0 x]) :=
  ⟨List.prefix_append _ _, hc, Nat.le_refl _, by unfold lim; omega, 0, x, Nat.zero_le _, by simp⟩
theorem dr_pre {hh : Heap} (a : Fr' h.length h hh) : h <+: hh := a.up (List.prefix_refl h) (Nat.le_refl _)

theorem k_DrawAskText (hc : Rows h 1 cv (bys l)) (hl : l.length ≤ 1048576) : ∃ (x : Aq) (hh : Heap), C T X n_spec_DrawAskText [cv] h = some (.agg ⟨aqR x⟩, hh) ∧ h <+: hh := by
  suffices hx : ∃ w hh, C T X n_spec_DrawAskText [cv] h = some (w, hh) ∧ (∃ x : Aq, w = .agg ⟨aqR x⟩) ∧ h <+: hh by
    obtain ⟨w, hh, c, ⟨x, rfl⟩, r⟩ := hx
    exact ⟨x, hh, c, r⟩
  refine C_ex t_spec_DrawAskText rfl ?_
  unfold F_spec_DrawAskText
  obtain ⟨x0, c1⟩ := k_l01New (X := X) hc hl
  have d1 := dr_new hc hl (x := x0)
  obtain ⟨h1, hh1⟩ : ∃ h1 : Heap, h1 = h ++ [curB cv 0 x0] := ⟨_, rfl⟩
  rw [← hh1] at c1 d1
  have f1 : Fr' h.length h h1 := by rw [hh1]; exact Fr'.pre (List.prefix_append _ _)
  have hl1 : h1.length = h.length + 1 := by rw [hh1]; simp
  obtain ⟨h2, hh2⟩ : ∃ h2 : Heap, h2 = h1 ++ [⟨[], 2, y_Pair, true⟩] := ⟨_, rfl⟩
  have p2 : h1 <+: h2 := by rw [hh2]; exact List.prefix_append _ _
  have hl2 : h2.length = h1.length + 1 := by rw [hh2]; simp
  have om : Own h2 h1.length h2.length 2 y_Pair (.slice (some ⟨h1.length, 0, none⟩) 0 0) (prsL []) := by rw [hh2]; exact Acc.new.own
  obtain ⟨x, h3, c3, d3, f3⟩ := k_l13Ask (X := X) (d1.up p2) om (by omega) (Nat.le_refl _) (Nat.zero_le _) (fun p hp => absurd hp List.not_mem_nil)
  obtain ⟨y, h4, c4, d4, s4⟩ := k_l01Once (X := X) d3 8
  obtain ⟨m, h5, c5, d5, f5, _⟩ := pick_lit (X := X) d4 [1, -1, 1000000000, 1000000001] (by simp) (by unfold lim; simp)
  simp only [List.map_cons, List.map_nil, List.length_cons, List.length_nil, Nat.zero_add, Nat.reduceAdd] at c5
  have f4 : Fr' h.length h h4 := ((f1.trans (Fr'.pre p2)).trans f3).trans (Fr'.same s4)
  have c3' := c3
  unfold aqR at c3'
  cases y with
  | true =>
    simp only [c1, zeros, fillAt, ← hh2, c3', c4, c5, go_sem, reduceIte, Nat.reduceEqDiff, Nat.reduceAdd, Nat.reduceMul, Nat.reduceLT, Nat.reduceLeDiff, reduceCtorEq, ne_eq, Int.reduceEq, Int.reduceLT, Int.reduceLE, Int.reduceNeg, Int.reduceToNat]
    refine ⟨⟨_, by rw [finish_fst]; exact congrArg (fun l => Value.agg ⟨l⟩) (aq_ex.choose_spec)⟩, ?_⟩
    obtain ⟨hh, e, p, _⟩ := finish_cases (v := .agg ⟨[.int .i64 x.op, .int .i64 x.a, .int .i64 x.b, .int .i64 x.w1, .int .i64 x.w2, .int .i64 m]⟩) (dr_pre (f4.trans f5))
    rw [e]
    exact p
  | false =>
    simp only [c1, zeros, fillAt, ← hh2, c3', c4, go_sem, reduceIte, Nat.reduceEqDiff, Nat.reduceAdd, Nat.reduceMul, Nat.reduceLT, Nat.reduceLeDiff, reduceCtorEq, ne_eq, Int.reduceEq, Int.reduceLT, Int.reduceLE, Int.reduceNeg, Int.reduceToNat]
    refine ⟨⟨_, by rw [finish_fst]; exact congrArg (fun l => Value.agg ⟨l⟩) (aq_ex.choose_spec)⟩, ?_⟩
    obtain ⟨hh, e, p, _⟩ := finish_cases (v := .agg ⟨[.int .i64 x.op, .int .i64 x.a, .int .i64 x.b, .int .i64 x.w1, .int .i64 x.w2, .int .i64 x.w3]⟩) (dr_pre f4)
    rw [e]
    exact p

open Classical in
theorem k_DrawReadAsk (hc : Rows h 1 cv (bys l)) (hl : l.length ≤ 1048576) : ∃ (s : ByteArray) (hh : Heap), C T X n_spec_DrawReadAsk [cv] h = some (.string s, hh) ∧ s.size ≤ 10000 ∧ h <+: hh := by
  suffices hx : ∃ w hh, C T X n_spec_DrawReadAsk [cv] h = some (w, hh) ∧ (∃ s : ByteArray, w = .string s ∧ s.size ≤ 10000) ∧ h <+: hh by
    obtain ⟨w, hh, c, ⟨x, rfl, hs⟩, r⟩ := hx
    exact ⟨x, hh, c, hs, r⟩
  refine C_ex t_spec_DrawReadAsk rfl ?_
  unfold F_spec_DrawReadAsk
  obtain ⟨x0, c1⟩ := k_l01New (X := X) hc hl
  have d1 := dr_new hc hl (x := x0)
  obtain ⟨h1, hh1⟩ : ∃ h1 : Heap, h1 = h ++ [curB cv 0 x0] := ⟨_, rfl⟩
  rw [← hh1] at c1 d1
  have f1 : Fr' h.length h h1 := by rw [hh1]; exact Fr'.pre (List.prefix_append _ _)
  have hl1 : h1.length = h.length + 1 := by rw [hh1]; simp
  obtain ⟨ml, hml⟩ : ∃ ml : List Pr, ml = [⟨⟨⟨[118, 48, 49]⟩⟩, ⟨⟨[97]⟩⟩⟩, ⟨⟨⟨[118, 48, 51]⟩⟩, ⟨⟨[97]⟩⟩⟩] := ⟨_, rfl⟩
  obtain ⟨h2, hh2⟩ : ∃ h2 : Heap, h2 = h1 ++ [⟨[.string ⟨⟨[118, 48, 49]⟩⟩, .string ⟨⟨[97]⟩⟩, .string ⟨⟨[118, 48, 51]⟩⟩, .string ⟨⟨[97]⟩⟩], 2, y_Pair, true⟩] := ⟨_, rfl⟩
  have p2 : h1 <+: h2 := by rw [hh2]; exact List.prefix_append _ _
  have hl2 : h2.length = h1.length + 1 := by rw [hh2]; simp
  have om : Own h2 h1.length h2.length 2 y_Pair (.slice (some ⟨h1.length, 0, none⟩) 2 2) (prsL ml) := by
    have := Own.made (h := h1) (ty := y_Pair) (rws := prsL ml) (map_row prR_len)
    rw [hml] at this ⊢
    rw [hl2, hh2]
    exact this
  obtain ⟨x, h3, c3, d3, f3⟩ := k_l13Ask (X := X) (d1.up p2) om (by omega) (Nat.le_refl _) (by rw [hml]; simp) (fun p hp => by
    rw [hml] at hp
    simp only [List.mem_cons, List.not_mem_nil, or_false] at hp
    rcases hp with rfl | rfl
    · exact ⟨by decide, by unfold lim; decide⟩
    · exact ⟨by decide, by unfold lim; decide⟩)
  have c4 := k_spec_AskText (X := X) (h := h3) (op := x.op) (a := x.a) (b := x.b) (w1 := x.w1) (w2 := x.w2) (w3 := x.w3)
  obtain ⟨u, hu⟩ : ∃ u, u = (if AskOk x.op [x.a, x.b, x.w1, x.w2, x.w3] then askText x.op [x.a, x.b, x.w1, x.w2, x.w3] else noT) := ⟨_, rfl⟩
  have hus : u.size ≤ 100 := by
    rw [hu]
    split
    · unfold askText
      have := catV_size (s := strOfNums [x.op]) (l := [x.a, x.b, x.w1, x.w2, x.w3].take (numK x.op))
      rw [strOfNums_size] at this
      simp only [List.length_take, List.length_cons, List.length_nil] at this
      omega
    · exact Nat.zero_le _
  rw [← hu] at c4
  obtain ⟨s, h5, c5, hs, d5, f5⟩ := k_l02Spoilt (X := X) d3 (s := u) (by omega)
  have f4 : Fr' h.length h h5 := ((f1.trans (Fr'.pre p2)).trans f3).trans f5
  unfold aqR at c3
  unfold askV at c4
  simp only [c1, zeros, fillAt, ← hh2, c3, c4, c5, go_sem, reduceIte, Nat.reduceEqDiff, Nat.reduceAdd, Nat.reduceMul, Nat.reduceLT, Nat.reduceLeDiff, reduceCtorEq, ne_eq, Int.reduceEq, Int.reduceLT, Int.reduceLE, Int.reduceNeg, Int.reduceToNat]
  refine ⟨⟨s, by rw [finish_fst], by omega⟩, ?_⟩
  obtain ⟨hh, e, p, _⟩ := finish_cases (v := .string s) (dr_pre f4)
  rw [e]
  exact p
end
end Go.Proofs.Ytioogligololoaa.Ab
