/- The law FnAsks, of arguments as they are shown. No conditions. -/
import Derived.Test.YtioogligololoaaK39
import Derived.Test.YtioogligololoaaP7
import Derived.Test.YtioogligololoaaOp3
set_option linter.unusedSimpArgs false
set_option linter.unusedVariables false
set_option linter.unnecessarySimpa false
set_option maxHeartbeats 4000000
namespace Go.Proofs.Ytioogligololoaa.Ab
open Go.RowKit
section
variable {X : CallF} {h : Heap} {cv : Value} {l : List Int}

theorem k_big (hc : Rows h 1 cv (bys l)) : C T X n_laws_big [cv] h = some (.bool (decide ((l.length : Int) > 1048576)), h) := by
  refine C_go t_laws_big rfl ?_
  unfold F_laws_big
  have hln : lnV h cv = some (.int .i64 (l.length : Int)) := by rw [hc.ln, bys_len]
  simp only [hln, go_sem, reduceIte, Nat.reduceEqDiff, Nat.reduceAdd, Nat.reduceMul, Nat.reduceLT, Nat.reduceLeDiff, reduceCtorEq, ne_eq, Int.reduceEq, Int.reduceLT, Int.reduceLE, Int.reduceNeg, Int.reduceToNat]

theorem Shape.bytes_inv {v : Value} (s : Shape h (.sl [.int .u8]) v) : ∃ l : List Int, Rows h 1 v (bys l) := by
  obtain ⟨rows, hr, hm, hk⟩ := s.sl_inv
  obtain ⟨l, rfl, hl⟩ := rows_map (f := fun n : Int => [Value.int .u8 n]) (Q := fun _ => True) (rows := rows) (fun r hrm => by
    obtain ⟨x, r', rfl, hx, h2⟩ := (hk r hrm).cons_inv
    obtain rfl := h2.nil_inv
    cases hx with
    | int k n hw => exact ⟨n, rfl, trivial⟩)
  exact ⟨l, hr⟩

open Classical in
theorem l_Asks (hc : Rows h 1 cv (bys l)) : C T X n_laws_FnAsks [cv] h = some (.bool true, h) := by
  refine C_go t_laws_FnAsks rfl ?_
  unfold F_laws_FnAsks
  have cb := k_big (X := X) hc
  by_cases hz : (l.length : Int) > 1048576
  · simp only [cb, hz, go_sem, reduceIte, Nat.reduceEqDiff, Nat.reduceAdd, Nat.reduceMul, Nat.reduceLT, Nat.reduceLeDiff, reduceCtorEq, ne_eq, Int.reduceEq, Int.reduceLT, Int.reduceLE, Int.reduceNeg, Int.reduceToNat]
  obtain ⟨x, h1, c1, p1⟩ := k_DrawAskText (X := X) hc (by omega)
  have c2 := k_impl_AskText (X := X) (h := h1) (op := x.op) (a := x.a) (b := x.b) (w1 := x.w1) (w2 := x.w2) (w3 := x.w3)
  have c3 := k_spec_AskText (X := X) (h := h1) (op := x.op) (a := x.a) (b := x.b) (w1 := x.w1) (w2 := x.w2) (w3 := x.w3)
  obtain ⟨u, hu⟩ : ∃ u, u = (if AskOk x.op [x.a, x.b, x.w1, x.w2, x.w3] then askText x.op [x.a, x.b, x.w1, x.w2, x.w3] else noT) := ⟨_, rfl⟩
  rw [← hu] at c2 c3
  have hus : u.size ≤ 100 := by
    rw [hu]
    split
    · unfold askText
      have := catV_size (s := strOfNums [x.op]) (l := [x.a, x.b, x.w1, x.w2, x.w3].take (numK x.op))
      rw [strOfNums_size] at this
      simp only [List.length_take, List.length_cons, List.length_nil] at this
      omega
    · exact Nat.zero_le _
  have c4 := k_impl_ReadAsk (X := X) (h := h1) (s := u) (by unfold lim; omega)
  obtain ⟨t, h2, c5, ht, p2⟩ := k_DrawReadAsk (X := X) (hc.up p1) (by omega)
  have c6 := k_impl_ReadAsk (X := X) (h := h2) (s := t) (by unfold lim; omega)
  have c7 := k_spec_ReadAsk (X := X) (h := h2) (s := t) (by unfold lim; omega)
  have hp := p1.trans p2
  -- what comes back from drawn bytes
  have back : ∃ (y : Aq) (ok : Bool), askR t = .tuple ⟨[.agg ⟨aqR y⟩, .bool ok]⟩ ∧ (ok = true → AskOk y.op [y.a, y.b, y.w1, y.w2, y.w3] ∧ askText y.op [y.a, y.b, y.w1, y.w2, y.w3] = t) := by
    unfold askR
    by_cases ok : AskIs t
    · rw [if_pos ok]
      exact ⟨⟨rdOp t, _, _, _, _, _⟩, true, rfl, fun _ => ⟨ok.2.2.1, ok.2.2.2⟩⟩
    · rw [if_neg ok]
      exact ⟨⟨0, 0, 0, 0, 0, 0⟩, false, rfl, fun h => by cases h⟩
  obtain ⟨y, ok, hy, hback⟩ := back
  rw [hy] at c6 c7
  have c8 := k_impl_AskText (X := X) (h := h2) (op := y.op) (a := y.a) (b := y.b) (w1 := y.w1) (w2 := y.w2) (w3 := y.w3)
  obtain ⟨w, hw⟩ : ∃ w, w = (if AskOk y.op [y.a, y.b, y.w1, y.w2, y.w3] then askText y.op [y.a, y.b, y.w1, y.w2, y.w3] else noT) := ⟨_, rfl⟩
  rw [← hw] at c8
  have hwt : ok = true → (w.toList == t.toList) = true := fun h => by
    rw [str_eq, hw, if_pos (hback h).1, (hback h).2]
    simp
  by_cases ha : AskOk x.op [x.a, x.b, x.w1, x.w2, x.w3]
  · obtain ⟨b1, b2, b3⟩ := ask_back (by rfl) ha
    rw [if_pos ha] at hu
    have hr : askR u = .tuple ⟨[.agg ⟨aqR x⟩, .bool true]⟩ := by
      unfold askR
      rw [hu, if_pos b1, b2]
      rw [b3 0 (by omega), b3 1 (by omega), b3 2 (by omega), b3 3 (by omega), b3 4 (by omega)]
      rfl
    rw [hr] at c4
    have he : eqSV [0, 0, 0, 0, 0, 0] true (.agg ⟨aqR x⟩) (.agg ⟨aqR x⟩) = some (.bool false) := by simp [eqSV, aqR, eqCells, eqCell]
    unfold aqR askV at *
    cases ok with
    | true =>
      have hwt' := hwt rfl
      simp only [cb, hz, c1, c2, c3, c4, c5, c6, c7, c8, ha, hwt', he, BEq.rfl, go_sem, reduceIte, Nat.reduceEqDiff, Nat.reduceAdd, Nat.reduceMul, Nat.reduceLT, Nat.reduceLeDiff, reduceCtorEq, ne_eq, Int.reduceEq, Int.reduceLT, Int.reduceLE, Int.reduceNeg, Int.reduceToNat]
      exact finish_flat rfl hp
    | false =>
      simp only [cb, hz, c1, c2, c3, c4, c5, c6, c7, c8, ha, he, BEq.rfl, go_sem, reduceIte, Nat.reduceEqDiff, Nat.reduceAdd, Nat.reduceMul, Nat.reduceLT, Nat.reduceLeDiff, reduceCtorEq, ne_eq, Int.reduceEq, Int.reduceLT, Int.reduceLE, Int.reduceNeg, Int.reduceToNat]
      exact finish_flat rfl hp
  · obtain ⟨z, ok2, hz2⟩ := askR_form u
    rw [hz2] at c4
    unfold aqR askV at *
    cases ok with
    | true =>
      have hwt' := hwt rfl
      simp only [cb, hz, c1, c2, c3, c4, c5, c6, c7, c8, ha, hwt', BEq.rfl, go_sem, reduceIte, Nat.reduceEqDiff, Nat.reduceAdd, Nat.reduceMul, Nat.reduceLT, Nat.reduceLeDiff, reduceCtorEq, ne_eq, Int.reduceEq, Int.reduceLT, Int.reduceLE, Int.reduceNeg, Int.reduceToNat]
      exact finish_flat rfl hp
    | false =>
      simp only [cb, hz, c1, c2, c3, c4, c5, c6, c7, c8, ha, BEq.rfl, go_sem, reduceIte, Nat.reduceEqDiff, Nat.reduceAdd, Nat.reduceMul, Nat.reduceLT, Nat.reduceLeDiff, reduceCtorEq, ne_eq, Int.reduceEq, Int.reduceLT, Int.reduceLE, Int.reduceNeg, Int.reduceToNat]
      exact finish_flat rfl hp
end

def ps_FnAsks : List (Bool × List CK) := [(false, [.sl [.int .u8]])]
theorem law_FnAsks (h : Heap) (avs : List Value) (ha : All2 (ArgOk h) ps_FnAsks avs) : C T noX n_laws_FnAsks avs h = some (.bool true, h) := by
  obtain ⟨v0, r, rfl, k0, ha⟩ := ha.cons_inv
  obtain rfl := ha.nil_inv
  obtain ⟨l, hl⟩ := k0.cell.bytes_inv
  exact l_Asks hl
end Go.Proofs.Ytioogligololoaa.Ab
