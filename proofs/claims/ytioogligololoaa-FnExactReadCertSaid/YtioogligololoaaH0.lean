/- Contracts of the laws' helpers for flat lists. No conditions. -/
import Derived.Test.YtioogligololoaaFT
import Derived.Test.YtioogligololoaaR
set_option linter.unusedSimpArgs false
set_option linter.unusedVariables false
set_option linter.unnecessarySimpa false
set_option maxHeartbeats 4000000
namespace Go.Proofs.Ytioogligololoaa.Ab
open Go.RowKit
/-- What is left behind a list. -/
def szL (len : Nat) (n : Int) : Int := if n - len < 0 then -1 else n - len
section
variable {X : CallF} {h : Heap}
end
section
variable {X : CallF} {h : Heap} {a b : Value} {l : List E} {rws : List (List Value)} {k : Nat}
theorem k_toEdge {l : E} : C T X n_laws_toEdge [.agg ⟨edgeR l⟩] h = some (.agg ⟨edgeR l⟩, h) := by
  refine C_go t_laws_toEdge rfl ?_
  unfold F_laws_toEdge edgeR
  simp only [go_sem, reduceIte, Nat.reduceEqDiff, Nat.reduceAdd, Nat.reduceMul, Nat.reduceLT, Nat.reduceLeDiff, reduceCtorEq, ne_eq, Int.reduceEq, Int.reduceLT, Int.reduceLE, Int.reduceNeg, Int.reduceToNat]
  try rfl
theorem k_eqEdge {l : E} : C T X n_laws_eqEdge [.agg ⟨edgeR l⟩, .agg ⟨edgeR l⟩] h = some (.bool true, h) := by
  refine C_go t_laws_eqEdge rfl ?_
  unfold F_laws_eqEdge edgeR
  simp only [BEq.rfl, go_sem, reduceIte, Nat.reduceEqDiff, Nat.reduceAdd, Nat.reduceMul, Nat.reduceLT, Nat.reduceLeDiff, reduceCtorEq, ne_eq, Int.reduceEq, Int.reduceLT, Int.reduceLE, Int.reduceNeg, Int.reduceToNat]
  try rfl
theorem k_toEdgeS (ha : Rows h 5 a (edges l)) (hl : l.length ≤ lim) : C T X n_laws_toEdgeS [a] h = some (.slice (some ⟨h.length, 0, none⟩) l.length l.length, h ++ [⟨(edges l).flatten, 5, y_Edge, true⟩]) := by
  have hl2 := hl
  unfold lim at hl2
  refine C_go t_laws_toEdgeS rfl ?_
  unfold F_laws_toEdgeS
  simp only [Rows.lnm (f := edgeR) ha, mkW_ok hl, go_sem, reduceIte, Nat.reduceEqDiff, Nat.reduceAdd, Nat.reduceMul, Nat.reduceLT, Nat.reduceLeDiff, reduceCtorEq, ne_eq, Int.reduceEq, Int.reduceLT, Int.reduceLE, Int.reduceNeg, Int.reduceToNat]
  rw [fill_start (rows := edges l)]
  refine w_for l.length (fun i t loc h' => h' = h ++ [⟨fillC [.int .i64 0, .int .i64 0, .int .i64 0, .int .i64 0, .int .i64 0] (edges l) l.length i, 5, y_Edge, true⟩] ∧ t 0 = a ∧ t 3 = .slice (some ⟨h.length, 0, none⟩) l.length l.length ∧ t 4 = .int .i64 i) ⟨rfl, rfl, rfl, rfl⟩ ?_
  rintro i t loc h' hi ⟨rfl, t0, t3, t4⟩
  have hu := ha.up (List.prefix_append h [⟨fillC [.int .i64 0, .int .i64 0, .int .i64 0, .int .i64 0, .int .i64 0] (edges l) l.length i, 5, y_Edge, true⟩])
  simp only [t0, t3, t4, Rows.lnm (f := edgeR) hu, go_sem, reduceIte, Nat.reduceEqDiff, Nat.reduceAdd, Nat.reduceMul, Nat.reduceLT, Nat.reduceLeDiff, reduceCtorEq, ne_eq, Int.reduceEq, Int.reduceLT, Int.reduceLE, Int.reduceNeg, Int.reduceToNat]
  refine w_open (by simp only [go_sem, reduceIte, Nat.reduceEqDiff, Nat.reduceAdd, Nat.reduceMul, Nat.reduceLT, Nat.reduceLeDiff, reduceCtorEq, ne_eq, Int.reduceEq, Int.reduceLT, Int.reduceLE, Int.reduceNeg, Int.reduceToNat]; rfl) ?_ ?_ <;> intro hc
  · have hi1 : i < l.length := by omega
    have hrow : ∀ r ∈ (edges l), r.length = 5 := map_row edgeR_len
    have hlen : (edges l).length = l.length := List.length_map ..
    have hi2 : i < (edges l).length := by omega
    have hst := fill_st (h := h) (ext := []) (z := [.int .i64 0, .int .i64 0, .int .i64 0, .int .i64 0, .int .i64 0]) (ty := y_Edge) hrow rfl hlen hi2
    have hgt : (edges l)[i] = edgeR (l.getD i e0) := map_at (d := e0) hi1
    rw [hgt] at hst
    have hia := fill_ia (h := h) (ext := []) (z := [.int .i64 0, .int .i64 0, .int .i64 0, .int .i64 0, .int .i64 0]) (ty := y_Edge) hrow rfl hlen (i := i) (by omega) (k := .i64) (j := (i : Int)) (by omega) (by omega)
    rw [Int.toNat_natCast] at hia
    have hw : IntKind.i64.wrap ((i : Int) + 1) = ((i + 1 : Nat) : Int) := w64 (by omega) (by omega)
    have hel := hu.el (f := edgeR) e0 hi1
    have hl2 : ofCells true (edgeR (l.getD i e0)) = some (.agg ⟨edgeR (l.getD i e0)⟩) := rfl
    have hl3 : cellsOf (.agg ⟨edgeR (l.getD i e0)⟩) = some (edgeR (l.getD i e0)) := rfl
    have hl4 := edgeR_len (l.getD i e0)
    skip
    simp only [t0, t3, t4, hel.1, hel.2.2, k_toEdge, hia, hw, hl2, hl3, hl4, Option.bind_some, hst, go_sem, reduceIte, Nat.reduceEqDiff, Nat.reduceAdd, Nat.reduceMul, Nat.reduceLT, Nat.reduceLeDiff, reduceCtorEq, ne_eq, Int.reduceEq, Int.reduceLT, Int.reduceLE, Int.reduceNeg, Int.reduceToNat]
    exact hi1
  · have hil : i = l.length := by omega
    subst hil
    simp only [t3, go_sem, reduceIte, Nat.reduceEqDiff, Nat.reduceAdd, Nat.reduceMul, Nat.reduceLT, Nat.reduceLeDiff, reduceCtorEq, ne_eq, Int.reduceEq, Int.reduceLT, Int.reduceLE, Int.reduceNeg, Int.reduceToNat]
    rw [finish_deep rfl, fill_end (by simp [ints])]
theorem k_szEdgeS (ha : Rows h 5 a (edges l)) (hl : l.length ≤ maxLen) {n : Int} (h0 : 0 ≤ n) (h1 : n ≤ 1048576) : C T X n_laws_szEdgeS [a, .int .i64 n] h = some (.int .i64 (szL l.length n), h) := by
  unfold maxLen at hl
  refine C_go t_laws_szEdgeS rfl ?_
  unfold F_laws_szEdgeS szL
  have hw : IntKind.i64.wrap (n - (l.length : Int)) = n - l.length := w64 (by omega) (by omega)
  simp only [Rows.lnm (f := edgeR) ha, hw, go_sem, reduceIte, Nat.reduceEqDiff, Nat.reduceAdd, Nat.reduceMul, Nat.reduceLT, Nat.reduceLeDiff, reduceCtorEq, ne_eq, Int.reduceEq, Int.reduceLT, Int.reduceLE, Int.reduceNeg, Int.reduceToNat]
  refine w_open (by simp only [go_sem, reduceIte, Nat.reduceEqDiff, Nat.reduceAdd, Nat.reduceMul, Nat.reduceLT, Nat.reduceLeDiff, reduceCtorEq, ne_eq, Int.reduceEq, Int.reduceLT, Int.reduceLE, Int.reduceNeg, Int.reduceToNat]; rfl) ?_ ?_ <;> intro hc
  · simp only [hc, go_sem, reduceIte, Nat.reduceEqDiff, Nat.reduceAdd, Nat.reduceMul, Nat.reduceLT, Nat.reduceLeDiff, reduceCtorEq, ne_eq, Int.reduceEq, Int.reduceLT, Int.reduceLE, Int.reduceNeg, Int.reduceToNat]
  · simp only [hc, go_sem, reduceIte, Nat.reduceEqDiff, Nat.reduceAdd, Nat.reduceMul, Nat.reduceLT, Nat.reduceLeDiff, reduceCtorEq, ne_eq, Int.reduceEq, Int.reduceLT, Int.reduceLE, Int.reduceNeg, Int.reduceToNat]
theorem k_eqEdgeS (ha : Rows h 5 a (edges l)) (hb : Rows h 5 b (edges l)) (hl : l.length ≤ lim) : C T X n_laws_eqEdgeS [a, b] h = some (.bool true, h) := by
  unfold lim at hl
  refine C_go t_laws_eqEdgeS rfl ?_
  unfold F_laws_eqEdgeS
  simp only [Rows.lnm (f := edgeR) ha, Rows.lnm (f := edgeR) hb, go_sem, reduceIte, Nat.reduceEqDiff, Nat.reduceAdd, Nat.reduceMul, Nat.reduceLT, Nat.reduceLeDiff, reduceCtorEq, ne_eq, Int.reduceEq, Int.reduceLT, Int.reduceLE, Int.reduceNeg, Int.reduceToNat]
  refine w_for l.length (fun i t loc h' => h' = h ∧ t 0 = a ∧ t 1 = b ∧ t 5 = .int .i64 i) ⟨rfl, rfl, rfl, rfl⟩ ?_
  rintro i t loc h' hi ⟨rfl, t0, t1, t5⟩
  simp only [t0, t5, Rows.lnm (f := edgeR) ha, go_sem, reduceIte, Nat.reduceEqDiff, Nat.reduceAdd, Nat.reduceMul, Nat.reduceLT, Nat.reduceLeDiff, reduceCtorEq, ne_eq, Int.reduceEq, Int.reduceLT, Int.reduceLE, Int.reduceNeg, Int.reduceToNat]
  refine w_open (by simp only [go_sem, reduceIte, Nat.reduceEqDiff, Nat.reduceAdd, Nat.reduceMul, Nat.reduceLT, Nat.reduceLeDiff, reduceCtorEq, ne_eq, Int.reduceEq, Int.reduceLT, Int.reduceLE, Int.reduceNeg, Int.reduceToNat]; rfl) ?_ ?_ <;> intro hc
  · have hi1 : i < l.length := by omega
    have hw : IntKind.i64.wrap ((i : Int) + 1) = ((i + 1 : Nat) : Int) := w64 (by omega) (by omega)
    have hel := ha.el (f := edgeR) e0 hi1
    have hel2 := hb.el (f := edgeR) e0 hi1
    have hl2 : ofCells true (edgeR (l.getD i e0)) = some (.agg ⟨edgeR (l.getD i e0)⟩) := rfl
    skip
    simp only [t0, t1, t5, hel.1, hel.2.2, hel2.1, hel2.2.2, k_eqEdge, hw, hl2, Option.bind_some, BEq.rfl, List.prefix_refl, go_sem, reduceIte, Nat.reduceEqDiff, Nat.reduceAdd, Nat.reduceMul, Nat.reduceLT, Nat.reduceLeDiff, reduceCtorEq, ne_eq, Int.reduceEq, Int.reduceLT, Int.reduceLE, Int.reduceNeg, Int.reduceToNat]
    exact hi1
  · simp only [go_sem, reduceIte, Nat.reduceEqDiff, Nat.reduceAdd, Nat.reduceMul, Nat.reduceLT, Nat.reduceLeDiff, reduceCtorEq, ne_eq, Int.reduceEq, Int.reduceLT, Int.reduceLE, Int.reduceNeg, Int.reduceToNat]
def mkEdge (k : Nat) : List Value := [.int .i64 ((k + 0 : Nat) : Int), .int .i64 ((k + 1 : Nat) : Int), .int .i64 ((k + 2 : Nat) : Int), .int .i64 ((k + 3 : Nat) : Int), .int .i64 ((k + 4 : Nat) : Int)]
theorem mkEdge_len (k : Nat) : (mkEdge k).length = 5 := rfl
theorem k_markEdgeS {lo hi : Nat} (o : Own h lo hi 5 y_Edge a rws) (hl : rws.length ≤ lim) {k : Nat} (hk : k ≤ 2305843009213693952) : ∃ h', C T X n_laws_markEdgeS [a, .int .i64 (k : Int)] h = some (.int .i64 ((k + rws.length * 5 : Nat) : Int), h') ∧ Same lo hi h h' ∧ Own h' lo hi 5 y_Edge a (mkRows mkEdge k 5 rws.length) := by
  unfold lim at hl
  refine C_exH t_laws_markEdgeS rfl ?_
  unfold F_laws_markEdgeS
  simp only [go_sem, reduceIte, Nat.reduceEqDiff, Nat.reduceAdd, Nat.reduceMul, Nat.reduceLT, Nat.reduceLeDiff, reduceCtorEq, ne_eq, Int.reduceEq, Int.reduceLT, Int.reduceLE, Int.reduceNeg, Int.reduceToNat]
  refine w_for rws.length (fun i t loc h' => t 0 = a ∧ t 1 = .int .i64 ((k + i * 5 : Nat) : Int) ∧ t 5 = .int .i64 i ∧ Same lo hi h h' ∧ ∃ R, R.length = rws.length ∧ (∀ j, j < i → R[j]? = some (mkEdge (k + j * 5))) ∧ Own h' lo hi 5 y_Edge a R) ⟨rfl, by simp [upd], rfl, Same.refl, rws, rfl, fun j hj => by omega, o⟩ ?_
  rintro i t loc h0 hi ⟨t0, t1, t5, hs, R, hR, hj, o0⟩
  simp only [t0, t5, o0.ln, hR, go_sem, reduceIte, Nat.reduceEqDiff, Nat.reduceAdd, Nat.reduceMul, Nat.reduceLT, Nat.reduceLeDiff, reduceCtorEq, ne_eq, Int.reduceEq, Int.reduceLT, Int.reduceLE, Int.reduceNeg, Int.reduceToNat]
  refine w_open (by simp only [go_sem, reduceIte, Nat.reduceEqDiff, Nat.reduceAdd, Nat.reduceMul, Nat.reduceLT, Nat.reduceLeDiff, reduceCtorEq, ne_eq, Int.reduceEq, Int.reduceLT, Int.reduceLE, Int.reduceNeg, Int.reduceToNat]; rfl) ?_ ?_ <;> intro hc
  · have hi1 : i < rws.length := by omega
    have hi2 : i < R.length := by omega
    have hw : IntKind.i64.wrap ((i : Int) + 1) = ((i + 1 : Nat) : Int) := w64 (by omega) (by omega)
    have w0 : IntKind.i64.wrap (((k + i * 5 : Nat) : Int) + 1) = ((k + i * 5 + 1 : Nat) : Int) := w64 (by omega) (by omega)
    have w1 : IntKind.i64.wrap (((k + i * 5 + 1 : Nat) : Int) + 1) = ((k + i * 5 + 2 : Nat) : Int) := w64 (by omega) (by omega)
    have w2 : IntKind.i64.wrap (((k + i * 5 + 2 : Nat) : Int) + 1) = ((k + i * 5 + 3 : Nat) : Int) := w64 (by omega) (by omega)
    have w3 : IntKind.i64.wrap (((k + i * 5 + 3 : Nat) : Int) + 1) = ((k + i * 5 + 4 : Nat) : Int) := w64 (by omega) (by omega)
    have w4 : IntKind.i64.wrap (((k + i * 5 + 4 : Nat) : Int) + 1) = ((k + i * 5 + 5 : Nat) : Int) := w64 (by omega) (by omega)
    have q0 := o0.self hi2
    obtain ⟨r, hr⟩ : ∃ r, R[i] = r := ⟨_, rfl⟩
    have hrl := o0.row_len hi2
    rw [hr] at q0 hrl
    obtain ⟨r0, r1, r2, r3, r4, rfl⟩ : ∃ r0 r1 r2 r3 r4, r = [r0, r1, r2, r3, r4] := by
      match r, hrl with
      | [r0, r1, r2, r3, r4], _ => exact ⟨r0, r1, r2, r3, r4, rfl⟩
    have el0 := q0.el (i := i) (by simpa using hi2)
    obtain ⟨h1, e0, s0, q1⟩ := q0.st2 hi2 (k := 0) (vs := [.int .i64 ((k + i * 5 : Nat) : Int)]) (by simp)
    simp only [putAt, List.take_zero, List.take_succ_cons, List.drop_zero, List.drop_succ_cons, List.nil_append, List.cons_append, List.length_cons, List.length_nil, Nat.zero_add, List.append_nil, List.drop_nil, Nat.reduceAdd] at q1
    have el1 := q1.el (i := i) (by simpa using hi2)
    obtain ⟨h2, e1, s1, q2⟩ := q1.st2 hi2 (k := 1) (vs := [.int .i64 ((k + i * 5 + 1 : Nat) : Int)]) (by simp)
    simp only [putAt, List.take_zero, List.take_succ_cons, List.drop_zero, List.drop_succ_cons, List.nil_append, List.cons_append, List.length_cons, List.length_nil, Nat.zero_add, List.append_nil, List.drop_nil, Nat.reduceAdd] at q2
    have el2 := q2.el (i := i) (by simpa using hi2)
    obtain ⟨h3, e2, s2, q3⟩ := q2.st2 hi2 (k := 2) (vs := [.int .i64 ((k + i * 5 + 2 : Nat) : Int)]) (by simp)
    simp only [putAt, List.take_zero, List.take_succ_cons, List.drop_zero, List.drop_succ_cons, List.nil_append, List.cons_append, List.length_cons, List.length_nil, Nat.zero_add, List.append_nil, List.drop_nil, Nat.reduceAdd] at q3
    have el3 := q3.el (i := i) (by simpa using hi2)
    obtain ⟨h4, e3, s3, q4⟩ := q3.st2 hi2 (k := 3) (vs := [.int .i64 ((k + i * 5 + 3 : Nat) : Int)]) (by simp)
    simp only [putAt, List.take_zero, List.take_succ_cons, List.drop_zero, List.drop_succ_cons, List.nil_append, List.cons_append, List.length_cons, List.length_nil, Nat.zero_add, List.append_nil, List.drop_nil, Nat.reduceAdd] at q4
    have el4 := q4.el (i := i) (by simpa using hi2)
    obtain ⟨h5, e4, s4, q5⟩ := q4.st2 hi2 (k := 4) (vs := [.int .i64 ((k + i * 5 + 4 : Nat) : Int)]) (by simp)
    simp only [putAt, List.take_zero, List.take_succ_cons, List.drop_zero, List.drop_succ_cons, List.nil_append, List.cons_append, List.length_cons, List.length_nil, Nat.zero_add, List.append_nil, List.drop_nil, Nat.reduceAdd] at q5
    (try simp only [Nat.add_zero, Nat.zero_add] at w0 e0 el0)
    simp only [t0, t1, t5, hw, el0.1, el0.2, e0, w0, el1.1, el1.2, e1, w1, el2.1, el2.2, e2, w2, el3.1, el3.2, e3, w3, el4.1, el4.2, e4, w4, Nat.add_zero, Nat.zero_add, go_sem, reduceIte, Nat.reduceEqDiff, Nat.reduceAdd, Nat.reduceMul, Nat.reduceLT, Nat.reduceLeDiff, reduceCtorEq, ne_eq, Int.reduceEq, Int.reduceLT, Int.reduceLE, Int.reduceNeg, Int.reduceToNat]
    have hs' := (((((hs.trans s0).trans s1).trans s2).trans s3).trans s4)
    refine ⟨hi1, by first | omega | (congr 2; omega), hs', _, by simpa using hR, fun j hj2 => ?_, q5⟩
    by_cases e : j = i
    · subst e; rw [List.getElem?_set_self hi2]; rfl
    · rw [List.getElem?_set_ne (by omega)]; exact hj j (by omega)
  · have hil : i = rws.length := by omega
    subst hil
    have hRe : R = mkRows mkEdge k 5 rws.length := rows_eq (by rw [hR, mkRows_len]) fun j hj2 => by rw [hj j (by omega), mkRows_get (by omega)]
    subst hRe
    simp only [t1, finish_room hs.len, go_sem, reduceIte, Nat.reduceEqDiff, Nat.reduceAdd, Nat.reduceMul, Nat.reduceLT, Nat.reduceLeDiff, reduceCtorEq, ne_eq, Int.reduceEq, Int.reduceLT, Int.reduceLE, Int.reduceNeg, Int.reduceToNat]
    exact ⟨hs, o0⟩
theorem k_heldEdgeS {n : Nat} (ha : Rows h 5 a (mkRows mkEdge k 5 n)) (hl : n ≤ lim) (hk : k ≤ 2305843009213693952) : C T X n_laws_heldEdgeS [a, .int .i64 (k : Int)] h = some (.int .i64 ((k + n * 5 : Nat) : Int), h) := by
  unfold lim at hl
  refine C_go t_laws_heldEdgeS rfl ?_
  unfold F_laws_heldEdgeS
  have hln : lnV h a = some (.int .i64 n) := by rw [ha.ln, mkRows_len]
  simp only [go_sem, reduceIte, Nat.reduceEqDiff, Nat.reduceAdd, Nat.reduceMul, Nat.reduceLT, Nat.reduceLeDiff, reduceCtorEq, ne_eq, Int.reduceEq, Int.reduceLT, Int.reduceLE, Int.reduceNeg, Int.reduceToNat]
  refine w_for n (fun i t loc h' => h' = h ∧ t 0 = a ∧ t 1 = .int .i64 ((k + i * 5 : Nat) : Int) ∧ t 5 = .int .i64 i) ⟨rfl, rfl, by simp [upd], rfl⟩ ?_
  rintro i t loc h' hi ⟨rfl, t0, t1, t5⟩
  simp only [t0, t5, hln, go_sem, reduceIte, Nat.reduceEqDiff, Nat.reduceAdd, Nat.reduceMul, Nat.reduceLT, Nat.reduceLeDiff, reduceCtorEq, ne_eq, Int.reduceEq, Int.reduceLT, Int.reduceLE, Int.reduceNeg, Int.reduceToNat]
  refine w_open (by simp only [go_sem, reduceIte, Nat.reduceEqDiff, Nat.reduceAdd, Nat.reduceMul, Nat.reduceLT, Nat.reduceLeDiff, reduceCtorEq, ne_eq, Int.reduceEq, Int.reduceLT, Int.reduceLE, Int.reduceNeg, Int.reduceToNat]; rfl) ?_ ?_ <;> intro hc
  · have hi1 : i < n := by omega
    have hw : IntKind.i64.wrap ((i : Int) + 1) = ((i + 1 : Nat) : Int) := w64 (by omega) (by omega)
    have hi3 : i < (List.range n).length := by simpa using hi1
    have w0 : IntKind.i64.wrap (((k + i * 5 : Nat) : Int) + 1) = ((k + i * 5 + 1 : Nat) : Int) := w64 (by omega) (by omega)
    have w1 : IntKind.i64.wrap (((k + i * 5 + 1 : Nat) : Int) + 1) = ((k + i * 5 + 2 : Nat) : Int) := w64 (by omega) (by omega)
    have w2 : IntKind.i64.wrap (((k + i * 5 + 2 : Nat) : Int) + 1) = ((k + i * 5 + 3 : Nat) : Int) := w64 (by omega) (by omega)
    have w3 : IntKind.i64.wrap (((k + i * 5 + 3 : Nat) : Int) + 1) = ((k + i * 5 + 4 : Nat) : Int) := w64 (by omega) (by omega)
    have w4 : IntKind.i64.wrap (((k + i * 5 + 4 : Nat) : Int) + 1) = ((k + i * 5 + 5 : Nat) : Int) := w64 (by omega) (by omega)
    have hel := ha.el (f := fun i => mkEdge (k + i * 5)) 0 hi3
    have c0 := ha.cell (f := fun i => mkEdge (k + i * 5)) 0 hi3 (o := 0) (by omega)
    rw [range_getD hi1] at c0
    simp only [mkEdge, List.getD_cons_zero, List.getD_cons_succ] at c0
    have c1 := ha.cell (f := fun i => mkEdge (k + i * 5)) 0 hi3 (o := 1) (by omega)
    rw [range_getD hi1] at c1
    simp only [mkEdge, List.getD_cons_zero, List.getD_cons_succ] at c1
    have c2 := ha.cell (f := fun i => mkEdge (k + i * 5)) 0 hi3 (o := 2) (by omega)
    rw [range_getD hi1] at c2
    simp only [mkEdge, List.getD_cons_zero, List.getD_cons_succ] at c2
    have c3 := ha.cell (f := fun i => mkEdge (k + i * 5)) 0 hi3 (o := 3) (by omega)
    rw [range_getD hi1] at c3
    simp only [mkEdge, List.getD_cons_zero, List.getD_cons_succ] at c3
    have c4 := ha.cell (f := fun i => mkEdge (k + i * 5)) 0 hi3 (o := 4) (by omega)
    rw [range_getD hi1] at c4
    simp only [mkEdge, List.getD_cons_zero, List.getD_cons_succ] at c4
    simp only [Nat.add_zero, Nat.zero_add] at w0 c0
    simp only [t0, t1, t5, hw, hel.1, hel.2.1, c0, w0, c1, w1, c2, w2, c3, w3, c4, w4, Nat.add_zero, Nat.zero_add, BEq.rfl, List.prefix_refl, go_sem, reduceIte, Nat.reduceEqDiff, Nat.reduceAdd, Nat.reduceMul, Nat.reduceLT, Nat.reduceLeDiff, reduceCtorEq, ne_eq, Int.reduceEq, Int.reduceLT, Int.reduceLE, Int.reduceNeg, Int.reduceToNat]
    exact ⟨hi1, by first | omega | (congr 2; omega)⟩
  · have hil : i = n := by omega
    subst hil
    simp only [t1, go_sem, reduceIte, Nat.reduceEqDiff, Nat.reduceAdd, Nat.reduceMul, Nat.reduceLT, Nat.reduceLeDiff, reduceCtorEq, ne_eq, Int.reduceEq, Int.reduceLT, Int.reduceLE, Int.reduceNeg, Int.reduceToNat]
end
section
variable {X : CallF} {h : Heap} {a b : Value} {l : List Cp} {rws : List (List Value)} {k : Nat}
theorem k_toCouple {l : Cp} : C T X n_laws_toCouple [.agg ⟨cpR l⟩] h = some (.agg ⟨cpR l⟩, h) := by
  refine C_go t_laws_toCouple rfl ?_
  unfold F_laws_toCouple cpR
  simp only [go_sem, reduceIte, Nat.reduceEqDiff, Nat.reduceAdd, Nat.reduceMul, Nat.reduceLT, Nat.reduceLeDiff, reduceCtorEq, ne_eq, Int.reduceEq, Int.reduceLT, Int.reduceLE, Int.reduceNeg, Int.reduceToNat]
  try rfl
theorem k_eqCouple {l : Cp} : C T X n_laws_eqCouple [.agg ⟨cpR l⟩, .agg ⟨cpR l⟩] h = some (.bool true, h) := by
  refine C_go t_laws_eqCouple rfl ?_
  unfold F_laws_eqCouple cpR
  simp only [BEq.rfl, go_sem, reduceIte, Nat.reduceEqDiff, Nat.reduceAdd, Nat.reduceMul, Nat.reduceLT, Nat.reduceLeDiff, reduceCtorEq, ne_eq, Int.reduceEq, Int.reduceLT, Int.reduceLE, Int.reduceNeg, Int.reduceToNat]
  try rfl
theorem k_toCoupleS (ha : Rows h 2 a (cps l)) (hl : l.length ≤ lim) : C T X n_laws_toCoupleS [a] h = some (.slice (some ⟨h.length, 0, none⟩) l.length l.length, h ++ [⟨(cps l).flatten, 2, y_Couple, true⟩]) := by
  have hl2 := hl
  unfold lim at hl2
  refine C_go t_laws_toCoupleS rfl ?_
  unfold F_laws_toCoupleS
  simp only [Rows.lnm (f := cpR) ha, mkW_ok hl, go_sem, reduceIte, Nat.reduceEqDiff, Nat.reduceAdd, Nat.reduceMul, Nat.reduceLT, Nat.reduceLeDiff, reduceCtorEq, ne_eq, Int.reduceEq, Int.reduceLT, Int.reduceLE, Int.reduceNeg, Int.reduceToNat]
  rw [fill_start (rows := cps l)]
  refine w_for l.length (fun i t loc h' => h' = h ++ [⟨fillC [.int .i64 0, .int .i64 0] (cps l) l.length i, 2, y_Couple, true⟩] ∧ t 0 = a ∧ t 3 = .slice (some ⟨h.length, 0, none⟩) l.length l.length ∧ t 4 = .int .i64 i) ⟨rfl, rfl, rfl, rfl⟩ ?_
  rintro i t loc h' hi ⟨rfl, t0, t3, t4⟩
  have hu := ha.up (List.prefix_append h [⟨fillC [.int .i64 0, .int .i64 0] (cps l) l.length i, 2, y_Couple, true⟩])
  simp only [t0, t3, t4, Rows.lnm (f := cpR) hu, go_sem, reduceIte, Nat.reduceEqDiff, Nat.reduceAdd, Nat.reduceMul, Nat.reduceLT, Nat.reduceLeDiff, reduceCtorEq, ne_eq, Int.reduceEq, Int.reduceLT, Int.reduceLE, Int.reduceNeg, Int.reduceToNat]
  refine w_open (by simp only [go_sem, reduceIte, Nat.reduceEqDiff, Nat.reduceAdd, Nat.reduceMul, Nat.reduceLT, Nat.reduceLeDiff, reduceCtorEq, ne_eq, Int.reduceEq, Int.reduceLT, Int.reduceLE, Int.reduceNeg, Int.reduceToNat]; rfl) ?_ ?_ <;> intro hc
  · have hi1 : i < l.length := by omega
    have hrow : ∀ r ∈ (cps l), r.length = 2 := map_row cpR_len
    have hlen : (cps l).length = l.length := List.length_map ..
    have hi2 : i < (cps l).length := by omega
    have hst := fill_st (h := h) (ext := []) (z := [.int .i64 0, .int .i64 0]) (ty := y_Couple) hrow rfl hlen hi2
    have hgt : (cps l)[i] = cpR (l.getD i c0) := map_at (d := c0) hi1
    rw [hgt] at hst
    have hia := fill_ia (h := h) (ext := []) (z := [.int .i64 0, .int .i64 0]) (ty := y_Couple) hrow rfl hlen (i := i) (by omega) (k := .i64) (j := (i : Int)) (by omega) (by omega)
    rw [Int.toNat_natCast] at hia
    have hw : IntKind.i64.wrap ((i : Int) + 1) = ((i + 1 : Nat) : Int) := w64 (by omega) (by omega)
    have hel := hu.el (f := cpR) c0 hi1
    have hl2 : ofCells true (cpR (l.getD i c0)) = some (.agg ⟨cpR (l.getD i c0)⟩) := rfl
    have hl3 : cellsOf (.agg ⟨cpR (l.getD i c0)⟩) = some (cpR (l.getD i c0)) := rfl
    have hl4 := cpR_len (l.getD i c0)
    skip
    simp only [t0, t3, t4, hel.1, hel.2.2, k_toCouple, hia, hw, hl2, hl3, hl4, Option.bind_some, hst, go_sem, reduceIte, Nat.reduceEqDiff, Nat.reduceAdd, Nat.reduceMul, Nat.reduceLT, Nat.reduceLeDiff, reduceCtorEq, ne_eq, Int.reduceEq, Int.reduceLT, Int.reduceLE, Int.reduceNeg, Int.reduceToNat]
    exact hi1
  · have hil : i = l.length := by omega
    subst hil
    simp only [t3, go_sem, reduceIte, Nat.reduceEqDiff, Nat.reduceAdd, Nat.reduceMul, Nat.reduceLT, Nat.reduceLeDiff, reduceCtorEq, ne_eq, Int.reduceEq, Int.reduceLT, Int.reduceLE, Int.reduceNeg, Int.reduceToNat]
    rw [finish_deep rfl, fill_end (by simp [ints])]
theorem k_szCoupleS (ha : Rows h 2 a (cps l)) (hl : l.length ≤ maxLen) {n : Int} (h0 : 0 ≤ n) (h1 : n ≤ 1048576) : C T X n_laws_szCoupleS [a, .int .i64 n] h = some (.int .i64 (szL l.length n), h) := by
  unfold maxLen at hl
  refine C_go t_laws_szCoupleS rfl ?_
  unfold F_laws_szCoupleS szL
  have hw : IntKind.i64.wrap (n - (l.length : Int)) = n - l.length := w64 (by omega) (by omega)
  simp only [Rows.lnm (f := cpR) ha, hw, go_sem, reduceIte, Nat.reduceEqDiff, Nat.reduceAdd, Nat.reduceMul, Nat.reduceLT, Nat.reduceLeDiff, reduceCtorEq, ne_eq, Int.reduceEq, Int.reduceLT, Int.reduceLE, Int.reduceNeg, Int.reduceToNat]
  refine w_open (by simp only [go_sem, reduceIte, Nat.reduceEqDiff, Nat.reduceAdd, Nat.reduceMul, Nat.reduceLT, Nat.reduceLeDiff, reduceCtorEq, ne_eq, Int.reduceEq, Int.reduceLT, Int.reduceLE, Int.reduceNeg, Int.reduceToNat]; rfl) ?_ ?_ <;> intro hc
  · simp only [hc, go_sem, reduceIte, Nat.reduceEqDiff, Nat.reduceAdd, Nat.reduceMul, Nat.reduceLT, Nat.reduceLeDiff, reduceCtorEq, ne_eq, Int.reduceEq, Int.reduceLT, Int.reduceLE, Int.reduceNeg, Int.reduceToNat]
  · simp only [hc, go_sem, reduceIte, Nat.reduceEqDiff, Nat.reduceAdd, Nat.reduceMul, Nat.reduceLT, Nat.reduceLeDiff, reduceCtorEq, ne_eq, Int.reduceEq, Int.reduceLT, Int.reduceLE, Int.reduceNeg, Int.reduceToNat]
theorem k_eqCoupleS (ha : Rows h 2 a (cps l)) (hb : Rows h 2 b (cps l)) (hl : l.length ≤ lim) : C T X n_laws_eqCoupleS [a, b] h = some (.bool true, h) := by
  unfold lim at hl
  refine C_go t_laws_eqCoupleS rfl ?_
  unfold F_laws_eqCoupleS
  simp only [Rows.lnm (f := cpR) ha, Rows.lnm (f := cpR) hb, go_sem, reduceIte, Nat.reduceEqDiff, Nat.reduceAdd, Nat.reduceMul, Nat.reduceLT, Nat.reduceLeDiff, reduceCtorEq, ne_eq, Int.reduceEq, Int.reduceLT, Int.reduceLE, Int.reduceNeg, Int.reduceToNat]
  refine w_for l.length (fun i t loc h' => h' = h ∧ t 0 = a ∧ t 1 = b ∧ t 5 = .int .i64 i) ⟨rfl, rfl, rfl, rfl⟩ ?_
  rintro i t loc h' hi ⟨rfl, t0, t1, t5⟩
  simp only [t0, t5, Rows.lnm (f := cpR) ha, go_sem, reduceIte, Nat.reduceEqDiff, Nat.reduceAdd, Nat.reduceMul, Nat.reduceLT, Nat.reduceLeDiff, reduceCtorEq, ne_eq, Int.reduceEq, Int.reduceLT, Int.reduceLE, Int.reduceNeg, Int.reduceToNat]
  refine w_open (by simp only [go_sem, reduceIte, Nat.reduceEqDiff, Nat.reduceAdd, Nat.reduceMul, Nat.reduceLT, Nat.reduceLeDiff, reduceCtorEq, ne_eq, Int.reduceEq, Int.reduceLT, Int.reduceLE, Int.reduceNeg, Int.reduceToNat]; rfl) ?_ ?_ <;> intro hc
  · have hi1 : i < l.length := by omega
    have hw : IntKind.i64.wrap ((i : Int) + 1) = ((i + 1 : Nat) : Int) := w64 (by omega) (by omega)
    have hel := ha.el (f := cpR) c0 hi1
    have hel2 := hb.el (f := cpR) c0 hi1
    have hl2 : ofCells true (cpR (l.getD i c0)) = some (.agg ⟨cpR (l.getD i c0)⟩) := rfl
    skip
    simp only [t0, t1, t5, hel.1, hel.2.2, hel2.1, hel2.2.2, k_eqCouple, hw, hl2, Option.bind_some, BEq.rfl, List.prefix_refl, go_sem, reduceIte, Nat.reduceEqDiff, Nat.reduceAdd, Nat.reduceMul, Nat.reduceLT, Nat.reduceLeDiff, reduceCtorEq, ne_eq, Int.reduceEq, Int.reduceLT, Int.reduceLE, Int.reduceNeg, Int.reduceToNat]
    exact hi1
  · simp only [go_sem, reduceIte, Nat.reduceEqDiff, Nat.reduceAdd, Nat.reduceMul, Nat.reduceLT, Nat.reduceLeDiff, reduceCtorEq, ne_eq, Int.reduceEq, Int.reduceLT, Int.reduceLE, Int.reduceNeg, Int.reduceToNat]
def mkCouple (k : Nat) : List Value := [.int .i64 ((k + 0 : Nat) : Int), .int .i64 ((k + 1 : Nat) : Int)]
theorem mkCouple_len (k : Nat) : (mkCouple k).length = 2 := rfl
theorem k_markCoupleS {lo hi : Nat} (o : Own h lo hi 2 y_Couple a rws) (hl : rws.length ≤ lim) {k : Nat} (hk : k ≤ 2305843009213693952) : ∃ h', C T X n_laws_markCoupleS [a, .int .i64 (k : Int)] h = some (.int .i64 ((k + rws.length * 2 : Nat) : Int), h') ∧ Same lo hi h h' ∧ Own h' lo hi 2 y_Couple a (mkRows mkCouple k 2 rws.length) := by
  unfold lim at hl
  refine C_exH t_laws_markCoupleS rfl ?_
  unfold F_laws_markCoupleS
  simp only [go_sem, reduceIte, Nat.reduceEqDiff, Nat.reduceAdd, Nat.reduceMul, Nat.reduceLT, Nat.reduceLeDiff, reduceCtorEq, ne_eq, Int.reduceEq, Int.reduceLT, Int.reduceLE, Int.reduceNeg, Int.reduceToNat]
  refine w_for rws.length (fun i t loc h' => t 0 = a ∧ t 1 = .int .i64 ((k + i * 2 : Nat) : Int) ∧ t 5 = .int .i64 i ∧ Same lo hi h h' ∧ ∃ R, R.length = rws.length ∧ (∀ j, j < i → R[j]? = some (mkCouple (k + j * 2))) ∧ Own h' lo hi 2 y_Couple a R) ⟨rfl, by simp [upd], rfl, Same.refl, rws, rfl, fun j hj => by omega, o⟩ ?_
  rintro i t loc h0 hi ⟨t0, t1, t5, hs, R, hR, hj, o0⟩
  simp only [t0, t5, o0.ln, hR, go_sem, reduceIte, Nat.reduceEqDiff, Nat.reduceAdd, Nat.reduceMul, Nat.reduceLT, Nat.reduceLeDiff, reduceCtorEq, ne_eq, Int.reduceEq, Int.reduceLT, Int.reduceLE, Int.reduceNeg, Int.reduceToNat]
  refine w_open (by simp only [go_sem, reduceIte, Nat.reduceEqDiff, Nat.reduceAdd, Nat.reduceMul, Nat.reduceLT, Nat.reduceLeDiff, reduceCtorEq, ne_eq, Int.reduceEq, Int.reduceLT, Int.reduceLE, Int.reduceNeg, Int.reduceToNat]; rfl) ?_ ?_ <;> intro hc
  · have hi1 : i < rws.length := by omega
    have hi2 : i < R.length := by omega
    have hw : IntKind.i64.wrap ((i : Int) + 1) = ((i + 1 : Nat) : Int) := w64 (by omega) (by omega)
    have w0 : IntKind.i64.wrap (((k + i * 2 : Nat) : Int) + 1) = ((k + i * 2 + 1 : Nat) : Int) := w64 (by omega) (by omega)
    have w1 : IntKind.i64.wrap (((k + i * 2 + 1 : Nat) : Int) + 1) = ((k + i * 2 + 2 : Nat) : Int) := w64 (by omega) (by omega)
    have q0 := o0.self hi2
    obtain ⟨r, hr⟩ : ∃ r, R[i] = r := ⟨_, rfl⟩
    have hrl := o0.row_len hi2
    rw [hr] at q0 hrl
    obtain ⟨r0, r1, rfl⟩ : ∃ r0 r1, r = [r0, r1] := by
      match r, hrl with
      | [r0, r1], _ => exact ⟨r0, r1, rfl⟩
    have el0 := q0.el (i := i) (by simpa using hi2)
    obtain ⟨h1, e0, s0, q1⟩ := q0.st2 hi2 (k := 0) (vs := [.int .i64 ((k + i * 2 : Nat) : Int)]) (by simp)
    simp only [putAt, List.take_zero, List.take_succ_cons, List.drop_zero, List.drop_succ_cons, List.nil_append, List.cons_append, List.length_cons, List.length_nil, Nat.zero_add, List.append_nil, List.drop_nil, Nat.reduceAdd] at q1
    have el1 := q1.el (i := i) (by simpa using hi2)
    obtain ⟨h2, e1, s1, q2⟩ := q1.st2 hi2 (k := 1) (vs := [.int .i64 ((k + i * 2 + 1 : Nat) : Int)]) (by simp)
    simp only [putAt, List.take_zero, List.take_succ_cons, List.drop_zero, List.drop_succ_cons, List.nil_append, List.cons_append, List.length_cons, List.length_nil, Nat.zero_add, List.append_nil, List.drop_nil, Nat.reduceAdd] at q2
    (try simp only [Nat.add_zero, Nat.zero_add] at w0 e0 el0)
    simp only [t0, t1, t5, hw, el0.1, el0.2, e0, w0, el1.1, el1.2, e1, w1, Nat.add_zero, Nat.zero_add, go_sem, reduceIte, Nat.reduceEqDiff, Nat.reduceAdd, Nat.reduceMul, Nat.reduceLT, Nat.reduceLeDiff, reduceCtorEq, ne_eq, Int.reduceEq, Int.reduceLT, Int.reduceLE, Int.reduceNeg, Int.reduceToNat]
    have hs' := ((hs.trans s0).trans s1)
    refine ⟨hi1, by first | omega | (congr 2; omega), hs', _, by simpa using hR, fun j hj2 => ?_, q2⟩
    by_cases e : j = i
    · subst e; rw [List.getElem?_set_self hi2]; rfl
    · rw [List.getElem?_set_ne (by omega)]; exact hj j (by omega)
  · have hil : i = rws.length := by omega
    subst hil
    have hRe : R = mkRows mkCouple k 2 rws.length := rows_eq (by rw [hR, mkRows_len]) fun j hj2 => by rw [hj j (by omega), mkRows_get (by omega)]
    subst hRe
    simp only [t1, finish_room hs.len, go_sem, reduceIte, Nat.reduceEqDiff, Nat.reduceAdd, Nat.reduceMul, Nat.reduceLT, Nat.reduceLeDiff, reduceCtorEq, ne_eq, Int.reduceEq, Int.reduceLT, Int.reduceLE, Int.reduceNeg, Int.reduceToNat]
    exact ⟨hs, o0⟩
theorem k_heldCoupleS {n : Nat} (ha : Rows h 2 a (mkRows mkCouple k 2 n)) (hl : n ≤ lim) (hk : k ≤ 2305843009213693952) : C T X n_laws_heldCoupleS [a, .int .i64 (k : Int)] h = some (.int .i64 ((k + n * 2 : Nat) : Int), h) := by
  unfold lim at hl
  refine C_go t_laws_heldCoupleS rfl ?_
  unfold F_laws_heldCoupleS
  have hln : lnV h a = some (.int .i64 n) := by rw [ha.ln, mkRows_len]
  simp only [go_sem, reduceIte, Nat.reduceEqDiff, Nat.reduceAdd, Nat.reduceMul, Nat.reduceLT, Nat.reduceLeDiff, reduceCtorEq, ne_eq, Int.reduceEq, Int.reduceLT, Int.reduceLE, Int.reduceNeg, Int.reduceToNat]
  refine w_for n (fun i t loc h' => h' = h ∧ t 0 = a ∧ t 1 = .int .i64 ((k + i * 2 : Nat) : Int) ∧ t 5 = .int .i64 i) ⟨rfl, rfl, by simp [upd], rfl⟩ ?_
  rintro i t loc h' hi ⟨rfl, t0, t1, t5⟩
  simp only [t0, t5, hln, go_sem, reduceIte, Nat.reduceEqDiff, Nat.reduceAdd, Nat.reduceMul, Nat.reduceLT, Nat.reduceLeDiff, reduceCtorEq, ne_eq, Int.reduceEq, Int.reduceLT, Int.reduceLE, Int.reduceNeg, Int.reduceToNat]
  refine w_open (by simp only [go_sem, reduceIte, Nat.reduceEqDiff, Nat.reduceAdd, Nat.reduceMul, Nat.reduceLT, Nat.reduceLeDiff, reduceCtorEq, ne_eq, Int.reduceEq, Int.reduceLT, Int.reduceLE, Int.reduceNeg, Int.reduceToNat]; rfl) ?_ ?_ <;> intro hc
  · have hi1 : i < n := by omega
    have hw : IntKind.i64.wrap ((i : Int) + 1) = ((i + 1 : Nat) : Int) := w64 (by omega) (by omega)
    have hi3 : i < (List.range n).length := by simpa using hi1
    have w0 : IntKind.i64.wrap (((k + i * 2 : Nat) : Int) + 1) = ((k + i * 2 + 1 : Nat) : Int) := w64 (by omega) (by omega)
    have w1 : IntKind.i64.wrap (((k + i * 2 + 1 : Nat) : Int) + 1) = ((k + i * 2 + 2 : Nat) : Int) := w64 (by omega) (by omega)
    have hel := ha.el (f := fun i => mkCouple (k + i * 2)) 0 hi3
    have c0 := ha.cell (f := fun i => mkCouple (k + i * 2)) 0 hi3 (o := 0) (by omega)
    rw [range_getD hi1] at c0
    simp only [mkCouple, List.getD_cons_zero, List.getD_cons_succ] at c0
    have c1 := ha.cell (f := fun i => mkCouple (k + i * 2)) 0 hi3 (o := 1) (by omega)
    rw [range_getD hi1] at c1
    simp only [mkCouple, List.getD_cons_zero, List.getD_cons_succ] at c1
    simp only [Nat.add_zero, Nat.zero_add] at w0 c0
    simp only [t0, t1, t5, hw, hel.1, hel.2.1, c0, w0, c1, w1, Nat.add_zero, Nat.zero_add, BEq.rfl, List.prefix_refl, go_sem, reduceIte, Nat.reduceEqDiff, Nat.reduceAdd, Nat.reduceMul, Nat.reduceLT, Nat.reduceLeDiff, reduceCtorEq, ne_eq, Int.reduceEq, Int.reduceLT, Int.reduceLE, Int.reduceNeg, Int.reduceToNat]
    exact ⟨hi1, by first | omega | (congr 2; omega)⟩
  · have hil : i = n := by omega
    subst hil
    simp only [t1, go_sem, reduceIte, Nat.reduceEqDiff, Nat.reduceAdd, Nat.reduceMul, Nat.reduceLT, Nat.reduceLeDiff, reduceCtorEq, ne_eq, Int.reduceEq, Int.reduceLT, Int.reduceLE, Int.reduceNeg, Int.reduceToNat]
end
section
variable {X : CallF} {h : Heap} {a b : Value} {l : List Pr} {rws : List (List Value)} {k : Nat}
end
section
variable {X : CallF} {h : Heap} {a b : Value} {l : List Aq} {rws : List (List Value)} {k : Nat}
end
section
variable {X : CallF} {h : Heap} {a b : Value} {l : List Int} {rws : List (List Value)} {k : Nat}
theorem k_toIntS (ha : Rows h 1 a (ints l)) (hl : l.length ≤ lim) : C T X n_laws_toIntS [a] h = some (.slice (some ⟨h.length, 0, none⟩) l.length l.length, h ++ [⟨(ints l).flatten, 1, y_int, true⟩]) := by
  have hl2 := hl
  unfold lim at hl2
  refine C_go t_laws_toIntS rfl ?_
  unfold F_laws_toIntS
  simp only [Rows.lnm (f := intR) ha, mkW_ok hl, go_sem, reduceIte, Nat.reduceEqDiff, Nat.reduceAdd, Nat.reduceMul, Nat.reduceLT, Nat.reduceLeDiff, reduceCtorEq, ne_eq, Int.reduceEq, Int.reduceLT, Int.reduceLE, Int.reduceNeg, Int.reduceToNat]
  rw [fill_start (rows := ints l)]
  refine w_for l.length (fun i t loc h' => h' = h ++ [⟨fillC [.int .i64 0] (ints l) l.length i, 1, y_int, true⟩] ∧ t 0 = a ∧ t 3 = .slice (some ⟨h.length, 0, none⟩) l.length l.length ∧ t 4 = .int .i64 i) ⟨rfl, rfl, rfl, rfl⟩ ?_
  rintro i t loc h' hi ⟨rfl, t0, t3, t4⟩
  have hu := ha.up (List.prefix_append h [⟨fillC [.int .i64 0] (ints l) l.length i, 1, y_int, true⟩])
  simp only [t0, t3, t4, Rows.lnm (f := intR) hu, go_sem, reduceIte, Nat.reduceEqDiff, Nat.reduceAdd, Nat.reduceMul, Nat.reduceLT, Nat.reduceLeDiff, reduceCtorEq, ne_eq, Int.reduceEq, Int.reduceLT, Int.reduceLE, Int.reduceNeg, Int.reduceToNat]
  refine w_open (by simp only [go_sem, reduceIte, Nat.reduceEqDiff, Nat.reduceAdd, Nat.reduceMul, Nat.reduceLT, Nat.reduceLeDiff, reduceCtorEq, ne_eq, Int.reduceEq, Int.reduceLT, Int.reduceLE, Int.reduceNeg, Int.reduceToNat]; rfl) ?_ ?_ <;> intro hc
  · have hi1 : i < l.length := by omega
    have hrow : ∀ r ∈ (ints l), r.length = 1 := map_row intR_len
    have hlen : (ints l).length = l.length := List.length_map ..
    have hi2 : i < (ints l).length := by omega
    have hst := fill_st (h := h) (ext := []) (z := [.int .i64 0]) (ty := y_int) hrow rfl hlen hi2
    have hgt : (ints l)[i] = intR (l.getD i 0) := map_at (d := 0) hi1
    rw [hgt] at hst
    have hia := fill_ia (h := h) (ext := []) (z := [.int .i64 0]) (ty := y_int) hrow rfl hlen (i := i) (by omega) (k := .i64) (j := (i : Int)) (by omega) (by omega)
    rw [Int.toNat_natCast] at hia
    have hw : IntKind.i64.wrap ((i : Int) + 1) = ((i + 1 : Nat) : Int) := w64 (by omega) (by omega)
    have hel := hu.el (f := intR) 0 hi1
    have hl2 : ofCells false (intR (l.getD i 0)) = some (.int .i64 (l.getD i 0)) := rfl
    have hl3 : True := trivial
    have hl4 := intR_len (l.getD i 0)
    simp only [intR] at hel hst
    simp only [t0, t3, t4, hel.1, hel.2.2, hia, hw, hl2, hl3, hl4, Option.bind_some, hst, go_sem, reduceIte, Nat.reduceEqDiff, Nat.reduceAdd, Nat.reduceMul, Nat.reduceLT, Nat.reduceLeDiff, reduceCtorEq, ne_eq, Int.reduceEq, Int.reduceLT, Int.reduceLE, Int.reduceNeg, Int.reduceToNat]
    exact hi1
  · have hil : i = l.length := by omega
    subst hil
    simp only [t3, go_sem, reduceIte, Nat.reduceEqDiff, Nat.reduceAdd, Nat.reduceMul, Nat.reduceLT, Nat.reduceLeDiff, reduceCtorEq, ne_eq, Int.reduceEq, Int.reduceLT, Int.reduceLE, Int.reduceNeg, Int.reduceToNat]
    rw [finish_deep rfl, fill_end (by simp [ints])]
theorem k_szIntS (ha : Rows h 1 a (ints l)) (hl : l.length ≤ maxLen) {n : Int} (h0 : 0 ≤ n) (h1 : n ≤ 1048576) : C T X n_laws_szIntS [a, .int .i64 n] h = some (.int .i64 (szL l.length n), h) := by
  unfold maxLen at hl
  refine C_go t_laws_szIntS rfl ?_
  unfold F_laws_szIntS szL
  have hw : IntKind.i64.wrap (n - (l.length : Int)) = n - l.length := w64 (by omega) (by omega)
  simp only [Rows.lnm (f := intR) ha, hw, go_sem, reduceIte, Nat.reduceEqDiff, Nat.reduceAdd, Nat.reduceMul, Nat.reduceLT, Nat.reduceLeDiff, reduceCtorEq, ne_eq, Int.reduceEq, Int.reduceLT, Int.reduceLE, Int.reduceNeg, Int.reduceToNat]
  refine w_open (by simp only [go_sem, reduceIte, Nat.reduceEqDiff, Nat.reduceAdd, Nat.reduceMul, Nat.reduceLT, Nat.reduceLeDiff, reduceCtorEq, ne_eq, Int.reduceEq, Int.reduceLT, Int.reduceLE, Int.reduceNeg, Int.reduceToNat]; rfl) ?_ ?_ <;> intro hc
  · simp only [hc, go_sem, reduceIte, Nat.reduceEqDiff, Nat.reduceAdd, Nat.reduceMul, Nat.reduceLT, Nat.reduceLeDiff, reduceCtorEq, ne_eq, Int.reduceEq, Int.reduceLT, Int.reduceLE, Int.reduceNeg, Int.reduceToNat]
  · simp only [hc, go_sem, reduceIte, Nat.reduceEqDiff, Nat.reduceAdd, Nat.reduceMul, Nat.reduceLT, Nat.reduceLeDiff, reduceCtorEq, ne_eq, Int.reduceEq, Int.reduceLT, Int.reduceLE, Int.reduceNeg, Int.reduceToNat]
theorem k_eqIntS (ha : Rows h 1 a (ints l)) (hb : Rows h 1 b (ints l)) (hl : l.length ≤ lim) : C T X n_laws_eqIntS [a, b] h = some (.bool true, h) := by
  unfold lim at hl
  refine C_go t_laws_eqIntS rfl ?_
  unfold F_laws_eqIntS
  simp only [Rows.lnm (f := intR) ha, Rows.lnm (f := intR) hb, go_sem, reduceIte, Nat.reduceEqDiff, Nat.reduceAdd, Nat.reduceMul, Nat.reduceLT, Nat.reduceLeDiff, reduceCtorEq, ne_eq, Int.reduceEq, Int.reduceLT, Int.reduceLE, Int.reduceNeg, Int.reduceToNat]
  refine w_for l.length (fun i t loc h' => h' = h ∧ t 0 = a ∧ t 1 = b ∧ t 5 = .int .i64 i) ⟨rfl, rfl, rfl, rfl⟩ ?_
  rintro i t loc h' hi ⟨rfl, t0, t1, t5⟩
  simp only [t0, t5, Rows.lnm (f := intR) ha, go_sem, reduceIte, Nat.reduceEqDiff, Nat.reduceAdd, Nat.reduceMul, Nat.reduceLT, Nat.reduceLeDiff, reduceCtorEq, ne_eq, Int.reduceEq, Int.reduceLT, Int.reduceLE, Int.reduceNeg, Int.reduceToNat]
  refine w_open (by simp only [go_sem, reduceIte, Nat.reduceEqDiff, Nat.reduceAdd, Nat.reduceMul, Nat.reduceLT, Nat.reduceLeDiff, reduceCtorEq, ne_eq, Int.reduceEq, Int.reduceLT, Int.reduceLE, Int.reduceNeg, Int.reduceToNat]; rfl) ?_ ?_ <;> intro hc
  · have hi1 : i < l.length := by omega
    have hw : IntKind.i64.wrap ((i : Int) + 1) = ((i + 1 : Nat) : Int) := w64 (by omega) (by omega)
    have hel := ha.el (f := intR) 0 hi1
    have hel2 := hb.el (f := intR) 0 hi1
    have hl2 : ofCells false (intR (l.getD i 0)) = some (.int .i64 (l.getD i 0)) := rfl
    simp only [intR] at hel hel2
    simp only [t0, t1, t5, hel.1, hel.2.2, hel2.1, hel2.2.2, hw, hl2, Option.bind_some, BEq.rfl, List.prefix_refl, go_sem, reduceIte, Nat.reduceEqDiff, Nat.reduceAdd, Nat.reduceMul, Nat.reduceLT, Nat.reduceLeDiff, reduceCtorEq, ne_eq, Int.reduceEq, Int.reduceLT, Int.reduceLE, Int.reduceNeg, Int.reduceToNat]
    exact hi1
  · simp only [go_sem, reduceIte, Nat.reduceEqDiff, Nat.reduceAdd, Nat.reduceMul, Nat.reduceLT, Nat.reduceLeDiff, reduceCtorEq, ne_eq, Int.reduceEq, Int.reduceLT, Int.reduceLE, Int.reduceNeg, Int.reduceToNat]
def mkInt (k : Nat) : List Value := [.int .i64 ((k + 0 : Nat) : Int)]
theorem mkInt_len (k : Nat) : (mkInt k).length = 1 := rfl
theorem k_markIntS {lo hi : Nat} (o : Own h lo hi 1 y_int a rws) (hl : rws.length ≤ lim) {k : Nat} (hk : k ≤ 2305843009213693952) : ∃ h', C T X n_laws_markIntS [a, .int .i64 (k : Int)] h = some (.int .i64 ((k + rws.length * 1 : Nat) : Int), h') ∧ Same lo hi h h' ∧ Own h' lo hi 1 y_int a (mkRows mkInt k 1 rws.length) := by
  unfold lim at hl
  refine C_exH t_laws_markIntS rfl ?_
  unfold F_laws_markIntS
  simp only [go_sem, reduceIte, Nat.reduceEqDiff, Nat.reduceAdd, Nat.reduceMul, Nat.reduceLT, Nat.reduceLeDiff, reduceCtorEq, ne_eq, Int.reduceEq, Int.reduceLT, Int.reduceLE, Int.reduceNeg, Int.reduceToNat]
  refine w_for rws.length (fun i t loc h' => t 0 = a ∧ t 1 = .int .i64 ((k + i * 1 : Nat) : Int) ∧ t 5 = .int .i64 i ∧ Same lo hi h h' ∧ ∃ R, R.length = rws.length ∧ (∀ j, j < i → R[j]? = some (mkInt (k + j * 1))) ∧ Own h' lo hi 1 y_int a R) ⟨rfl, by simp [upd], rfl, Same.refl, rws, rfl, fun j hj => by omega, o⟩ ?_
  rintro i t loc h0 hi ⟨t0, t1, t5, hs, R, hR, hj, o0⟩
  simp only [t0, t5, o0.ln, hR, go_sem, reduceIte, Nat.reduceEqDiff, Nat.reduceAdd, Nat.reduceMul, Nat.reduceLT, Nat.reduceLeDiff, reduceCtorEq, ne_eq, Int.reduceEq, Int.reduceLT, Int.reduceLE, Int.reduceNeg, Int.reduceToNat]
  refine w_open (by simp only [go_sem, reduceIte, Nat.reduceEqDiff, Nat.reduceAdd, Nat.reduceMul, Nat.reduceLT, Nat.reduceLeDiff, reduceCtorEq, ne_eq, Int.reduceEq, Int.reduceLT, Int.reduceLE, Int.reduceNeg, Int.reduceToNat]; rfl) ?_ ?_ <;> intro hc
  · have hi1 : i < rws.length := by omega
    have hi2 : i < R.length := by omega
    have hw : IntKind.i64.wrap ((i : Int) + 1) = ((i + 1 : Nat) : Int) := w64 (by omega) (by omega)
    have w0 : IntKind.i64.wrap (((k + i * 1 : Nat) : Int) + 1) = ((k + i * 1 + 1 : Nat) : Int) := w64 (by omega) (by omega)
    have q0 := o0.self hi2
    obtain ⟨r, hr⟩ : ∃ r, R[i] = r := ⟨_, rfl⟩
    have hrl := o0.row_len hi2
    rw [hr] at q0 hrl
    obtain ⟨r0, rfl⟩ : ∃ r0, r = [r0] := by
      match r, hrl with
      | [r0], _ => exact ⟨r0, rfl⟩
    have el0 := q0.el (i := i) (by simpa using hi2)
    obtain ⟨h1, e0, s0, q1⟩ := q0.st2 hi2 (k := 0) (vs := [.int .i64 ((k + i * 1 : Nat) : Int)]) (by simp)
    simp only [putAt, List.take_zero, List.take_succ_cons, List.drop_zero, List.drop_succ_cons, List.nil_append, List.cons_append, List.length_cons, List.length_nil, Nat.zero_add, List.append_nil, List.drop_nil, Nat.reduceAdd] at q1
    (try simp only [Nat.add_zero, Nat.zero_add] at w0 e0 el0)
    simp only [t0, t1, t5, hw, el0.1, el0.2, e0, w0, Nat.add_zero, Nat.zero_add, go_sem, reduceIte, Nat.reduceEqDiff, Nat.reduceAdd, Nat.reduceMul, Nat.reduceLT, Nat.reduceLeDiff, reduceCtorEq, ne_eq, Int.reduceEq, Int.reduceLT, Int.reduceLE, Int.reduceNeg, Int.reduceToNat]
    have hs' := (hs.trans s0)
    refine ⟨hi1, by first | omega | (congr 2; omega), hs', _, by simpa using hR, fun j hj2 => ?_, q1⟩
    by_cases e : j = i
    · subst e; rw [List.getElem?_set_self hi2]; rfl
    · rw [List.getElem?_set_ne (by omega)]; exact hj j (by omega)
  · have hil : i = rws.length := by omega
    subst hil
    have hRe : R = mkRows mkInt k 1 rws.length := rows_eq (by rw [hR, mkRows_len]) fun j hj2 => by rw [hj j (by omega), mkRows_get (by omega)]
    subst hRe
    simp only [t1, finish_room hs.len, go_sem, reduceIte, Nat.reduceEqDiff, Nat.reduceAdd, Nat.reduceMul, Nat.reduceLT, Nat.reduceLeDiff, reduceCtorEq, ne_eq, Int.reduceEq, Int.reduceLT, Int.reduceLE, Int.reduceNeg, Int.reduceToNat]
    exact ⟨hs, o0⟩
theorem k_heldIntS {n : Nat} (ha : Rows h 1 a (mkRows mkInt k 1 n)) (hl : n ≤ lim) (hk : k ≤ 2305843009213693952) : C T X n_laws_heldIntS [a, .int .i64 (k : Int)] h = some (.int .i64 ((k + n * 1 : Nat) : Int), h) := by
  unfold lim at hl
  refine C_go t_laws_heldIntS rfl ?_
  unfold F_laws_heldIntS
  have hln : lnV h a = some (.int .i64 n) := by rw [ha.ln, mkRows_len]
  simp only [go_sem, reduceIte, Nat.reduceEqDiff, Nat.reduceAdd, Nat.reduceMul, Nat.reduceLT, Nat.reduceLeDiff, reduceCtorEq, ne_eq, Int.reduceEq, Int.reduceLT, Int.reduceLE, Int.reduceNeg, Int.reduceToNat]
  refine w_for n (fun i t loc h' => h' = h ∧ t 0 = a ∧ t 1 = .int .i64 ((k + i * 1 : Nat) : Int) ∧ t 5 = .int .i64 i) ⟨rfl, rfl, by simp [upd], rfl⟩ ?_
  rintro i t loc h' hi ⟨rfl, t0, t1, t5⟩
  simp only [t0, t5, hln, go_sem, reduceIte, Nat.reduceEqDiff, Nat.reduceAdd, Nat.reduceMul, Nat.reduceLT, Nat.reduceLeDiff, reduceCtorEq, ne_eq, Int.reduceEq, Int.reduceLT, Int.reduceLE, Int.reduceNeg, Int.reduceToNat]
  refine w_open (by simp only [go_sem, reduceIte, Nat.reduceEqDiff, Nat.reduceAdd, Nat.reduceMul, Nat.reduceLT, Nat.reduceLeDiff, reduceCtorEq, ne_eq, Int.reduceEq, Int.reduceLT, Int.reduceLE, Int.reduceNeg, Int.reduceToNat]; rfl) ?_ ?_ <;> intro hc
  · have hi1 : i < n := by omega
    have hw : IntKind.i64.wrap ((i : Int) + 1) = ((i + 1 : Nat) : Int) := w64 (by omega) (by omega)
    have hi3 : i < (List.range n).length := by simpa using hi1
    have w0 : IntKind.i64.wrap (((k + i * 1 : Nat) : Int) + 1) = ((k + i * 1 + 1 : Nat) : Int) := w64 (by omega) (by omega)
    have hel := ha.el (f := fun i => mkInt (k + i * 1)) 0 hi3
    have c0 := ha.cell (f := fun i => mkInt (k + i * 1)) 0 hi3 (o := 0) (by omega)
    rw [range_getD hi1] at c0
    simp only [mkInt, List.getD_cons_zero, List.getD_cons_succ] at c0
    simp only [Nat.add_zero, Nat.zero_add] at w0 c0
    simp only [t0, t1, t5, hw, hel.1, hel.2.1, c0, w0, Nat.add_zero, Nat.zero_add, BEq.rfl, List.prefix_refl, go_sem, reduceIte, Nat.reduceEqDiff, Nat.reduceAdd, Nat.reduceMul, Nat.reduceLT, Nat.reduceLeDiff, reduceCtorEq, ne_eq, Int.reduceEq, Int.reduceLT, Int.reduceLE, Int.reduceNeg, Int.reduceToNat]
    exact ⟨hi1, by first | omega | (congr 2; omega)⟩
  · have hil : i = n := by omega
    subst hil
    simp only [t1, go_sem, reduceIte, Nat.reduceEqDiff, Nat.reduceAdd, Nat.reduceMul, Nat.reduceLT, Nat.reduceLeDiff, reduceCtorEq, ne_eq, Int.reduceEq, Int.reduceLT, Int.reduceLE, Int.reduceNeg, Int.reduceToNat]
end
section
variable {X : CallF} {h : Heap} {a b : Value} {l : List ByteArray} {rws : List (List Value)} {k : Nat}
end
end Go.Proofs.Ytioogligololoaa.Ab
