/- Joined: H0, K0, K3, H1, H5, H10, K50, K51. No conditions. -/
import Derived.Test.YtjgacjidaeahdaaGreatDoorFT
import Derived.Test.YtjgacjidaeahdaaGreatDoorM4
import Derived.Test.YtjgacjidaeahdaaGreatDoorM12
set_option linter.unusedSimpArgs false
set_option linter.unusedVariables false
set_option linter.unnecessarySimpa false
set_option maxHeartbeats 4000000
namespace Go.Proofs.YtjgacjidaeahdaaGreatDoor.Ab
open Go.RowKit
section
variable {X : CallF} {h : Heap}
theorem k_markText {k : Nat} (hk : k ≤ 4611686018427387904) : C T X n_laws_markText [.int .i64 (k : Int)] h = some (.string (mkT k), h) := by
  refine C_go t_laws_markText rfl ?_
  unfold F_laws_markText
  simp only [go_sem]
  refine w_open (by simp only [go_sem]; rfl) ?_ ?_ <;> intro hc
  · have : k = 0 := by omega
    subst this
    simp only [go_sem]
    rfl
  simp only [go_sem]
  refine w_meas k (fun m t loc h' => h' = h ∧ ∃ s : ByteArray, t 0 = .int .i64 (m : Nat) ∧ t 3 = .string s ∧ m ≤ k ∧ mkD m s = mkD k noT ∧ (∃ c, m < 10 ^ c ∧ s.size + c ≤ 19)) ⟨rfl, noT, rfl, rfl, Nat.le_refl _, rfl, 19, by omega, by decide⟩ ?_
  rintro m t loc h' ⟨rfl, s, t0, t3, hm, hd, c, hc1, hc2⟩
  simp only [t0, t3, go_sem]
  refine w_open (by simp only [t0, t3, go_sem]; rfl) ?_ ?_ <;> intro hc'
  · have e : IntKind.u8.wrap (IntKind.i64.wrap (48 + ((m % 10 : Nat) : Int))) = ((48 + m % 10 : Nat) : Int) := by rw [w64 (by omega) (by omega), wu8 (by omega) (by omega)]; omega
    have hq : IntKind.i64.wrap ((m / 10 : Nat) : Int) = ((m / 10 : Nat) : Int) := w64 (by omega) (by omega)
    have hr : ((m : Int).tmod 10) = ((m % 10 : Nat) : Int) := rfl
    have hv : ((m : Int).tdiv 10) = ((m / 10 : Nat) : Int) := rfl
    have hcp : 0 < c := by
      cases c with
      | zero => simp at hc1; omega
      | succ c => omega
    have hsz : (strOfNums [((48 + m % 10 : Nat) : Int)]).size + s.size ≤ 9223372036854775807 := by rw [strOfNums_size]; simp only [List.length_cons, List.length_nil]; omega
    simp only [t0, t3, hr, hv, e, hq, strLV, ints8, isInt8, Option.map_some, hsz, go_sem]
    refine ⟨m / 10, by omega, _, rfl, rfl, by omega, ?_, c - 1, ?_, ?_⟩
    · rw [← hd, mkD_pos (n := m) (by omega)]
    · have : 10 ^ c = 10 ^ (c - 1) * 10 := by rw [← Nat.pow_succ]; congr 1; omega
      omega
    · rw [ByteArray.size_append, strOfNums_size]; simp only [List.length_cons, List.length_nil]; omega
  · have : m = 0 := by omega
    subst this
    have hs : s = mkD k noT := by rw [← hd, mkD_zero]
    have hsz : mByte.size + s.size ≤ 9223372036854775807 := by
      have : mByte.size = 1 := rfl
      omega
    simp only [t3, show (⟨⟨[109]⟩⟩ : ByteArray) = mByte from rfl, hsz, go_sem]
    unfold mkT
    rw [if_neg (by omega), hs]
end
section
variable {X : CallF} {h : Heap} {a b : Value} {l : List E} {rws : List (List Value)} {k : Nat}
theorem k_eqEdge {l : E} : C T X n_laws_eqEdge [.agg ⟨edgeR l⟩, .agg ⟨edgeR l⟩] h = some (.bool true, h) := by
  refine C_go t_laws_eqEdge rfl ?_
  unfold F_laws_eqEdge edgeR
  simp only [BEq.rfl, go_sem]
  try rfl
theorem k_eqEdgeS (ha : Rows h 5 a (edges l)) (hb : Rows h 5 b (edges l)) (hl : l.length ≤ lim) : C T X n_laws_eqEdgeS [a, b] h = some (.bool true, h) := by
  unfold lim at hl
  refine C_go t_laws_eqEdgeS rfl ?_
  unfold F_laws_eqEdgeS
  simp only [Rows.lnm (f := edgeR) ha, Rows.lnm (f := edgeR) hb, go_sem]
  refine w_for l.length (fun i t loc h' => h' = h ∧ t 0 = a ∧ t 1 = b ∧ t 5 = .int .i64 i) ⟨rfl, rfl, rfl, rfl⟩ ?_
  rintro i t loc h' hi ⟨rfl, t0, t1, t5⟩
  simp only [t0, t5, Rows.lnm (f := edgeR) ha, go_sem]
  refine w_open (by simp only [go_sem]; rfl) ?_ ?_ <;> intro hc
  · have hi1 : i < l.length := by omega
    have hw : IntKind.i64.wrap ((i : Int) + 1) = ((i + 1 : Nat) : Int) := w64 (by omega) (by omega)
    have hel := ha.el (f := edgeR) e0 hi1
    have hel2 := hb.el (f := edgeR) e0 hi1
    have hl2 : ofCells true (edgeR (l.getD i e0)) = some (.agg ⟨edgeR (l.getD i e0)⟩) := rfl
    skip
    simp only [t0, t1, t5, hel.1, hel.2.2, hel2.1, hel2.2.2, k_eqEdge, hw, hl2, Option.bind_some, BEq.rfl, List.prefix_refl, go_sem]
    exact hi1
  · simp only [go_sem]
def mkEdge (k : Nat) : List Value := [.int .i64 ((k + 0 : Nat) : Int), .int .i64 ((k + 1 : Nat) : Int), .int .i64 ((k + 2 : Nat) : Int), .int .i64 ((k + 3 : Nat) : Int), .int .i64 ((k + 4 : Nat) : Int)]
theorem k_markEdgeS {lo hi : Nat} (o : Own h lo hi 5 y_Edge a rws) (hl : rws.length ≤ lim) {k : Nat} (hk : k ≤ 2305843009213693952) : ∃ h', C T X n_laws_markEdgeS [a, .int .i64 (k : Int)] h = some (.int .i64 ((k + rws.length * 5 : Nat) : Int), h') ∧ Same lo hi h h' ∧ Own h' lo hi 5 y_Edge a (mkRows mkEdge k 5 rws.length) := by
  unfold lim at hl
  refine C_exH t_laws_markEdgeS rfl ?_
  unfold F_laws_markEdgeS
  simp only [go_sem]
  refine w_for rws.length (fun i t loc h' => t 0 = a ∧ t 1 = .int .i64 ((k + i * 5 : Nat) : Int) ∧ t 5 = .int .i64 i ∧ Same lo hi h h' ∧ ∃ R, R.length = rws.length ∧ (∀ j, j < i → R[j]? = some (mkEdge (k + j * 5))) ∧ Own h' lo hi 5 y_Edge a R) ⟨rfl, by simp [upd], rfl, Same.refl, rws, rfl, fun j hj => by omega, o⟩ ?_
  rintro i t loc h0 hi ⟨t0, t1, t5, hs, R, hR, hj, o0⟩
  simp only [t0, t5, o0.ln, hR, go_sem]
  refine w_open (by simp only [go_sem]; rfl) ?_ ?_ <;> intro hc
  · have hi1 : i < rws.length := by omega
    have hi2 : i < R.length := by omega
    have hw : IntKind.i64.wrap ((i : Int) + 1) = ((i + 1 : Nat) : Int) := w64 (by omega) (by omega)
    have w0 : IntKind.i64.wrap (((k + i * 5 : Nat) : Int) + 1) = ((k + i * 5 + 1 : Nat) : Int) := w64 (by omega) (by omega)
    have w1 : IntKind.i64.wrap (((k + i * 5 + 1 : Nat) : Int) + 1) = ((k + i * 5 + 2 : Nat) : Int) := w64 (by omega) (by omega)
    have w2 : IntKind.i64.wrap (((k + i * 5 + 2 : Nat) : Int) + 1) = ((k + i * 5 + 3 : Nat) : Int) := w64 (by omega) (by omega)
    have w3 : IntKind.i64.wrap (((k + i * 5 + 3 : Nat) : Int) + 1) = ((k + i * 5 + 4 : Nat) : Int) := w64 (by omega) (by omega)
    have w4 : IntKind.i64.wrap (((k + i * 5 + 4 : Nat) : Int) + 1) = ((k + i * 5 + 5 : Nat) : Int) := w64 (by omega) (by omega)
    have q0 := o0.self hi2
    obtain ⟨r, hr⟩ : ∃ r, R[i] = r := ⟨_, rfl⟩
    have hrl := o0.row_len hi2
    rw [hr] at q0 hrl
    obtain ⟨r0, r1, r2, r3, r4, rfl⟩ : ∃ r0 r1 r2 r3 r4, r = [r0, r1, r2, r3, r4] := by
      match r, hrl with
      | [r0, r1, r2, r3, r4], _ => exact ⟨r0, r1, r2, r3, r4, rfl⟩
    have el0 := q0.el (i := i) (by simpa using hi2)
    obtain ⟨h1, e0, s0, q1⟩ := q0.st2 hi2 (k := 0) (vs := [.int .i64 ((k + i * 5 : Nat) : Int)]) (by simp)
    simp only [putAt, List.take_zero, List.take_succ_cons, List.drop_zero, List.drop_succ_cons, List.nil_append, List.cons_append, List.length_cons, List.length_nil, Nat.zero_add, List.append_nil, List.drop_nil, Nat.reduceAdd] at q1
    have el1 := q1.el (i := i) (by simpa using hi2)
    obtain ⟨h2, e1, s1, q2⟩ := q1.st2 hi2 (k := 1) (vs := [.int .i64 ((k + i * 5 + 1 : Nat) : Int)]) (by simp)
    simp only [putAt, List.take_zero, List.take_succ_cons, List.drop_zero, List.drop_succ_cons, List.nil_append, List.cons_append, List.length_cons, List.length_nil, Nat.zero_add, List.append_nil, List.drop_nil, Nat.reduceAdd] at q2
    have el2 := q2.el (i := i) (by simpa using hi2)
    obtain ⟨h3, e2, s2, q3⟩ := q2.st2 hi2 (k := 2) (vs := [.int .i64 ((k + i * 5 + 2 : Nat) : Int)]) (by simp)
    simp only [putAt, List.take_zero, List.take_succ_cons, List.drop_zero, List.drop_succ_cons, List.nil_append, List.cons_append, List.length_cons, List.length_nil, Nat.zero_add, List.append_nil, List.drop_nil, Nat.reduceAdd] at q3
    have el3 := q3.el (i := i) (by simpa using hi2)
    obtain ⟨h4, e3, s3, q4⟩ := q3.st2 hi2 (k := 3) (vs := [.int .i64 ((k + i * 5 + 3 : Nat) : Int)]) (by simp)
    simp only [putAt, List.take_zero, List.take_succ_cons, List.drop_zero, List.drop_succ_cons, List.nil_append, List.cons_append, List.length_cons, List.length_nil, Nat.zero_add, List.append_nil, List.drop_nil, Nat.reduceAdd] at q4
    have el4 := q4.el (i := i) (by simpa using hi2)
    obtain ⟨h5, e4, s4, q5⟩ := q4.st2 hi2 (k := 4) (vs := [.int .i64 ((k + i * 5 + 4 : Nat) : Int)]) (by simp)
    simp only [putAt, List.take_zero, List.take_succ_cons, List.drop_zero, List.drop_succ_cons, List.nil_append, List.cons_append, List.length_cons, List.length_nil, Nat.zero_add, List.append_nil, List.drop_nil, Nat.reduceAdd] at q5
    (try simp only [Nat.add_zero, Nat.zero_add] at w0 e0 el0)
    simp only [t0, t1, t5, hw, el0.1, el0.2, e0, w0, el1.1, el1.2, e1, w1, el2.1, el2.2, e2, w2, el3.1, el3.2, e3, w3, el4.1, el4.2, e4, w4, Nat.add_zero, Nat.zero_add, go_sem]
    have hs' := (((((hs.trans s0).trans s1).trans s2).trans s3).trans s4)
    refine ⟨hi1, by first | omega | (congr 2; omega), hs', _, by simpa using hR, fun j hj2 => ?_, q5⟩
    by_cases e : j = i
    · subst e; rw [List.getElem?_set_self hi2]; rfl
    · rw [List.getElem?_set_ne (by omega)]; exact hj j (by omega)
  · have hil : i = rws.length := by omega
    subst hil
    have hRe : R = mkRows mkEdge k 5 rws.length := rows_eq (by rw [hR, mkRows_len]) fun j hj2 => by rw [hj j (by omega), mkRows_get (by omega)]
    subst hRe
    simp only [t1, finish_room hs.len, go_sem]
    exact ⟨hs, o0⟩
theorem k_heldEdgeS {n : Nat} (ha : Rows h 5 a (mkRows mkEdge k 5 n)) (hl : n ≤ lim) (hk : k ≤ 2305843009213693952) : C T X n_laws_heldEdgeS [a, .int .i64 (k : Int)] h = some (.int .i64 ((k + n * 5 : Nat) : Int), h) := by
  unfold lim at hl
  refine C_go t_laws_heldEdgeS rfl ?_
  unfold F_laws_heldEdgeS
  have hln : lnV h a = some (.int .i64 n) := by rw [ha.ln, mkRows_len]
  simp only [go_sem]
  refine w_for n (fun i t loc h' => h' = h ∧ t 0 = a ∧ t 1 = .int .i64 ((k + i * 5 : Nat) : Int) ∧ t 5 = .int .i64 i) ⟨rfl, rfl, by simp [upd], rfl⟩ ?_
  rintro i t loc h' hi ⟨rfl, t0, t1, t5⟩
  simp only [t0, t5, hln, go_sem]
  refine w_open (by simp only [go_sem]; rfl) ?_ ?_ <;> intro hc
  · have hi1 : i < n := by omega
    have hw : IntKind.i64.wrap ((i : Int) + 1) = ((i + 1 : Nat) : Int) := w64 (by omega) (by omega)
    have hi3 : i < (List.range n).length := by simpa using hi1
    have w0 : IntKind.i64.wrap (((k + i * 5 : Nat) : Int) + 1) = ((k + i * 5 + 1 : Nat) : Int) := w64 (by omega) (by omega)
    have w1 : IntKind.i64.wrap (((k + i * 5 + 1 : Nat) : Int) + 1) = ((k + i * 5 + 2 : Nat) : Int) := w64 (by omega) (by omega)
    have w2 : IntKind.i64.wrap (((k + i * 5 + 2 : Nat) : Int) + 1) = ((k + i * 5 + 3 : Nat) : Int) := w64 (by omega) (by omega)
    have w3 : IntKind.i64.wrap (((k + i * 5 + 3 : Nat) : Int) + 1) = ((k + i * 5 + 4 : Nat) : Int) := w64 (by omega) (by omega)
    have w4 : IntKind.i64.wrap (((k + i * 5 + 4 : Nat) : Int) + 1) = ((k + i * 5 + 5 : Nat) : Int) := w64 (by omega) (by omega)
    have hel := ha.el (f := fun i => mkEdge (k + i * 5)) 0 hi3
    have c0 := ha.cell (f := fun i => mkEdge (k + i * 5)) 0 hi3 (o := 0) (by omega)
    rw [range_getD hi1] at c0
    simp only [mkEdge, List.getD_cons_zero, List.getD_cons_succ] at c0
    have c1 := ha.cell (f := fun i => mkEdge (k + i * 5)) 0 hi3 (o := 1) (by omega)
    rw [range_getD hi1] at c1
    simp only [mkEdge, List.getD_cons_zero, List.getD_cons_succ] at c1
    have c2 := ha.cell (f := fun i => mkEdge (k + i * 5)) 0 hi3 (o := 2) (by omega)
    rw [range_getD hi1] at c2
    simp only [mkEdge, List.getD_cons_zero, List.getD_cons_succ] at c2
    have c3 := ha.cell (f := fun i => mkEdge (k + i * 5)) 0 hi3 (o := 3) (by omega)
    rw [range_getD hi1] at c3
    simp only [mkEdge, List.getD_cons_zero, List.getD_cons_succ] at c3
    have c4 := ha.cell (f := fun i => mkEdge (k + i * 5)) 0 hi3 (o := 4) (by omega)
    rw [range_getD hi1] at c4
    simp only [mkEdge, List.getD_cons_zero, List.getD_cons_succ] at c4
    simp only [Nat.add_zero, Nat.zero_add] at w0 c0
    simp only [t0, t1, t5, hw, hel.1, hel.2.1, c0, w0, c1, w1, c2, w2, c3, w3, c4, w4, Nat.add_zero, Nat.zero_add, BEq.rfl, List.prefix_refl, go_sem]
    exact ⟨hi1, by first | omega | (congr 2; omega)⟩
  · have hil : i = n := by omega
    subst hil
    simp only [t1, go_sem]
end
section
variable {X : CallF} {h : Heap} {a b : Value} {l : List Cp} {rws : List (List Value)} {k : Nat}
end
section
variable {X : CallF} {h : Heap} {a b : Value} {l : List Pr} {rws : List (List Value)} {k : Nat}
theorem k_toPair {l : Pr} : C T X n_laws_toPair [.agg ⟨prR l⟩] h = some (.agg ⟨prR l⟩, h) := by
  refine C_go t_laws_toPair rfl ?_
  unfold F_laws_toPair prR
  simp only [go_sem]
  try rfl
theorem k_eqPair {l : Pr} : C T X n_laws_eqPair [.agg ⟨prR l⟩, .agg ⟨prR l⟩] h = some (.bool true, h) := by
  refine C_go t_laws_eqPair rfl ?_
  unfold F_laws_eqPair prR
  simp only [BEq.rfl, go_sem]
  try rfl
theorem k_toPairS (ha : Rows h 2 a (prsL l)) (hl : l.length ≤ lim) : C T X n_laws_toPairS [a] h = some (.slice (some ⟨h.length, 0, none⟩) l.length l.length, h ++ [⟨(prsL l).flatten, 2, y_Pair, true⟩]) := by
  have hl2 := hl
  unfold lim at hl2
  refine C_go t_laws_toPairS rfl ?_
  unfold F_laws_toPairS
  simp only [Rows.lnm (f := prR) ha, mkW_ok hl, go_sem]
  rw [fill_start (rows := prsL l)]
  refine w_for l.length (fun i t loc h' => h' = h ++ [⟨fillC [.string noT, .string noT] (prsL l) l.length i, 2, y_Pair, true⟩] ∧ t 0 = a ∧ t 3 = .slice (some ⟨h.length, 0, none⟩) l.length l.length ∧ t 4 = .int .i64 i) ⟨rfl, rfl, rfl, rfl⟩ ?_
  rintro i t loc h' hi ⟨rfl, t0, t3, t4⟩
  have hu := ha.up (List.prefix_append h [⟨fillC [.string noT, .string noT] (prsL l) l.length i, 2, y_Pair, true⟩])
  simp only [t0, t3, t4, Rows.lnm (f := prR) hu, go_sem]
  refine w_open (by simp only [go_sem]; rfl) ?_ ?_ <;> intro hc
  · have hi1 : i < l.length := by omega
    have hrow : ∀ r ∈ (prsL l), r.length = 2 := map_row prR_len
    have hlen : (prsL l).length = l.length := List.length_map ..
    have hi2 : i < (prsL l).length := by omega
    have hst := fill_st (h := h) (ext := []) (z := [.string noT, .string noT]) (ty := y_Pair) hrow rfl hlen hi2
    have hgt : (prsL l)[i] = prR (l.getD i p0) := map_at (d := p0) hi1
    rw [hgt] at hst
    have hia := fill_ia (h := h) (ext := []) (z := [.string noT, .string noT]) (ty := y_Pair) hrow rfl hlen (i := i) (by omega) (k := .i64) (j := (i : Int)) (by omega) (by omega)
    rw [Int.toNat_natCast] at hia
    have hw : IntKind.i64.wrap ((i : Int) + 1) = ((i + 1 : Nat) : Int) := w64 (by omega) (by omega)
    have hel := hu.el (f := prR) p0 hi1
    have hl2 : ofCells true (prR (l.getD i p0)) = some (.agg ⟨prR (l.getD i p0)⟩) := rfl
    have hl3 : cellsOf (.agg ⟨prR (l.getD i p0)⟩) = some (prR (l.getD i p0)) := rfl
    have hl4 := prR_len (l.getD i p0)
    skip
    simp only [t0, t3, t4, hel.1, hel.2.2, k_toPair, hia, hw, hl2, hl3, hl4, Option.bind_some, hst, go_sem]
    exact hi1
  · have hil : i = l.length := by omega
    subst hil
    simp only [t3, go_sem]
    rw [finish_deep rfl, fill_end (by simp [ints])]
theorem k_eqPairS (ha : Rows h 2 a (prsL l)) (hb : Rows h 2 b (prsL l)) (hl : l.length ≤ lim) : C T X n_laws_eqPairS [a, b] h = some (.bool true, h) := by
  unfold lim at hl
  refine C_go t_laws_eqPairS rfl ?_
  unfold F_laws_eqPairS
  simp only [Rows.lnm (f := prR) ha, Rows.lnm (f := prR) hb, go_sem]
  refine w_for l.length (fun i t loc h' => h' = h ∧ t 0 = a ∧ t 1 = b ∧ t 5 = .int .i64 i) ⟨rfl, rfl, rfl, rfl⟩ ?_
  rintro i t loc h' hi ⟨rfl, t0, t1, t5⟩
  simp only [t0, t5, Rows.lnm (f := prR) ha, go_sem]
  refine w_open (by simp only [go_sem]; rfl) ?_ ?_ <;> intro hc
  · have hi1 : i < l.length := by omega
    have hw : IntKind.i64.wrap ((i : Int) + 1) = ((i + 1 : Nat) : Int) := w64 (by omega) (by omega)
    have hel := ha.el (f := prR) p0 hi1
    have hel2 := hb.el (f := prR) p0 hi1
    have hl2 : ofCells true (prR (l.getD i p0)) = some (.agg ⟨prR (l.getD i p0)⟩) := rfl
    skip
    simp only [t0, t1, t5, hel.1, hel.2.2, hel2.1, hel2.2.2, k_eqPair, hw, hl2, Option.bind_some, BEq.rfl, List.prefix_refl, go_sem]
    exact hi1
  · simp only [go_sem]
def mkPair (k : Nat) : List Value := [.string (mkT (k + 0)), .string (mkT (k + 1))]
theorem k_markPairS {lo hi : Nat} (o : Own h lo hi 2 y_Pair a rws) (hl : rws.length ≤ lim) {k : Nat} (hk : k ≤ 2305843009213693952) : ∃ h', C T X n_laws_markPairS [a, .int .i64 (k : Int)] h = some (.int .i64 ((k + rws.length * 2 : Nat) : Int), h') ∧ Same lo hi h h' ∧ Own h' lo hi 2 y_Pair a (mkRows mkPair k 2 rws.length) := by
  unfold lim at hl
  refine C_exH t_laws_markPairS rfl ?_
  unfold F_laws_markPairS
  simp only [go_sem]
  refine w_for rws.length (fun i t loc h' => t 0 = a ∧ t 1 = .int .i64 ((k + i * 2 : Nat) : Int) ∧ t 5 = .int .i64 i ∧ Same lo hi h h' ∧ ∃ R, R.length = rws.length ∧ (∀ j, j < i → R[j]? = some (mkPair (k + j * 2))) ∧ Own h' lo hi 2 y_Pair a R) ⟨rfl, by simp [upd], rfl, Same.refl, rws, rfl, fun j hj => by omega, o⟩ ?_
  rintro i t loc h0 hi ⟨t0, t1, t5, hs, R, hR, hj, o0⟩
  simp only [t0, t5, o0.ln, hR, go_sem]
  refine w_open (by simp only [go_sem]; rfl) ?_ ?_ <;> intro hc
  · have hi1 : i < rws.length := by omega
    have hi2 : i < R.length := by omega
    have hw : IntKind.i64.wrap ((i : Int) + 1) = ((i + 1 : Nat) : Int) := w64 (by omega) (by omega)
    have w0 : IntKind.i64.wrap (((k + i * 2 : Nat) : Int) + 1) = ((k + i * 2 + 1 : Nat) : Int) := w64 (by omega) (by omega)
    have w1 : IntKind.i64.wrap (((k + i * 2 + 1 : Nat) : Int) + 1) = ((k + i * 2 + 2 : Nat) : Int) := w64 (by omega) (by omega)
    have q0 := o0.self hi2
    obtain ⟨r, hr⟩ : ∃ r, R[i] = r := ⟨_, rfl⟩
    have hrl := o0.row_len hi2
    rw [hr] at q0 hrl
    obtain ⟨r0, r1, rfl⟩ : ∃ r0 r1, r = [r0, r1] := by
      match r, hrl with
      | [r0, r1], _ => exact ⟨r0, r1, rfl⟩
    have el0 := q0.el (i := i) (by simpa using hi2)
    obtain ⟨h1, e0, s0, q1⟩ := q0.st2 hi2 (k := 0) (vs := [.string (mkT (k + i * 2))]) (by simp)
    simp only [putAt, List.take_zero, List.take_succ_cons, List.drop_zero, List.drop_succ_cons, List.nil_append, List.cons_append, List.length_cons, List.length_nil, Nat.zero_add, List.append_nil, List.drop_nil, Nat.reduceAdd] at q1
    have el1 := q1.el (i := i) (by simpa using hi2)
    obtain ⟨h2, e1, s1, q2⟩ := q1.st2 hi2 (k := 1) (vs := [.string (mkT (k + i * 2 + 1))]) (by simp)
    simp only [putAt, List.take_zero, List.take_succ_cons, List.drop_zero, List.drop_succ_cons, List.nil_append, List.cons_append, List.length_cons, List.length_nil, Nat.zero_add, List.append_nil, List.drop_nil, Nat.reduceAdd] at q2
    (try simp only [Nat.add_zero, Nat.zero_add] at w0 e0 el0)
    simp only [t0, t1, t5, hw, k_markText (X := X) (k := k + i * 2) (by omega), k_markText (X := X) (k := k + i * 2 + 1) (by omega), el0.1, el0.2, e0, w0, el1.1, el1.2, e1, w1, Nat.add_zero, Nat.zero_add, go_sem]
    have hs' := ((hs.trans s0).trans s1)
    refine ⟨hi1, by first | omega | (congr 2; omega), hs', _, by simpa using hR, fun j hj2 => ?_, q2⟩
    by_cases e : j = i
    · subst e; rw [List.getElem?_set_self hi2]; rfl
    · rw [List.getElem?_set_ne (by omega)]; exact hj j (by omega)
  · have hil : i = rws.length := by omega
    subst hil
    have hRe : R = mkRows mkPair k 2 rws.length := rows_eq (by rw [hR, mkRows_len]) fun j hj2 => by rw [hj j (by omega), mkRows_get (by omega)]
    subst hRe
    simp only [t1, finish_room hs.len, go_sem]
    exact ⟨hs, o0⟩
end
section
variable {X : CallF} {h : Heap} {a b : Value} {l : List Aq} {rws : List (List Value)} {k : Nat}
end
section
variable {X : CallF} {h : Heap} {a b : Value} {l : List Int} {rws : List (List Value)} {k : Nat}
theorem k_eqIntS (ha : Rows h 1 a (ints l)) (hb : Rows h 1 b (ints l)) (hl : l.length ≤ lim) : C T X n_laws_eqIntS [a, b] h = some (.bool true, h) := by
  unfold lim at hl
  refine C_go t_laws_eqIntS rfl ?_
  unfold F_laws_eqIntS
  simp only [Rows.lnm (f := intR) ha, Rows.lnm (f := intR) hb, go_sem]
  refine w_for l.length (fun i t loc h' => h' = h ∧ t 0 = a ∧ t 1 = b ∧ t 5 = .int .i64 i) ⟨rfl, rfl, rfl, rfl⟩ ?_
  rintro i t loc h' hi ⟨rfl, t0, t1, t5⟩
  simp only [t0, t5, Rows.lnm (f := intR) ha, go_sem]
  refine w_open (by simp only [go_sem]; rfl) ?_ ?_ <;> intro hc
  · have hi1 : i < l.length := by omega
    have hw : IntKind.i64.wrap ((i : Int) + 1) = ((i + 1 : Nat) : Int) := w64 (by omega) (by omega)
    have hel := ha.el (f := intR) 0 hi1
    have hel2 := hb.el (f := intR) 0 hi1
    have hl2 : ofCells false (intR (l.getD i 0)) = some (.int .i64 (l.getD i 0)) := rfl
    simp only [intR] at hel hel2
    simp only [t0, t1, t5, hel.1, hel.2.2, hel2.1, hel2.2.2, hw, hl2, Option.bind_some, BEq.rfl, List.prefix_refl, go_sem]
    exact hi1
  · simp only [go_sem]
def mkInt (k : Nat) : List Value := [.int .i64 ((k + 0 : Nat) : Int)]
theorem k_markIntS {lo hi : Nat} (o : Own h lo hi 1 y_int a rws) (hl : rws.length ≤ lim) {k : Nat} (hk : k ≤ 2305843009213693952) : ∃ h', C T X n_laws_markIntS [a, .int .i64 (k : Int)] h = some (.int .i64 ((k + rws.length * 1 : Nat) : Int), h') ∧ Same lo hi h h' ∧ Own h' lo hi 1 y_int a (mkRows mkInt k 1 rws.length) := by
  unfold lim at hl
  refine C_exH t_laws_markIntS rfl ?_
  unfold F_laws_markIntS
  simp only [go_sem]
  refine w_for rws.length (fun i t loc h' => t 0 = a ∧ t 1 = .int .i64 ((k + i * 1 : Nat) : Int) ∧ t 5 = .int .i64 i ∧ Same lo hi h h' ∧ ∃ R, R.length = rws.length ∧ (∀ j, j < i → R[j]? = some (mkInt (k + j * 1))) ∧ Own h' lo hi 1 y_int a R) ⟨rfl, by simp [upd], rfl, Same.refl, rws, rfl, fun j hj => by omega, o⟩ ?_
  rintro i t loc h0 hi ⟨t0, t1, t5, hs, R, hR, hj, o0⟩
  simp only [t0, t5, o0.ln, hR, go_sem]
  refine w_open (by simp only [go_sem]; rfl) ?_ ?_ <;> intro hc
  · have hi1 : i < rws.length := by omega
    have hi2 : i < R.length := by omega
    have hw : IntKind.i64.wrap ((i : Int) + 1) = ((i + 1 : Nat) : Int) := w64 (by omega) (by omega)
    have w0 : IntKind.i64.wrap (((k + i * 1 : Nat) : Int) + 1) = ((k + i * 1 + 1 : Nat) : Int) := w64 (by omega) (by omega)
    have q0 := o0.self hi2
    obtain ⟨r, hr⟩ : ∃ r, R[i] = r := ⟨_, rfl⟩
    have hrl := o0.row_len hi2
    rw [hr] at q0 hrl
    obtain ⟨r0, rfl⟩ : ∃ r0, r = [r0] := by
      match r, hrl with
      | [r0], _ => exact ⟨r0, rfl⟩
    have el0 := q0.el (i := i) (by simpa using hi2)
    obtain ⟨h1, e0, s0, q1⟩ := q0.st2 hi2 (k := 0) (vs := [.int .i64 ((k + i * 1 : Nat) : Int)]) (by simp)
    simp only [putAt, List.take_zero, List.take_succ_cons, List.drop_zero, List.drop_succ_cons, List.nil_append, List.cons_append, List.length_cons, List.length_nil, Nat.zero_add, List.append_nil, List.drop_nil, Nat.reduceAdd] at q1
    (try simp only [Nat.add_zero, Nat.zero_add] at w0 e0 el0)
    simp only [t0, t1, t5, hw, el0.1, el0.2, e0, w0, Nat.add_zero, Nat.zero_add, go_sem]
    have hs' := (hs.trans s0)
    refine ⟨hi1, by first | omega | (congr 2; omega), hs', _, by simpa using hR, fun j hj2 => ?_, q1⟩
    by_cases e : j = i
    · subst e; rw [List.getElem?_set_self hi2]; rfl
    · rw [List.getElem?_set_ne (by omega)]; exact hj j (by omega)
  · have hil : i = rws.length := by omega
    subst hil
    have hRe : R = mkRows mkInt k 1 rws.length := rows_eq (by rw [hR, mkRows_len]) fun j hj2 => by rw [hj j (by omega), mkRows_get (by omega)]
    subst hRe
    simp only [t1, finish_room hs.len, go_sem]
    exact ⟨hs, o0⟩
theorem k_heldIntS {n : Nat} (ha : Rows h 1 a (mkRows mkInt k 1 n)) (hl : n ≤ lim) (hk : k ≤ 2305843009213693952) : C T X n_laws_heldIntS [a, .int .i64 (k : Int)] h = some (.int .i64 ((k + n * 1 : Nat) : Int), h) := by
  unfold lim at hl
  refine C_go t_laws_heldIntS rfl ?_
  unfold F_laws_heldIntS
  have hln : lnV h a = some (.int .i64 n) := by rw [ha.ln, mkRows_len]
  simp only [go_sem]
  refine w_for n (fun i t loc h' => h' = h ∧ t 0 = a ∧ t 1 = .int .i64 ((k + i * 1 : Nat) : Int) ∧ t 5 = .int .i64 i) ⟨rfl, rfl, by simp [upd], rfl⟩ ?_
  rintro i t loc h' hi ⟨rfl, t0, t1, t5⟩
  simp only [t0, t5, hln, go_sem]
  refine w_open (by simp only [go_sem]; rfl) ?_ ?_ <;> intro hc
  · have hi1 : i < n := by omega
    have hw : IntKind.i64.wrap ((i : Int) + 1) = ((i + 1 : Nat) : Int) := w64 (by omega) (by omega)
    have hi3 : i < (List.range n).length := by simpa using hi1
    have w0 : IntKind.i64.wrap (((k + i * 1 : Nat) : Int) + 1) = ((k + i * 1 + 1 : Nat) : Int) := w64 (by omega) (by omega)
    have hel := ha.el (f := fun i => mkInt (k + i * 1)) 0 hi3
    have c0 := ha.cell (f := fun i => mkInt (k + i * 1)) 0 hi3 (o := 0) (by omega)
    rw [range_getD hi1] at c0
    simp only [mkInt, List.getD_cons_zero, List.getD_cons_succ] at c0
    simp only [Nat.add_zero, Nat.zero_add] at w0 c0
    simp only [t0, t1, t5, hw, hel.1, hel.2.1, c0, w0, Nat.add_zero, Nat.zero_add, BEq.rfl, List.prefix_refl, go_sem]
    exact ⟨hi1, by first | omega | (congr 2; omega)⟩
  · have hil : i = n := by omega
    subst hil
    simp only [t1, go_sem]
end
section
variable {X : CallF} {h : Heap} {a b : Value} {l : List ByteArray} {rws : List (List Value)} {k : Nat}
end
end Go.Proofs.YtjgacjidaeahdaaGreatDoor.Ab
set_option linter.unusedSimpArgs false
set_option linter.unusedVariables false
set_option linter.unnecessarySimpa false
set_option maxHeartbeats 4000000
namespace Go.Proofs.YtjgacjidaeahdaaGreatDoor.Ab
open Go.RowKit
section
variable {X : CallF}
theorem k_impl_in {h : Heap} {n lo hi : Int} : C T X n_impl_in [.int .i64 n, .int .i64 lo, .int .i64 hi] h = some (.bool (decide (lo ≤ n) && decide (n ≤ hi)), h) := by
  refine C_intro T X t_impl_in rfl ?_
  unfold F_impl_in start
  simp only [go_sem]
  repeat (first | (refine w_any (by simp only [*, go_sem]; rfl) ?_ ?_ <;> intro hc <;> (try simp only [decide_eq_true_eq, decide_eq_false_iff_not, Decidable.not_not] at hc) <;> simp only [hc, go_sem]) | (refine so_any (by simp only [*, go_sem]; rfl) ?_ ?_ <;> intro hc <;> (try simp only [decide_eq_true_eq, decide_eq_false_iff_not, Decidable.not_not] at hc) <;> simp only [hc, go_sem]) | (refine so_any' (by simp only [*, go_sem]; rfl) ?_ ?_ <;> intro hc <;> (try simp only [decide_eq_true_eq, decide_eq_false_iff_not, Decidable.not_not] at hc) <;> simp only [hc, go_sem]) | (refine sf_any (by simp only [*, go_sem]; rfl) ?_ ?_ <;> intro hc <;> (try simp only [decide_eq_true_eq, decide_eq_false_iff_not, Decidable.not_not] at hc) <;> simp only [hc, go_sem]) | (refine sf_any' (by simp only [*, go_sem]; rfl) ?_ ?_ <;> intro hc <;> (try simp only [decide_eq_true_eq, decide_eq_false_iff_not, Decidable.not_not] at hc) <;> simp only [hc, go_sem]))
  all_goals (refine rets_slot rfl (.inl rfl) rfl ?_; simp only [*, go_sem, finish_same])
theorem k_spec_l01In {h : Heap} {n lo hi : Int} : C T X n_spec_l01In [.int .i64 n, .int .i64 lo, .int .i64 hi] h = some (.bool (decide (lo ≤ n) && decide (n ≤ hi)), h) := by
  refine C_intro T X t_spec_l01In rfl ?_
  unfold F_spec_l01In start
  simp only [go_sem]
  repeat (first | (refine w_any (by simp only [*, go_sem]; rfl) ?_ ?_ <;> intro hc <;> (try simp only [decide_eq_true_eq, decide_eq_false_iff_not, Decidable.not_not] at hc) <;> simp only [hc, go_sem]) | (refine so_any (by simp only [*, go_sem]; rfl) ?_ ?_ <;> intro hc <;> (try simp only [decide_eq_true_eq, decide_eq_false_iff_not, Decidable.not_not] at hc) <;> simp only [hc, go_sem]) | (refine so_any' (by simp only [*, go_sem]; rfl) ?_ ?_ <;> intro hc <;> (try simp only [decide_eq_true_eq, decide_eq_false_iff_not, Decidable.not_not] at hc) <;> simp only [hc, go_sem]) | (refine sf_any (by simp only [*, go_sem]; rfl) ?_ ?_ <;> intro hc <;> (try simp only [decide_eq_true_eq, decide_eq_false_iff_not, Decidable.not_not] at hc) <;> simp only [hc, go_sem]) | (refine sf_any' (by simp only [*, go_sem]; rfl) ?_ ?_ <;> intro hc <;> (try simp only [decide_eq_true_eq, decide_eq_false_iff_not, Decidable.not_not] at hc) <;> simp only [hc, go_sem]))
  all_goals (refine rets_slot rfl (.inl rfl) rfl ?_; simp only [*, go_sem, finish_same])
end
end Go.Proofs.YtjgacjidaeahdaaGreatDoor.Ab
set_option linter.unusedSimpArgs false
set_option linter.unusedVariables false
set_option linter.unnecessarySimpa false
set_option maxHeartbeats 4000000
namespace Go.Proofs.YtjgacjidaeahdaaGreatDoor.Ab
open Go.RowKit
/-- An edge is right. -/
def EOk (size : Int) (e : E) : Prop := 0 ≤ e.a ∧ e.a < e.b ∧ e.b < size ∧ 0 ≤ e.w1 ∧ e.w1 ≤ 50 ∧ 0 ≤ e.w2 ∧ e.w2 ≤ 50 ∧ 0 ≤ e.w3 ∧ e.w3 ≤ 50
/-- One edge stands ahead of another. -/
def ELt (p e : E) : Prop := p.a < e.a ∨ p.a = e.a ∧ p.b < e.b
/-- A graph is right. -/
def GOk (size : Int) (l : List E) : Prop := (0 ≤ size ∧ size ≤ 9) ∧ ∀ i, i < l.length → EOk size (l.getD i e0) ∧ (0 < i → ELt (l.getD (i - 1) e0) (l.getD i e0))
def graphV (size : Int) (ev : Value) : Value := .agg ⟨[.int .i64 size, ev]⟩
section
variable {X : CallF} {h : Heap} {size : Int} {ev : Value} {l : List E}
theorem k_spec_l08Worth {n : Int} : C T X n_spec_l08Worth [.int .i64 n] h = some (.bool (decide (0 ≤ n) && decide (n ≤ 50)), h) := by
  refine C_go t_spec_l08Worth rfl ?_
  unfold F_spec_l08Worth
  simp only [k_spec_l01In, go_sem]
set_option maxHeartbeats 4000000 in
open Classical in
theorem k_spec_GraphOk (he : Rows h 5 ev (edges l)) (hl : l.length ≤ lim) : C T X n_spec_GraphOk [graphV size ev] h = some (.bool (decide (GOk size l)), h) := by
  unfold lim at hl
  refine C_go t_spec_GraphOk rfl ?_
  unfold F_spec_GraphOk graphV
  simp only [k_spec_l01In, go_sem]
  refine w_any (by simp only [go_sem]; rfl) ?_ ?_ <;> intro hc <;> simp only [go_sem]
  · have : ¬ GOk size l := fun g => by
      have := g.1
      simp at hc
      omega
    simp only [this, go_sem]
  have hs : 0 ≤ size ∧ size ≤ 9 := by simpa using hc
  refine w_for l.length (fun i t loc h' => h' = h ∧ loc 1 = some [.int .i64 size, ev] ∧ t 3 = .int .i64 i ∧ ∀ j, j < i → EOk size (l.getD j e0) ∧ (0 < j → ELt (l.getD (j - 1) e0) (l.getD j e0)))
    ⟨rfl, rfl, rfl, fun j hj => by omega⟩ ?_
  rintro i t loc h' hi ⟨rfl, l1, t3, hall⟩
  simp only [l1, t3, he.lnm, go_sem]
  refine w_open (by simp only [l1, t3, go_sem]; rfl) ?_ ?_ <;> intro hc
  · have hi1 : i < l.length := by omega
    have hneg : ¬ (EOk size (l.getD i e0) ∧ (0 < i → ELt (l.getD (i - 1) e0) (l.getD i e0))) → ¬ GOk size l := fun hn g => hn (g.2 i hi1)
    have hnext : (EOk size (l.getD i e0) ∧ (0 < i → ELt (l.getD (i - 1) e0) (l.getD i e0))) → ∀ j, j < i + 1 → EOk size (l.getD j e0) ∧ (0 < j → ELt (l.getD (j - 1) e0) (l.getD j e0)) := fun hy j hj => by
      by_cases e : j = i
      · subst e; exact hy
      · exact hall j (by omega)
    have hw : IntKind.i64.wrap ((i : Int) + 1) = ((i + 1 : Nat) : Int) := w64 (by omega) (by omega)
    by_cases hE : EOk size (l.getD i e0)
    · obtain ⟨q1, q2, q3, q4, q5, q6, q7, q8, q9⟩ := hE
      have p1 : ¬ (l.getD i e0).a < 0 := by omega
      have p2 : ¬ (l.getD i e0).b ≤ (l.getD i e0).a := by omega
      have p3 : ¬ size ≤ (l.getD i e0).b := by omega
      have hE : EOk size (l.getD i e0) := ⟨q1, q2, q3, q4, q5, q6, q7, q8, q9⟩
      rcases Nat.eq_zero_or_pos i with hz | hp
      · have hz' : ¬ (0 : Int) < i := by omega
        simp only [l1, t3, edge_el he hi1, k_spec_l01In, k_spec_l08Worth, p1, p2, p3, q4, q5, q6, q7, q8, q9, hz', hw, go_sem]
        exact ⟨hi1, hnext ⟨hE, fun hp => by omega⟩⟩
      · have hp' : (0 : Int) < i := by omega
        have hw1 : IntKind.i64.wrap ((i : Int) - 1) = ((i - 1 : Nat) : Int) := by rw [w64 (by omega) (by omega)]; omega
        have hi2 : i - 1 < l.length := by omega
        simp only [l1, t3, edge_el he hi1, k_spec_l01In, k_spec_l08Worth, p1, p2, p3, q4, q5, q6, q7, q8, q9, hp', hw, hw1, edge_el he hi2, go_sem]
        repeat' (first | (refine w_any (by simp only [l1, t3, hp', hw, hw1, edge_el he hi2, go_sem]; rfl) ?_ ?_ <;> intro hc <;> (try simp only [decide_eq_true_eq, decide_eq_false_iff_not, Decidable.not_not, Bool.not_eq_true', Bool.not_eq_false'] at hc) <;> simp only [hc, l1, t3, hp', hw, hw1, edge_el he hi2, go_sem]) | (refine so_any (by simp only [l1, t3, hp', hw, hw1, edge_el he hi2, go_sem]; rfl) ?_ ?_ <;> intro hc <;> (try simp only [decide_eq_true_eq, decide_eq_false_iff_not, Decidable.not_not, Bool.not_eq_true', Bool.not_eq_false'] at hc) <;> simp only [hc, l1, t3, hp', hw, hw1, edge_el he hi2, go_sem]) | (refine so_any' (by simp only [l1, t3, hp', hw, hw1, edge_el he hi2, go_sem]; rfl) ?_ ?_ <;> intro hc <;> (try simp only [decide_eq_true_eq, decide_eq_false_iff_not, Decidable.not_not, Bool.not_eq_true', Bool.not_eq_false'] at hc) <;> simp only [hc, l1, t3, hp', hw, hw1, edge_el he hi2, go_sem]) | (refine sf_any (by simp only [l1, t3, hp', hw, hw1, edge_el he hi2, go_sem]; rfl) ?_ ?_ <;> intro hc <;> (try simp only [decide_eq_true_eq, decide_eq_false_iff_not, Decidable.not_not, Bool.not_eq_true', Bool.not_eq_false'] at hc) <;> simp only [hc, l1, t3, hp', hw, hw1, edge_el he hi2, go_sem]) | (refine sf_any' (by simp only [l1, t3, hp', hw, hw1, edge_el he hi2, go_sem]; rfl) ?_ ?_ <;> intro hc <;> (try simp only [decide_eq_true_eq, decide_eq_false_iff_not, Decidable.not_not, Bool.not_eq_true', Bool.not_eq_false'] at hc) <;> simp only [hc, l1, t3, hp', hw, hw1, edge_el he hi2, go_sem]))
        all_goals first
          | exact (decide_eq_false (hneg (fun hx => by have := hx.2 hp; simp only [ELt] at this; omega))).symm
          | exact ⟨hi1, hnext ⟨hE, fun _ => by simp only [ELt]; omega⟩⟩
    · have hneg' := hneg (fun hx => hE hx.1)
      have hr : false = decide (GOk size l) := (decide_eq_false hneg').symm
      simp only [l1, t3, edge_el he hi1, k_spec_l01In, k_spec_l08Worth, go_sem]
      repeat' (first | (refine w_any (by simp only [l1, t3, k_spec_l08Worth, go_sem]; rfl) ?_ ?_ <;> intro hc <;> (try simp only [decide_eq_true_eq, decide_eq_false_iff_not, Decidable.not_not, Bool.not_eq_true', Bool.not_eq_false'] at hc) <;> simp only [hc, l1, t3, k_spec_l08Worth, go_sem]) | (refine so_any (by simp only [l1, t3, k_spec_l08Worth, go_sem]; rfl) ?_ ?_ <;> intro hc <;> (try simp only [decide_eq_true_eq, decide_eq_false_iff_not, Decidable.not_not, Bool.not_eq_true', Bool.not_eq_false'] at hc) <;> simp only [hc, l1, t3, k_spec_l08Worth, go_sem]) | (refine so_any' (by simp only [l1, t3, k_spec_l08Worth, go_sem]; rfl) ?_ ?_ <;> intro hc <;> (try simp only [decide_eq_true_eq, decide_eq_false_iff_not, Decidable.not_not, Bool.not_eq_true', Bool.not_eq_false'] at hc) <;> simp only [hc, l1, t3, k_spec_l08Worth, go_sem]) | (refine sf_any (by simp only [l1, t3, k_spec_l08Worth, go_sem]; rfl) ?_ ?_ <;> intro hc <;> (try simp only [decide_eq_true_eq, decide_eq_false_iff_not, Decidable.not_not, Bool.not_eq_true', Bool.not_eq_false'] at hc) <;> simp only [hc, l1, t3, k_spec_l08Worth, go_sem]) | (refine sf_any' (by simp only [l1, t3, k_spec_l08Worth, go_sem]; rfl) ?_ ?_ <;> intro hc <;> (try simp only [decide_eq_true_eq, decide_eq_false_iff_not, Decidable.not_not, Bool.not_eq_true', Bool.not_eq_false'] at hc) <;> simp only [hc, l1, t3, k_spec_l08Worth, go_sem]))
      all_goals first
        | exact hr
        | exact absurd (by simp only [Bool.and_eq_true, decide_eq_true_eq] at *; simp only [EOk]; omega) hE
  · have : GOk size l := ⟨hs, fun j hj => hall j (by omega)⟩
    simp only [this, go_sem]
end
end Go.Proofs.YtjgacjidaeahdaaGreatDoor.Ab
set_option linter.unusedSimpArgs false
set_option linter.unusedVariables false
set_option linter.unnecessarySimpa false
set_option maxHeartbeats 4000000
namespace Go.Proofs.YtjgacjidaeahdaaGreatDoor.Ab
open Go.RowKit
section
variable {X : CallF} {h : Heap} {v w : Value} {es : List E} {size : Int} {n : Int}
theorem k_eqGraph (he : Rows h 5 v (edges es)) (hf : Rows h 5 w (edges es)) (hl : es.length ≤ lim) : C T X n_laws_eqGraph [graphV size v, graphV size w] h = some (.bool true, h) := by
  refine C_go t_laws_eqGraph rfl ?_
  unfold F_laws_eqGraph graphV
  simp only [k_eqEdgeS he hf hl, go_sem]
end
end Go.Proofs.YtjgacjidaeahdaaGreatDoor.Ab
set_option linter.unusedSimpArgs false
set_option linter.unusedVariables false
set_option linter.unnecessarySimpa false
set_option maxHeartbeats 4000000
namespace Go.Proofs.YtjgacjidaeahdaaGreatDoor.Ab
open Go.RowKit
section
variable {X : CallF} {h : Heap} {v : Value} {es : List E} {il : List Int} {cl : List Cp} {size n : Int}
theorem Own.all {rws : List (List Value)} {sz : Nat} {ty : TypeId} (hl : ∀ r ∈ rws, r.length = sz) : Own (h ++ [⟨rws.flatten, sz, ty, true⟩]) h.length (List.length (h ++ [(⟨rws.flatten, sz, ty, true⟩ : Blk)])) sz ty (.slice (some ⟨h.length, 0, none⟩) rws.length rws.length) rws := (Own.made hl).wide (Nat.le_refl _) (by simp)
end
end Go.Proofs.YtjgacjidaeahdaaGreatDoor.Ab
set_option linter.unusedSimpArgs false
set_option linter.unusedVariables false
set_option linter.unnecessarySimpa false
set_option maxHeartbeats 4000000
namespace Go.Proofs.YtjgacjidaeahdaaGreatDoor.Ab
open Go.RowKit
section
variable {X : CallF} {h : Heap} {v : Value} {l : List Pr} {n : Int}
def PrMax (l : List Pr) : Prop := l.length ≤ maxLen ∧ ∀ p ∈ l, p.k.size ≤ maxLen ∧ p.v.size ≤ maxLen
def PrBnd (l : List Pr) : Prop := l.length ≤ 1048576 ∧ True
theorem z_szPair {p : Pr} (hp : p.k.size ≤ maxLen ∧ p.v.size ≤ maxLen) (h0 : 0 ≤ n) (h1 : n ≤ 1048576) : ∃ m, C T X n_laws_szPair [.agg ⟨[.string p.k, .string p.v]⟩, .int .i64 n] h = some (.int .i64 m, h) ∧ m ≤ n ∧ (m < 0 → m = -1) := by
  obtain ⟨k1, k2⟩ := hp
  unfold maxLen at k1 k2
  have w1 : IntKind.i64.wrap (n - (p.k.size : Int)) = n - (p.k.size : Int) := w64 (by omega) (by omega)
  by_cases c1 : n - (p.k.size : Int) < 0
  · refine ⟨-1, C_go t_laws_szPair rfl ?_, by omega, fun _ => rfl⟩
    unfold F_laws_szPair
    simp only [w1, c1, go_sem]
  have w2 : IntKind.i64.wrap (n - (p.k.size : Int) - (p.v.size : Int)) = n - (p.k.size : Int) - (p.v.size : Int) := w64 (by omega) (by omega)
  by_cases c2 : n - (p.k.size : Int) - (p.v.size : Int) < 0
  · refine ⟨-1, C_go t_laws_szPair rfl ?_, by omega, fun _ => rfl⟩
    unfold F_laws_szPair
    simp only [w1, w2, c1, c2, go_sem]
  · refine ⟨n - (p.k.size : Int) - (p.v.size : Int), C_go t_laws_szPair rfl ?_, by omega, fun _ => by omega⟩
    unfold F_laws_szPair
    simp only [w1, w2, c1, c2, go_sem]
theorem z_szPairS (hm : Rows h 2 v (prsL l)) (hx : PrMax l) (h0 : 0 ≤ n) (h1 : n ≤ 1048576) : ∃ m, C T X n_laws_szPairS [v, .int .i64 n] h = some (.int .i64 m, h) ∧ m ≤ 1048576 ∧ (0 ≤ m → PrBnd l) := by
  have hl := hx.1
  unfold maxLen at hl
  have w1 : IntKind.i64.wrap (n - (l.length : Int)) = n - (l.length : Int) := w64 (by omega) (by omega)
  suffices hs : ∃ w hh, C T X n_laws_szPairS [v, .int .i64 n] h = some (w, hh) ∧ hh = h ∧ ∃ m, w = .int .i64 m ∧ m ≤ 1048576 ∧ (0 ≤ m → PrBnd l) by
    obtain ⟨w, hh, c, rfl, m, rfl, k⟩ := hs
    exact ⟨m, c, k⟩
  refine C_ex t_laws_szPairS rfl ?_
  unfold F_laws_szPairS
  by_cases c1 : n - (l.length : Int) < 0
  · simp only [hm.lnm, w1, c1, go_sem]
    exact ⟨-1, rfl, by omega, fun k => by omega⟩
  have hb : PrBnd l := ⟨by omega, trivial⟩
  simp only [hm.lnm, w1, c1, go_sem]
  refine w_for l.length (fun i t loc h' => h' = h ∧ t 0 = v ∧ t 5 = .int .i64 (i : Int) ∧ ∃ k : Int, t 1 = .int .i64 k ∧ 0 ≤ k ∧ k ≤ n) ⟨rfl, rfl, rfl, _, rfl, by omega, by omega⟩ ?_
  rintro i t loc h' hi ⟨rfl, t0, t5, k, t1, hk0, hk1⟩
  simp only [t0, t1, t5, hm.lnm, go_sem]
  refine w_open (by simp only [go_sem]; rfl) ?_ ?_ <;> intro hc
  · have hi1 : i < l.length := by omega
    have hw : IntKind.i64.wrap ((i : Int) + 1) = ((i + 1 : Nat) : Int) := w64 (by omega) (by omega)
    have el := hm.el (f := prR) p0 hi1
    have hpm := hx.2 _ (getD_mem (d := p0) hi1)
    obtain ⟨q, hq⟩ : ∃ q, q = l.getD i p0 := ⟨_, rfl⟩
    rw [← hq] at el hpm
    obtain ⟨m, c2, hm1, hm2⟩ := z_szPair (X := X) (h := h') (p := q) hpm hk0 (by omega)
    by_cases c3 : m < 0
    · simp only [t0, t1, t5, el.1, el.2.1, el.2.2, prR, c2, c3, go_sem]
      exact ⟨-1, rfl, by omega, fun k => by omega⟩
    · simp only [t0, t1, t5, el.1, el.2.1, el.2.2, prR, c2, c3, hw, go_sem]
      exact ⟨hi1, m, rfl, by omega, by omega⟩
  · simp only [t1, go_sem]
    exact ⟨k, rfl, by omega, fun _ => hb⟩
theorem x_toPairS (he : Rows h 2 v (prsL l)) (hl : l.length ≤ lim) : ∃ w hh, C T X n_laws_toPairS [v] h = some (w, hh) ∧ h <+: hh ∧ Own hh h.length hh.length 2 y_Pair w (prsL l) :=
  ⟨_, _, k_toPairS he hl, List.prefix_append _ _, by have := Own.all (h := h) (ty := y_Pair) (map_row (l := l) prR_len); rw [List.length_map] at this; exact this⟩
theorem m_markPairS {lo hi : Nat} (o : Own h lo hi 2 y_Pair v (prsL l)) (hl : l.length ≤ lim) {k : Nat} (hk : k ≤ 2305843009213693952) : ∃ h', C T X n_laws_markPairS [v, .int .i64 (k : Int)] h = some (.int .i64 ((k + l.length * 2 : Nat) : Int), h') ∧ Same lo hi h h' := by
  obtain ⟨h', c, s, _⟩ := k_markPairS (X := X) o (by rw [List.length_map]; exact hl) hk
  rw [List.length_map] at c
  exact ⟨h', c, s⟩
end
end Go.Proofs.YtjgacjidaeahdaaGreatDoor.Ab
set_option linter.unusedSimpArgs false
set_option linter.unusedVariables false
set_option linter.unnecessarySimpa false
set_option maxHeartbeats 4000000
namespace Go.Proofs.YtjgacjidaeahdaaGreatDoor.Ab
open Go.RowKit
theorem strOfNums_app {l m : List Int} : strOfNums l ++ strOfNums m = strOfNums (l ++ m) := by
  apply ByteArray.ext
  apply Array.toList_inj.1
  rw [ByteArray.data_append, Array.toList_append, strOfNums_data, strOfNums_data, strOfNums_data, List.map_append]
theorem mkD_dec : ∀ (k n : Nat) (s : ByteArray), n < k → 0 < n → mkD n s = strOfNums (decL n) ++ s
  | 0, n, s, h, _ => by omega
  | k + 1, n, s, h, hp => by
    rw [mkD_pos hp, decL]
    by_cases h1 : n < 10
    · rw [if_pos h1, show n / 10 = 0 by omega, mkD_zero, show n % 10 = n by omega]
    · rw [if_neg h1, mkD_dec k (n / 10) _ (by omega) (by omega), ← ByteArray.append_assoc, strOfNums_app]
theorem decT_size {n k : Nat} (h : n < 10 ^ k) (hk : 0 < k) : (decT n).size ≤ k := by
  unfold decT
  rw [strOfNums_size]
  exact decL_len k n h hk
theorem twoT_size {n : Nat} (h : n ≤ 1000000000) : (twoT n).size ≤ 10 := by
  unfold twoT twoL
  rw [strOfNums_size]
  split
  · simp
  · exact decL_len 10 n (by omega) (by omega)
theorem qK_app {n : Nat} : (⟨⟨[113]⟩⟩ : ByteArray) ++ twoT n = qK n := by
  rw [show (⟨⟨[113]⟩⟩ : ByteArray) = strOfNums [113] from rfl]; exact strOfNums_app
theorem vK_app {n : Nat} : (⟨⟨[118]⟩⟩ : ByteArray) ++ twoT n = vK n := by
  rw [show (⟨⟨[118]⟩⟩ : ByteArray) = strOfNums [118] from rfl]; exact strOfNums_app
theorem rK_app {r n : Nat} : (⟨⟨[114]⟩⟩ : ByteArray) ++ twoT r ++ twoT n = rK r n := by
  rw [show (⟨⟨[114]⟩⟩ : ByteArray) = strOfNums [114] from rfl]; unfold twoT; rw [strOfNums_app, strOfNums_app]; rfl
theorem eK_app {r n : Nat} : (⟨⟨[101]⟩⟩ : ByteArray) ++ twoT r ++ twoT n = eK r n := by
  rw [show (⟨⟨[101]⟩⟩ : ByteArray) = strOfNums [101] from rfl]; unfold twoT; rw [strOfNums_app, strOfNums_app]; rfl
theorem lit_size {c : UInt8} : (⟨⟨[c]⟩⟩ : ByteArray).size = 1 := rfl
theorem asz {c : UInt8} : (⟨[c]⟩ : Array UInt8).size = 1 := rfl
theorem zero_app {n : Nat} : (⟨⟨[48]⟩⟩ : ByteArray) ++ decT n = strOfNums (48 :: decL n) := by
  rw [show (⟨⟨[48]⟩⟩ : ByteArray) = strOfNums [48] from rfl]; exact strOfNums_app
section
variable {X : CallF} {h : Heap} {m : List Pr} {mv : Value}
theorem k_spec_l01Figure {d : Nat} (hd : d < 10) : C T X n_spec_l01Figure [.int .i64 (d : Int)] h = some (.int .u8 ((48 + d : Nat) : Int), h) := by
  refine C_go t_spec_l01Figure rfl ?_
  unfold F_spec_l01Figure
  have h1 : (d : Int) < 10 := by omega
  have e : IntKind.u8.wrap (IntKind.i64.wrap (48 + (d : Int))) = ((48 + d : Nat) : Int) := by rw [w64 (by omega) (by omega), wu8 (by omega) (by omega)]; omega
  simp only [h1, e, go_sem]
theorem k_spec_Decimal {n : Nat} (hn : n ≤ 4611686018427387904) : C T X n_spec_Decimal [.int .i64 (n : Int)] h = some (.string (decT n), h) := by
  refine C_go t_spec_Decimal rfl ?_
  unfold F_spec_Decimal
  simp only [go_sem]
  refine w_open (by simp only [go_sem]; rfl) ?_ ?_ <;> intro hc
  · have : n = 0 := by omega
    subst this
    simp only [go_sem]
    unfold decT decL
    rfl
  have hneg : decide ((n : Int) < 0) = false := decide_eq_false (by omega)
  simp only [hneg, go_sem]
  refine w_meas n (fun m t loc h' => h' = h ∧ ∃ s : ByteArray, t 0 = .int .i64 (m : Nat) ∧ t 3 = .bool false ∧ t 4 = .string s ∧ m ≤ n ∧ mkD m s = mkD n noT ∧ (∃ c, m < 10 ^ c ∧ s.size + c ≤ 19)) ⟨rfl, noT, rfl, rfl, rfl, Nat.le_refl _, rfl, 19, by omega, by decide⟩ ?_
  rintro m t loc h' ⟨rfl, s, t0, t3, t4, hm, hd, c, hc1, hc2⟩
  simp only [t0, t3, t4, go_sem]
  refine w_open (by simp only [t0, t3, t4, go_sem]; rfl) ?_ ?_ <;> intro hc'
  · have hf := k_spec_l01Figure (X := X) (h := h') (d := m % 10) (Nat.mod_lt _ (by omega))
    have hq : IntKind.i64.wrap ((m / 10 : Nat) : Int) = ((m / 10 : Nat) : Int) := w64 (by omega) (by omega)
    have hr : ((m : Int).tmod 10) = ((m % 10 : Nat) : Int) := rfl
    have hv : ((m : Int).tdiv 10) = ((m / 10 : Nat) : Int) := rfl
    have hnn : ¬ ((m % 10 : Nat) : Int) < 0 := by omega
    have hcp : 0 < c := by
      cases c with
      | zero => simp at hc1; omega
      | succ c => omega
    have hm1 : 0 < m := by omega
    have hsz : (strOfNums [((48 + m % 10 : Nat) : Int)]).size + s.size ≤ 9223372036854775807 := by rw [strOfNums_size]; simp only [List.length_cons, List.length_nil]; omega
    simp only [t0, t3, t4, hr, hv, hf, hq, hnn, strLV, ints8, isInt8, Option.map_some, hsz, go_sem]
    refine ⟨m / 10, by omega, _, rfl, rfl, by omega, ?_, c - 1, ?_, ?_⟩
    · rw [← hd, mkD_pos (n := m) hm1]
    · have : 10 ^ c = 10 ^ (c - 1) * 10 := by rw [← Nat.pow_succ]; congr 1; omega
      omega
    · rw [ByteArray.size_append, strOfNums_size]; simp only [List.length_cons, List.length_nil]; omega
  · have : m = 0 := by omega
    subst this
    have hs : s = decT n := by
      rw [mkD_zero] at hd
      rw [hd, mkD_dec (n + 1) n noT (by omega) (by omega)]
      unfold decT noT
      exact ByteArray.append_empty
    simp only [t3, t4, hs, go_sem]
theorem k_spec_l13Two {n : Nat} (hn : n ≤ 1000000000) : C T X n_spec_l13Two [.int .i64 (n : Int)] h = some (.string (twoT n), h) := by
  refine C_go t_spec_l13Two rfl ?_
  unfold F_spec_l13Two
  have hd := k_spec_Decimal (X := X) (h := h) (n := n) (by omega)
  have hs := decT_size (n := n) (k := 10) (by omega) (by omega)
  have hz : (⟨[48]⟩ : Array UInt8).size + (decT n).size ≤ 9223372036854775807 := by rw [asz]; omega
  by_cases c : n < 10
  · have c1 : (n : Int) < 10 := by omega
    simp only [hd, hz, c1, zero_app, go_sem]
    unfold twoT twoL
    rw [if_pos c]
    rw [decL, if_pos c]
  · have c1 : ¬ (n : Int) < 10 := by omega
    simp only [hd, c1, go_sem]
    unfold twoT twoL
    rw [if_neg c]
    rfl
theorem k_impl_two [LibX X] {n : Nat} (hn : n ≤ 1000000000) : C T X n_impl_two [.int .i64 (n : Int)] h = some (.string (twoT n), h) := by
  refine C_go t_impl_two rfl ?_
  unfold F_impl_two
  have hd := k_impl_Decimal (X := X) (h := h) (n := n) (by omega)
  have hs := decT_size (n := n) (k := 10) (by omega) (by omega)
  have hz : (⟨[48]⟩ : Array UInt8).size + (decT n).size ≤ 9223372036854775807 := by rw [asz]; omega
  by_cases c : n < 10
  · have c1 : (n : Int) < 10 := by omega
    simp only [hd, hz, c1, zero_app, go_sem]
    unfold twoT twoL
    rw [if_pos c]
    rw [decL, if_pos c]
  · have c1 : ¬ (n : Int) < 10 := by omega
    simp only [hd, c1, go_sem]
    unfold twoT twoL
    rw [if_neg c]
    rfl
/-- Two figures, as both read them. -/
def twoV (s : ByteArray) : Value := .tuple ⟨[.int .i64 (((rdTwo s).getD 0 : Nat) : Int), .bool (rdTwo s).isSome]⟩
theorem k_impl_readTwo {s : ByteArray} : C T X n_impl_readTwo [.string s] h = some (twoV s, h) := by
  refine C_go t_impl_readTwo rfl ?_
  unfold F_impl_readTwo
  have no : (¬ (s.size = 2 ∧ (48 ≤ byt s 0 ∧ byt s 0 ≤ 57) ∧ (48 ≤ byt s 1 ∧ byt s 1 ≤ 57))) → twoV s = .tuple ⟨[.int .i64 0, .bool false]⟩ := fun hn => by
    unfold twoV rdTwo
    rw [if_neg hn]
    rfl
  by_cases h2 : (s.size : Int) = 2
  · have e0 : ixV (.string s) (.int .i64 0) = some (.int .u8 (byt s 0 : Nat)) := ix_byt (i := 0) (by omega)
    have e1 : ixV (.string s) (.int .i64 1) = some (.int .u8 (byt s 1 : Nat)) := ix_byt (i := 1) (by omega)
    have b0 := byt_lt (s := s) (i := 0)
    have b1 := byt_lt (s := s) (i := 1)
    by_cases c1 : ((byt s 0 : Nat) : Int) < 48
    · simp only [h2, e0, e1, c1, go_sem]
      exact (no (by omega)).symm
    by_cases c2 : ((byt s 0 : Nat) : Int) > 57
    · simp only [h2, e0, e1, c1, c2, go_sem]
      exact (no (by omega)).symm
    by_cases c3 : ((byt s 1 : Nat) : Int) < 48
    · simp only [h2, e0, e1, c1, c2, c3, go_sem]
      exact (no (by omega)).symm
    by_cases c4 : ((byt s 1 : Nat) : Int) > 57
    · simp only [h2, e0, e1, c1, c2, c3, c4, go_sem]
      exact (no (by omega)).symm
    · have w0 : IntKind.u8.wrap (((byt s 0 : Nat) : Int) - 48) = ((byt s 0 : Nat) : Int) - 48 := wu8 (by omega) (by omega)
      have w1 : IntKind.u8.wrap (((byt s 1 : Nat) : Int) - 48) = ((byt s 1 : Nat) : Int) - 48 := wu8 (by omega) (by omega)
      have w2 : IntKind.i64.wrap (((byt s 0 : Nat) : Int) - 48) = ((byt s 0 : Nat) : Int) - 48 := w64 (by omega) (by omega)
      have w3 : IntKind.i64.wrap (((byt s 1 : Nat) : Int) - 48) = ((byt s 1 : Nat) : Int) - 48 := w64 (by omega) (by omega)
      have w4 : IntKind.i64.wrap ((((byt s 0 : Nat) : Int) - 48) * 10) = (((byt s 0 : Nat) : Int) - 48) * 10 := w64 (by omega) (by omega)
      have w5 : IntKind.i64.wrap ((((byt s 0 : Nat) : Int) - 48) * 10 + (((byt s 1 : Nat) : Int) - 48)) = ((10 * (byt s 0 - 48) + (byt s 1 - 48) : Nat) : Int) := by rw [w64 (by omega) (by omega)]; omega
      simp only [h2, e0, e1, c1, c2, c3, c4, w0, w1, w2, w3, w4, w5, go_sem]
      unfold twoV rdTwo
      rw [if_pos (by omega)]
      rfl
  · simp only [h2, go_sem]
    exact (no (by omega)).symm
theorem k_spec_l13Num {s : ByteArray} : C T X n_spec_l13Num [.string s] h = some (twoV s, h) := by
  refine C_go t_spec_l13Num rfl ?_
  unfold F_spec_l13Num
  have no : (¬ (s.size = 2 ∧ (48 ≤ byt s 0 ∧ byt s 0 ≤ 57) ∧ (48 ≤ byt s 1 ∧ byt s 1 ≤ 57))) → twoV s = .tuple ⟨[.int .i64 0, .bool false]⟩ := fun hn => by
    unfold twoV rdTwo
    rw [if_neg hn]
    rfl
  by_cases h2 : (s.size : Int) = 2
  · have e0 : ixV (.string s) (.int .i64 0) = some (.int .u8 (byt s 0 : Nat)) := ix_byt (i := 0) (by omega)
    have e1 : ixV (.string s) (.int .i64 1) = some (.int .u8 (byt s 1 : Nat)) := ix_byt (i := 1) (by omega)
    have b0 := byt_lt (s := s) (i := 0)
    have b1 := byt_lt (s := s) (i := 1)
    by_cases c1 : ((byt s 0 : Nat) : Int) < 48
    · simp only [h2, e0, e1, c1, go_sem]
      exact (no (by omega)).symm
    by_cases c2 : ((byt s 0 : Nat) : Int) > 57
    · simp only [h2, e0, e1, c1, c2, go_sem]
      exact (no (by omega)).symm
    by_cases c3 : ((byt s 1 : Nat) : Int) < 48
    · simp only [h2, e0, e1, c1, c2, c3, go_sem]
      exact (no (by omega)).symm
    by_cases c4 : ((byt s 1 : Nat) : Int) > 57
    · simp only [h2, e0, e1, c1, c2, c3, c4, go_sem]
      exact (no (by omega)).symm
    · have w0 : IntKind.u8.wrap (((byt s 0 : Nat) : Int) - 48) = ((byt s 0 : Nat) : Int) - 48 := wu8 (by omega) (by omega)
      have w1 : IntKind.u8.wrap (((byt s 1 : Nat) : Int) - 48) = ((byt s 1 : Nat) : Int) - 48 := wu8 (by omega) (by omega)
      have w2 : IntKind.i64.wrap (((byt s 0 : Nat) : Int) - 48) = ((byt s 0 : Nat) : Int) - 48 := w64 (by omega) (by omega)
      have w3 : IntKind.i64.wrap (((byt s 1 : Nat) : Int) - 48) = ((byt s 1 : Nat) : Int) - 48 := w64 (by omega) (by omega)
      have w4 : IntKind.i64.wrap (10 * (((byt s 0 : Nat) : Int) - 48)) = 10 * (((byt s 0 : Nat) : Int) - 48) := w64 (by omega) (by omega)
      have w5 : IntKind.i64.wrap (10 * (((byt s 0 : Nat) : Int) - 48) + (((byt s 1 : Nat) : Int) - 48)) = ((10 * (byt s 0 - 48) + (byt s 1 - 48) : Nat) : Int) := by rw [w64 (by omega) (by omega)]; omega
      simp only [h2, e0, e1, c1, c2, c3, c4, w0, w1, w2, w3, w4, w5, go_sem]
      unfold twoV rdTwo
      rw [if_pos (by omega)]
      rfl
  · simp only [h2, go_sem]
    exact (no (by omega)).symm
/-- What a map holds at a key. -/
def getV (m : List Pr) (k : ByteArray) : Value := .tuple ⟨[.string ((getK m k).getD noT), .bool (getK m k).isSome]⟩
theorem k_impl_get {k : ByteArray} (hm : Rows h 2 mv (prsL m)) (hl : m.length ≤ lim) : C T X n_impl_get [mv, .string k] h = some (getV m k, h) := by
  unfold lim at hl
  refine C_go t_impl_get rfl ?_
  unfold F_impl_get
  simp only [hm.lnm, zeros, fillAt, go_sem]
  refine w_for m.length (fun i t loc h' => h' = h ∧ t 1 = .string k ∧ t 8 = mv ∧ t 9 = .int .i64 m.length ∧ t 10 = .int .i64 i ∧ ∀ j, j < i → ¬ (m.getD j p0).k = k) ⟨rfl, rfl, rfl, rfl, rfl, fun j hj => by omega⟩ ?_
  rintro i t loc h' hi ⟨rfl, t1, t8, t9, t10, hj⟩
  simp only [t9, t10, go_sem]
  refine w_open (by simp only [go_sem]; rfl) ?_ ?_ <;> intro hc
  · have hi1 : i < m.length := by omega
    have hw : IntKind.i64.wrap ((i : Int) + 1) = ((i + 1 : Nat) : Int) := w64 (by omega) (by omega)
    have el := hm.el (f := prR) p0 hi1
    obtain ⟨q, hq⟩ : ∃ q, q = m.getD i p0 := ⟨_, rfl⟩
    rw [← hq] at el
    by_cases c : q.k = k
    · have c' : (q.k.toList == k.toList) = true := by rw [str_eq]; exact decide_eq_true c
      have hg := getK_first hi1 (by rw [← hq]; exact c) hj
      rw [← hq] at hg
      simp only [t1, t8, t9, t10, el.1, el.2.1, el.2.2, prR, c', zeros, fillAt, go_sem]
      unfold getV
      rw [hg]
      rfl
    · have c' : (q.k.toList == k.toList) = false := by rw [str_eq]; exact decide_eq_false c
      simp only [t1, t8, t9, t10, el.1, el.2.1, el.2.2, prR, c', hw, zeros, fillAt, go_sem]
      refine ⟨hi1, fun j hj' => ?_⟩
      by_cases e : j = i
      · rw [e, ← hq]; exact c
      · exact hj j (by omega)
  · have hn : getK m k = none := by
      cases hg : getK m k with
      | none => rfl
      | some v =>
        obtain ⟨j, h1, h2, _⟩ := getK_some hg
        exact absurd h2 (hj j (by omega))
    simp only [go_sem]
    unfold getV
    rw [hn]
    rfl
theorem k_spec_l13Get {k : ByteArray} (hm : Rows h 2 mv (prsL m)) (hl : m.length ≤ lim) : C T X n_spec_l13Get [mv, .string k] h = some (getV m k, h) := by
  unfold lim at hl
  refine C_go t_spec_l13Get rfl ?_
  unfold F_spec_l13Get
  simp only [go_sem]
  refine w_for m.length (fun i t loc h' => h' = h ∧ t 1 = .string k ∧ t 0 = mv ∧ t 6 = .int .i64 i ∧ ∀ j, j < i → ¬ (m.getD j p0).k = k) ⟨rfl, rfl, rfl, rfl, fun j hj => by omega⟩ ?_
  rintro i t loc h' hi ⟨rfl, t1, t0, t6, hj⟩
  simp only [t0, t6, hm.lnm, go_sem]
  refine w_open (by simp only [go_sem]; rfl) ?_ ?_ <;> intro hc
  · have hi1 : i < m.length := by omega
    have hw : IntKind.i64.wrap ((i : Int) + 1) = ((i + 1 : Nat) : Int) := w64 (by omega) (by omega)
    have el := hm.el (f := prR) p0 hi1
    have cl0 := hm.cell (f := prR) p0 hi1 (o := 0) (by omega)
    have cl1 := hm.cell (f := prR) p0 hi1 (o := 1) (by omega)
    obtain ⟨q, hq⟩ : ∃ q, q = m.getD i p0 := ⟨_, rfl⟩
    rw [← hq] at el cl0 cl1
    have k0 : ldC h' (elemP mv 2 i 0) 1 = some [.string q.k] := cl0
    have k1 : ldC h' (elemP mv 2 i 1) 1 = some [.string q.v] := cl1
    by_cases c : q.k = k
    · have c' : (q.k.toList == k.toList) = true := by rw [str_eq]; exact decide_eq_true c
      have hg := getK_first hi1 (by rw [← hq]; exact c) hj
      rw [← hq] at hg
      simp only [t0, t1, t6, el.1, el.2.1, k0, k1, c', go_sem]
      unfold getV
      rw [hg]
      rfl
    · have c' : (q.k.toList == k.toList) = false := by rw [str_eq]; exact decide_eq_false c
      simp only [t0, t1, t6, el.1, el.2.1, k0, k1, c', hw, go_sem]
      refine ⟨hi1, fun j hj' => ?_⟩
      by_cases e : j = i
      · rw [e, ← hq]; exact c
      · exact hj j (by omega)
  · have hn : getK m k = none := by
      cases hg : getK m k with
      | none => rfl
      | some v =>
        obtain ⟨j, h1, h2, _⟩ := getK_some hg
        exact absurd h2 (hj j (by omega))
    simp only [go_sem]
    unfold getV
    rw [hn]
    rfl
end
end Go.Proofs.YtjgacjidaeahdaaGreatDoor.Ab
set_option linter.unusedSimpArgs false
set_option linter.unusedVariables false
set_option linter.unnecessarySimpa false
set_option maxHeartbeats 4000000
namespace Go.Proofs.YtjgacjidaeahdaaGreatDoor.Ab
open Go.RowKit
/-- Whether something is so. -/
noncomputable def tB (p : Prop) : Bool := @decide p (Classical.propDecidable p)
theorem tB_t {p : Prop} (h : p) : tB p = true := by unfold tB; exact @decide_eq_true p (Classical.propDecidable p) h
theorem tB_f {p : Prop} (h : ¬ p) : tB p = false := by unfold tB; exact @decide_eq_false p (Classical.propDecidable p) h
theorem tB_iff {p q : Prop} (h : p ↔ q) : tB p = tB q := by
  by_cases c : p
  · rw [tB_t c, tB_t (h.1 c)]
  · rw [tB_f c, tB_f fun k => c (h.2 k)]
def okAt (m : List Pr) (i : Nat) : Prop := ((1 ≤ (m.getD i p0).k.size ∧ (m.getD i p0).k.size ≤ 8) ∧ (m.getD i p0).v.size ≤ 40) ∧ (0 < i → kLt (m.getD (i - 1) p0).k (m.getD i p0).k)
section
variable {X : CallF} {h : Heap} {m : List Pr} {mv : Value}
theorem k_spec_MapOk (hm : Rows h 2 mv (prsL m)) (hl : m.length ≤ lim) : C T X n_spec_MapOk [mv] h = some (.bool (tB (MapIs m)), h) := by
  unfold lim at hl
  refine C_go t_spec_MapOk rfl ?_
  unfold F_spec_MapOk
  by_cases hn : (m.length : Int) > 120
  · simp only [hm.lnm, hn, go_sem]
    exact (tB_f fun k => by have := k.1; omega).symm
  simp only [hm.lnm, hn, go_sem]
  refine w_for m.length (fun i t loc h' => h' = h ∧ t 0 = mv ∧ t 3 = .int .i64 i ∧ ∀ j, j < i → okAt m j) ⟨rfl, rfl, rfl, fun j hj => by omega⟩ ?_
  rintro i t loc h' hi ⟨rfl, t0, t3, hj⟩
  simp only [t0, t3, hm.lnm, go_sem]
  refine w_open (by simp only [go_sem]; rfl) ?_ ?_ <;> intro hc
  · have hi1 : i < m.length := by omega
    have hw : IntKind.i64.wrap ((i : Int) + 1) = ((i + 1 : Nat) : Int) := w64 (by omega) (by omega)
    have bad : ¬ okAt m i → tB (MapIs m) = false := fun hb => tB_f fun k => hb (k.2 i hi1)
    have el := hm.el (f := prR) p0 hi1
    have cl0 := hm.cell (f := prR) p0 hi1 (o := 0) (by omega)
    have cl1 := hm.cell (f := prR) p0 hi1 (o := 1) (by omega)
    have hok : okAt m i = okAt m i := rfl
    conv at hok => rhs; unfold okAt
    obtain ⟨q, hq⟩ : ∃ q, q = m.getD i p0 := ⟨_, rfl⟩
    rw [← hq] at el cl0 cl1 hok
    have k0 : ldC h' (elemP mv 2 i 0) 1 = some [.string q.k] := cl0
    have k1 : ldC h' (elemP mv 2 i 1) 1 = some [.string q.v] := cl1
    have hin := k_spec_l01In (X := X) (h := h') (n := (q.k.size : Int)) (lo := 1) (hi := 8)
    by_cases c1 : (1 : Int) ≤ q.k.size
    rotate_left
    · simp only [t0, t3, el.1, el.2.1, k0, k1, hin, c1, go_sem]
      exact (bad (by rw [hok]; omega)).symm
    by_cases c2 : (q.k.size : Int) ≤ 8
    rotate_left
    · simp only [t0, t3, el.1, el.2.1, k0, k1, hin, c1, c2, go_sem]
      exact (bad (by rw [hok]; omega)).symm
    by_cases c3 : (q.v.size : Int) > 40
    · simp only [t0, t3, el.1, el.2.1, k0, k1, hin, c1, c2, c3, go_sem]
      exact (bad (by rw [hok]; omega)).symm
    by_cases c4 : (i : Int) > 0
    rotate_left
    · simp only [t0, t3, el.1, el.2.1, k0, k1, hin, c1, c2, c3, c4, hw, go_sem]
      refine ⟨hi1, fun j hj' => ?_⟩
      by_cases e : j = i
      · rw [e, hok]; exact ⟨by omega, fun hp => by omega⟩
      · exact hj j (by omega)
    have elp := hm.el (f := prR) p0 (i := i - 1) (by omega)
    have clp := hm.cell (f := prR) p0 (i := i - 1) (o := 0) (by omega) (by omega)
    obtain ⟨q', hq'⟩ : ∃ q', q' = m.getD (i - 1) p0 := ⟨_, rfl⟩
    rw [← hq'] at elp clp hok
    have kp : ldC h' (elemP mv 2 (i - 1) 0) 1 = some [.string q'.k] := clp
    have hw' : IntKind.i64.wrap ((i : Int) - 1) = ((i - 1 : Nat) : Int) := by rw [w64 (by omega) (by omega)]; omega
    cases c5 : Op.bytesLess q'.k.toList q.k.toList with
    | true =>
      simp only [t0, t3, el.1, el.2.1, elp.1, elp.2.1, k0, k1, kp, hin, c1, c2, c3, c4, c5, hw, hw', go_sem]
      refine ⟨hi1, fun j hj' => ?_⟩
      by_cases e : j = i
      · rw [e, hok]; exact ⟨by omega, fun hp => c5⟩
      · exact hj j (by omega)
    | false =>
      simp only [t0, t3, el.1, el.2.1, elp.1, elp.2.1, k0, k1, kp, hin, c1, c2, c3, c4, c5, hw', go_sem]
      refine (bad ?_).symm
      rw [hok]
      intro k
      have := k.2 (by omega)
      unfold kLt at this
      rw [c5] at this
      cases this
  · simp only [go_sem]
    exact (tB_t ⟨by omega, fun j hj' => hj j (by omega)⟩).symm
theorem k_impl_MapOk (hm : Rows h 2 mv (prsL m)) (hl : m.length ≤ lim) : C T X n_impl_MapOk [mv] h = some (.bool (tB (MapIs m)), h) := by
  unfold lim at hl
  refine C_go t_impl_MapOk rfl ?_
  unfold F_impl_MapOk
  simp only [hm.lnm, zeros, fillAt, go_sem]
  refine w_for m.length (fun i t loc h' => h' = h ∧ t 0 = mv ∧ t 5 = mv ∧ t 6 = .int .i64 m.length ∧ t 7 = .int .i64 i ∧ ∀ j, j < i → okAt m j) ⟨rfl, rfl, rfl, rfl, rfl, fun j hj => by omega⟩ ?_
  rintro i t loc h' hi ⟨rfl, t0, t5, t6, t7, hj⟩
  simp only [t6, t7, go_sem]
  refine w_open (by simp only [go_sem]; rfl) ?_ ?_ <;> intro hc
  · have hi1 : i < m.length := by omega
    have hw : IntKind.i64.wrap ((i : Int) + 1) = ((i + 1 : Nat) : Int) := w64 (by omega) (by omega)
    have bad : ¬ okAt m i → tB (MapIs m) = false := fun hb => tB_f fun k => hb (k.2 i hi1)
    have el := hm.el (f := prR) p0 hi1
    have hok : okAt m i = okAt m i := rfl
    conv at hok => rhs; unfold okAt
    obtain ⟨q, hq⟩ : ∃ q, q = m.getD i p0 := ⟨_, rfl⟩
    rw [← hq] at el hok
    have hin := k_impl_in (X := X) (h := h') (n := (q.k.size : Int)) (lo := 1) (hi := 8)
    by_cases c1 : (1 : Int) ≤ q.k.size
    rotate_left
    · simp only [t0, t5, t6, t7, el.1, el.2.1, el.2.2, prR, zeros, fillAt, hin, c1, go_sem]
      exact (bad (by rw [hok]; omega)).symm
    by_cases c2 : (q.k.size : Int) ≤ 8
    rotate_left
    · simp only [t0, t5, t6, t7, el.1, el.2.1, el.2.2, prR, zeros, fillAt, hin, c1, c2, go_sem]
      exact (bad (by rw [hok]; omega)).symm
    by_cases c3 : (q.v.size : Int) > 40
    · simp only [t0, t5, t6, t7, el.1, el.2.1, el.2.2, prR, zeros, fillAt, hin, c1, c2, c3, go_sem]
      exact (bad (by rw [hok]; omega)).symm
    by_cases c4 : (i : Int) > 0
    rotate_left
    · simp only [t0, t5, t6, t7, el.1, el.2.1, el.2.2, prR, zeros, fillAt, hin, c1, c2, c3, c4, hw, go_sem]
      refine ⟨hi1, fun j hj' => ?_⟩
      by_cases e : j = i
      · rw [e, hok]; exact ⟨by omega, fun hp => by omega⟩
      · exact hj j (by omega)
    have elp := hm.el (f := prR) p0 (i := i - 1) (by omega)
    have clp := hm.cell (f := prR) p0 (i := i - 1) (o := 0) (by omega) (by omega)
    obtain ⟨q', hq'⟩ : ∃ q', q' = m.getD (i - 1) p0 := ⟨_, rfl⟩
    rw [← hq'] at elp clp hok
    have kp : ldC h' (elemP mv 2 (i - 1) 0) 1 = some [.string q'.k] := clp
    have hw' : IntKind.i64.wrap ((i : Int) - 1) = ((i - 1 : Nat) : Int) := by rw [w64 (by omega) (by omega)]; omega
    cases c5 : Op.bytesLess q'.k.toList q.k.toList with
    | true =>
      simp only [t0, t5, t6, t7, el.1, el.2.1, el.2.2, elp.1, elp.2.1, kp, prR, zeros, fillAt, hin, c1, c2, c3, c4, c5, hw, hw', go_sem]
      refine ⟨hi1, fun j hj' => ?_⟩
      by_cases e : j = i
      · rw [e, hok]; exact ⟨by omega, fun hp => c5⟩
      · exact hj j (by omega)
    | false =>
      simp only [t0, t5, t6, t7, el.1, el.2.1, el.2.2, elp.1, elp.2.1, kp, prR, zeros, fillAt, hin, c1, c2, c3, c4, c5, hw', go_sem]
      refine (bad ?_).symm
      rw [hok]
      intro k
      have := k.2 (by omega)
      unfold kLt at this
      rw [c5] at this
      cases this
  · simp only [t0, hm.lnm, go_sem]
    by_cases c : (m.length : Int) ≤ 120
    · rw [tB_t ⟨by omega, fun j hj' => hj j (by omega)⟩]; simp [c]
    · rw [tB_f fun k => by have := k.1; omega]; simp [c]
theorem k_impl_roundsOf [LibX X] {R : Nat} (hm : Rows h 2 mv (prsL m)) (hl : m.length ≤ lim) (hR : IsRnd m R) : C T X n_impl_roundsOf [mv] h = some (.int .i64 ((min R 7 : Nat) : Int), h) := by
  refine C_go t_impl_roundsOf rfl ?_
  unfold F_impl_roundsOf
  simp only [go_sem]
  refine w_for 8 (fun i t loc h' => h' = h ∧ t 0 = mv ∧ t 3 = .int .i64 i ∧ i ≤ R ∧ i ≤ 7) ⟨rfl, rfl, rfl, Nat.zero_le _, by omega⟩ ?_
  rintro i t loc h' hi ⟨rfl, t0, t3, hj, hj7⟩
  simp only [t0, t3, go_sem]
  refine w_open (by simp only [go_sem]; rfl) ?_ ?_ <;> intro hc
  · have hw : IntKind.i64.wrap ((i : Int) + 1) = ((i + 1 : Nat) : Int) := w64 (by omega) (by omega)
    have hg := k_impl_get (X := X) (k := qK i) hm hl
    have h2 := k_impl_two (X := X) (h := h') (n := i) (by omega)
    have hz := twoT_size (n := i) (by omega)
    have hz1 : (⟨[113]⟩ : Array UInt8).size + (twoT i).size ≤ 9223372036854775807 := by rw [asz]; omega
    unfold getV at hg
    by_cases c : i = R
    · have e : (getK m (qK i)).isSome = false := by rw [c, hR.2]; rfl
      simp only [t0, t3, h2, qK_app, hz1, hg, e, go_sem]
      rw [show min R 7 = i by omega]
    · have e : (getK m (qK i)).isSome = true := hR.1 i (by omega)
      simp only [t0, t3, h2, qK_app, hz1, hg, e, hw, go_sem]
      omega
  · simp only [t3, go_sem]
    rw [show min R 7 = i by omega]
theorem k_spec_l13Rounds {R : Nat} (hm : Rows h 2 mv (prsL m)) (hl : m.length ≤ 1048576) (hR : IsRnd m R) : C T X n_spec_l13Rounds [mv] h = some (.int .i64 (R : Int), h) := by
  have hle := rounds_le hR.1
  have hll : m.length ≤ lim := by unfold lim; omega
  refine C_go t_spec_l13Rounds rfl ?_
  unfold F_spec_l13Rounds
  have hz0 := twoT_size (n := 0) (by omega)
  have hz1 : (⟨[113]⟩ : Array UInt8).size + (twoT 0).size ≤ 9223372036854775807 := by rw [asz]; omega
  have h20 : C T X n_spec_l13Two [.int .i64 0] h = some (.string (twoT 0), h) := k_spec_l13Two (X := X) (h := h) (n := 0) (by omega)
  have hg0 := k_spec_l13Get (X := X) (k := qK 0) hm hll
  unfold getV at hg0
  simp only [h20, qK_app, hz1, hg0, go_sem]
  refine w_for R (fun i t loc h' => h' = h ∧ t 0 = mv ∧ t 3 = .int .i64 i ∧ t 5 = .bool (getK m (qK i)).isSome ∧ i ≤ R) ⟨rfl, rfl, rfl, rfl, Nat.zero_le _⟩ ?_
  rintro i t loc h' hi ⟨rfl, t0, t3, t5, hj⟩
  by_cases c : i = R
  · have e : (getK m (qK i)).isSome = false := by rw [c, hR.2]; rfl
    simp only [t0, t3, t5, e, go_sem]
    rw [c]
  · have e : (getK m (qK i)).isSome = true := hR.1 i (by omega)
    have hw : IntKind.i64.wrap ((i : Int) + 1) = ((i + 1 : Nat) : Int) := w64 (by omega) (by omega)
    have hg := k_spec_l13Get (X := X) (k := qK (i + 1)) hm hll
    have h2 := k_spec_l13Two (X := X) (h := h') (n := i + 1) (by omega)
    have hz := twoT_size (n := i + 1) (by omega)
    have hz1 : (⟨[113]⟩ : Array UInt8).size + (twoT (i + 1)).size ≤ 9223372036854775807 := by rw [asz]; omega
    unfold getV at hg
    simp only [t0, t3, t5, e, hw, h2, qK_app, hz1, hg, go_sem]
    omega
theorem k_impl_joined [LibX X] {i : Nat} (hi : i ≤ 1000000000) (hm : Rows h 2 mv (prsL m)) (hl : m.length ≤ lim) : C T X n_impl_joined [mv, .int .i64 (i : Int)] h = some (.bool (tB (Jn m i)), h) := by
  refine C_go t_impl_joined rfl ?_
  unfold F_impl_joined
  have hg := k_impl_get (X := X) (k := vK i) hm hl
  have h2 := k_impl_two (X := X) (h := h) (n := i) (by omega)
  have hz := twoT_size (n := i) (by omega)
  have hz1 : (⟨[118]⟩ : Array UInt8).size + (twoT i).size ≤ 9223372036854775807 := by rw [asz]; omega
  have hin := k_impl_in (X := X) (h := h) (n := (i : Int)) (lo := 0) (hi := 11)
  unfold getV at hg
  have c1 : (0 : Int) ≤ i := by omega
  cases e : (getK m (vK i)).isSome with
  | false =>
    simp only [h2, vK_app, hz1, hg, e, hin, go_sem]
    exact (tB_f fun k => by have := k.2; rw [e] at this; cases this).symm
  | true =>
    by_cases c2 : (i : Int) ≤ 11
    · simp only [h2, vK_app, hz1, hg, e, hin, c1, c2, go_sem]
      exact (tB_t ⟨by omega, e⟩).symm
    · simp only [h2, vK_app, hz1, hg, e, hin, c1, c2, go_sem]
      exact (tB_f fun k => by have := k.1; omega).symm
end
end Go.Proofs.YtjgacjidaeahdaaGreatDoor.Ab
