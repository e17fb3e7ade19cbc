/- Joined: H0, K0, K3, H1, H5, H10, R6, R7, H6, K4, K5, K10. No conditions. -/
import Derived.Test.YtjgacjidaeahdaaGreatDoorFT
import Derived.Test.YtjgacjidaeahdaaGreatDoorM4
import Derived.Test.YtjgacjidaeahdaaGreatDoorFN
set_option linter.unusedSimpArgs false
set_option linter.unusedVariables false
set_option linter.unnecessarySimpa false
set_option maxHeartbeats 4000000
namespace Go.Proofs.YtjgacjidaeahdaaGreatDoor.Ab
open Go.RowKit
section
variable {X : CallF} {h : Heap}
theorem k_markText {k : Nat} (hk : k ≤ 4611686018427387904) : C T X n_laws_markText [.int .i64 (k : Int)] h = some (.string (mkT k), h) := by
  refine C_go t_laws_markText rfl ?_
  unfold F_laws_markText
  simp only [go_sem]
  refine w_open (by simp only [go_sem]; rfl) ?_ ?_ <;> intro hc
  · have : k = 0 := by omega
    subst this
    simp only [go_sem]
    rfl
  simp only [go_sem]
  refine w_meas k (fun m t loc h' => h' = h ∧ ∃ s : ByteArray, t 0 = .int .i64 (m : Nat) ∧ t 3 = .string s ∧ m ≤ k ∧ mkD m s = mkD k noT ∧ (∃ c, m < 10 ^ c ∧ s.size + c ≤ 19)) ⟨rfl, noT, rfl, rfl, Nat.le_refl _, rfl, 19, by omega, by decide⟩ ?_
  rintro m t loc h' ⟨rfl, s, t0, t3, hm, hd, c, hc1, hc2⟩
  simp only [t0, t3, go_sem]
  refine w_open (by simp only [t0, t3, go_sem]; rfl) ?_ ?_ <;> intro hc'
  · have e : IntKind.u8.wrap (IntKind.i64.wrap (48 + ((m % 10 : Nat) : Int))) = ((48 + m % 10 : Nat) : Int) := by rw [w64 (by omega) (by omega), wu8 (by omega) (by omega)]; omega
    have hq : IntKind.i64.wrap ((m / 10 : Nat) : Int) = ((m / 10 : Nat) : Int) := w64 (by omega) (by omega)
    have hr : ((m : Int).tmod 10) = ((m % 10 : Nat) : Int) := rfl
    have hv : ((m : Int).tdiv 10) = ((m / 10 : Nat) : Int) := rfl
    have hcp : 0 < c := by
      cases c with
      | zero => simp at hc1; omega
      | succ c => omega
    have hsz : (strOfNums [((48 + m % 10 : Nat) : Int)]).size + s.size ≤ 9223372036854775807 := by rw [strOfNums_size]; simp only [List.length_cons, List.length_nil]; omega
    simp only [t0, t3, hr, hv, e, hq, strLV, ints8, isInt8, Option.map_some, hsz, go_sem]
    refine ⟨m / 10, by omega, _, rfl, rfl, by omega, ?_, c - 1, ?_, ?_⟩
    · rw [← hd, mkD_pos (n := m) (by omega)]
    · have : 10 ^ c = 10 ^ (c - 1) * 10 := by rw [← Nat.pow_succ]; congr 1; omega
      omega
    · rw [ByteArray.size_append, strOfNums_size]; simp only [List.length_cons, List.length_nil]; omega
  · have : m = 0 := by omega
    subst this
    have hs : s = mkD k noT := by rw [← hd, mkD_zero]
    have hsz : mByte.size + s.size ≤ 9223372036854775807 := by
      have : mByte.size = 1 := rfl
      omega
    simp only [t3, show (⟨⟨[109]⟩⟩ : ByteArray) = mByte from rfl, hsz, go_sem]
    unfold mkT
    rw [if_neg (by omega), hs]
end
section
variable {X : CallF} {h : Heap} {a b : Value} {l : List E} {rws : List (List Value)} {k : Nat}
theorem k_eqEdge {l : E} : C T X n_laws_eqEdge [.agg ⟨edgeR l⟩, .agg ⟨edgeR l⟩] h = some (.bool true, h) := by
  refine C_go t_laws_eqEdge rfl ?_
  unfold F_laws_eqEdge edgeR
  simp only [BEq.rfl, go_sem]
  try rfl
theorem k_eqEdgeS (ha : Rows h 5 a (edges l)) (hb : Rows h 5 b (edges l)) (hl : l.length ≤ lim) : C T X n_laws_eqEdgeS [a, b] h = some (.bool true, h) := by
  unfold lim at hl
  refine C_go t_laws_eqEdgeS rfl ?_
  unfold F_laws_eqEdgeS
  simp only [Rows.lnm (f := edgeR) ha, Rows.lnm (f := edgeR) hb, go_sem]
  refine w_for l.length (fun i t loc h' => h' = h ∧ t 0 = a ∧ t 1 = b ∧ t 5 = .int .i64 i) ⟨rfl, rfl, rfl, rfl⟩ ?_
  rintro i t loc h' hi ⟨rfl, t0, t1, t5⟩
  simp only [t0, t5, Rows.lnm (f := edgeR) ha, go_sem]
  refine w_open (by simp only [go_sem]; rfl) ?_ ?_ <;> intro hc
  · have hi1 : i < l.length := by omega
    have hw : IntKind.i64.wrap ((i : Int) + 1) = ((i + 1 : Nat) : Int) := w64 (by omega) (by omega)
    have hel := ha.el (f := edgeR) e0 hi1
    have hel2 := hb.el (f := edgeR) e0 hi1
    have hl2 : ofCells true (edgeR (l.getD i e0)) = some (.agg ⟨edgeR (l.getD i e0)⟩) := rfl
    skip
    simp only [t0, t1, t5, hel.1, hel.2.2, hel2.1, hel2.2.2, k_eqEdge, hw, hl2, Option.bind_some, BEq.rfl, List.prefix_refl, go_sem]
    exact hi1
  · simp only [go_sem]
def mkEdge (k : Nat) : List Value := [.int .i64 ((k + 0 : Nat) : Int), .int .i64 ((k + 1 : Nat) : Int), .int .i64 ((k + 2 : Nat) : Int), .int .i64 ((k + 3 : Nat) : Int), .int .i64 ((k + 4 : Nat) : Int)]
theorem k_markEdgeS {lo hi : Nat} (o : Own h lo hi 5 y_Edge a rws) (hl : rws.length ≤ lim) {k : Nat} (hk : k ≤ 2305843009213693952) : ∃ h', C T X n_laws_markEdgeS [a, .int .i64 (k : Int)] h = some (.int .i64 ((k + rws.length * 5 : Nat) : Int), h') ∧ Same lo hi h h' ∧ Own h' lo hi 5 y_Edge a (mkRows mkEdge k 5 rws.length) := by
  unfold lim at hl
  refine C_exH t_laws_markEdgeS rfl ?_
  unfold F_laws_markEdgeS
  simp only [go_sem]
  refine w_for rws.length (fun i t loc h' => t 0 = a ∧ t 1 = .int .i64 ((k + i * 5 : Nat) : Int) ∧ t 5 = .int .i64 i ∧ Same lo hi h h' ∧ ∃ R, R.length = rws.length ∧ (∀ j, j < i → R[j]? = some (mkEdge (k + j * 5))) ∧ Own h' lo hi 5 y_Edge a R) ⟨rfl, by simp [upd], rfl, Same.refl, rws, rfl, fun j hj => by omega, o⟩ ?_
  rintro i t loc h0 hi ⟨t0, t1, t5, hs, R, hR, hj, o0⟩
  simp only [t0, t5, o0.ln, hR, go_sem]
  refine w_open (by simp only [go_sem]; rfl) ?_ ?_ <;> intro hc
  · have hi1 : i < rws.length := by omega
    have hi2 : i < R.length := by omega
    have hw : IntKind.i64.wrap ((i : Int) + 1) = ((i + 1 : Nat) : Int) := w64 (by omega) (by omega)
    have w0 : IntKind.i64.wrap (((k + i * 5 : Nat) : Int) + 1) = ((k + i * 5 + 1 : Nat) : Int) := w64 (by omega) (by omega)
    have w1 : IntKind.i64.wrap (((k + i * 5 + 1 : Nat) : Int) + 1) = ((k + i * 5 + 2 : Nat) : Int) := w64 (by omega) (by omega)
    have w2 : IntKind.i64.wrap (((k + i * 5 + 2 : Nat) : Int) + 1) = ((k + i * 5 + 3 : Nat) : Int) := w64 (by omega) (by omega)
    have w3 : IntKind.i64.wrap (((k + i * 5 + 3 : Nat) : Int) + 1) = ((k + i * 5 + 4 : Nat) : Int) := w64 (by omega) (by omega)
    have w4 : IntKind.i64.wrap (((k + i * 5 + 4 : Nat) : Int) + 1) = ((k + i * 5 + 5 : Nat) : Int) := w64 (by omega) (by omega)
    have q0 := o0.self hi2
    obtain ⟨r, hr⟩ : ∃ r, R[i] = r := ⟨_, rfl⟩
    have hrl := o0.row_len hi2
    rw [hr] at q0 hrl
    obtain ⟨r0, r1, r2, r3, r4, rfl⟩ : ∃ r0 r1 r2 r3 r4, r = [r0, r1, r2, r3, r4] := by
      match r, hrl with
      | [r0, r1, r2, r3, r4], _ => exact ⟨r0, r1, r2, r3, r4, rfl⟩
    have el0 := q0.el (i := i) (by simpa using hi2)
    obtain ⟨h1, e0, s0, q1⟩ := q0.st2 hi2 (k := 0) (vs := [.int .i64 ((k + i * 5 : Nat) : Int)]) (by simp)
    simp only [putAt, List.take_zero, List.take_succ_cons, List.drop_zero, List.drop_succ_cons, List.nil_append, List.cons_append, List.length_cons, List.length_nil, Nat.zero_add, List.append_nil, List.drop_nil, Nat.reduceAdd] at q1
    have el1 := q1.el (i := i) (by simpa using hi2)
    obtain ⟨h2, e1, s1, q2⟩ := q1.st2 hi2 (k := 1) (vs := [.int .i64 ((k + i * 5 + 1 : Nat) : Int)]) (by simp)
    simp only [putAt, List.take_zero, List.take_succ_cons, List.drop_zero, List.drop_succ_cons, List.nil_append, List.cons_append, List.length_cons, List.length_nil, Nat.zero_add, List.append_nil, List.drop_nil, Nat.reduceAdd] at q2
    have el2 := q2.el (i := i) (by simpa using hi2)
    obtain ⟨h3, e2, s2, q3⟩ := q2.st2 hi2 (k := 2) (vs := [.int .i64 ((k + i * 5 + 2 : Nat) : Int)]) (by simp)
    simp only [putAt, List.take_zero, List.take_succ_cons, List.drop_zero, List.drop_succ_cons, List.nil_append, List.cons_append, List.length_cons, List.length_nil, Nat.zero_add, List.append_nil, List.drop_nil, Nat.reduceAdd] at q3
    have el3 := q3.el (i := i) (by simpa using hi2)
    obtain ⟨h4, e3, s3, q4⟩ := q3.st2 hi2 (k := 3) (vs := [.int .i64 ((k + i * 5 + 3 : Nat) : Int)]) (by simp)
    simp only [putAt, List.take_zero, List.take_succ_cons, List.drop_zero, List.drop_succ_cons, List.nil_append, List.cons_append, List.length_cons, List.length_nil, Nat.zero_add, List.append_nil, List.drop_nil, Nat.reduceAdd] at q4
    have el4 := q4.el (i := i) (by simpa using hi2)
    obtain ⟨h5, e4, s4, q5⟩ := q4.st2 hi2 (k := 4) (vs := [.int .i64 ((k + i * 5 + 4 : Nat) : Int)]) (by simp)
    simp only [putAt, List.take_zero, List.take_succ_cons, List.drop_zero, List.drop_succ_cons, List.nil_append, List.cons_append, List.length_cons, List.length_nil, Nat.zero_add, List.append_nil, List.drop_nil, Nat.reduceAdd] at q5
    (try simp only [Nat.add_zero, Nat.zero_add] at w0 e0 el0)
    simp only [t0, t1, t5, hw, el0.1, el0.2, e0, w0, el1.1, el1.2, e1, w1, el2.1, el2.2, e2, w2, el3.1, el3.2, e3, w3, el4.1, el4.2, e4, w4, Nat.add_zero, Nat.zero_add, go_sem]
    have hs' := (((((hs.trans s0).trans s1).trans s2).trans s3).trans s4)
    refine ⟨hi1, by first | omega | (congr 2; omega), hs', _, by simpa using hR, fun j hj2 => ?_, q5⟩
    by_cases e : j = i
    · subst e; rw [List.getElem?_set_self hi2]; rfl
    · rw [List.getElem?_set_ne (by omega)]; exact hj j (by omega)
  · have hil : i = rws.length := by omega
    subst hil
    have hRe : R = mkRows mkEdge k 5 rws.length := rows_eq (by rw [hR, mkRows_len]) fun j hj2 => by rw [hj j (by omega), mkRows_get (by omega)]
    subst hRe
    simp only [t1, finish_room hs.len, go_sem]
    exact ⟨hs, o0⟩
theorem k_heldEdgeS {n : Nat} (ha : Rows h 5 a (mkRows mkEdge k 5 n)) (hl : n ≤ lim) (hk : k ≤ 2305843009213693952) : C T X n_laws_heldEdgeS [a, .int .i64 (k : Int)] h = some (.int .i64 ((k + n * 5 : Nat) : Int), h) := by
  unfold lim at hl
  refine C_go t_laws_heldEdgeS rfl ?_
  unfold F_laws_heldEdgeS
  have hln : lnV h a = some (.int .i64 n) := by rw [ha.ln, mkRows_len]
  simp only [go_sem]
  refine w_for n (fun i t loc h' => h' = h ∧ t 0 = a ∧ t 1 = .int .i64 ((k + i * 5 : Nat) : Int) ∧ t 5 = .int .i64 i) ⟨rfl, rfl, by simp [upd], rfl⟩ ?_
  rintro i t loc h' hi ⟨rfl, t0, t1, t5⟩
  simp only [t0, t5, hln, go_sem]
  refine w_open (by simp only [go_sem]; rfl) ?_ ?_ <;> intro hc
  · have hi1 : i < n := by omega
    have hw : IntKind.i64.wrap ((i : Int) + 1) = ((i + 1 : Nat) : Int) := w64 (by omega) (by omega)
    have hi3 : i < (List.range n).length := by simpa using hi1
    have w0 : IntKind.i64.wrap (((k + i * 5 : Nat) : Int) + 1) = ((k + i * 5 + 1 : Nat) : Int) := w64 (by omega) (by omega)
    have w1 : IntKind.i64.wrap (((k + i * 5 + 1 : Nat) : Int) + 1) = ((k + i * 5 + 2 : Nat) : Int) := w64 (by omega) (by omega)
    have w2 : IntKind.i64.wrap (((k + i * 5 + 2 : Nat) : Int) + 1) = ((k + i * 5 + 3 : Nat) : Int) := w64 (by omega) (by omega)
    have w3 : IntKind.i64.wrap (((k + i * 5 + 3 : Nat) : Int) + 1) = ((k + i * 5 + 4 : Nat) : Int) := w64 (by omega) (by omega)
    have w4 : IntKind.i64.wrap (((k + i * 5 + 4 : Nat) : Int) + 1) = ((k + i * 5 + 5 : Nat) : Int) := w64 (by omega) (by omega)
    have hel := ha.el (f := fun i => mkEdge (k + i * 5)) 0 hi3
    have c0 := ha.cell (f := fun i => mkEdge (k + i * 5)) 0 hi3 (o := 0) (by omega)
    rw [range_getD hi1] at c0
    simp only [mkEdge, List.getD_cons_zero, List.getD_cons_succ] at c0
    have c1 := ha.cell (f := fun i => mkEdge (k + i * 5)) 0 hi3 (o := 1) (by omega)
    rw [range_getD hi1] at c1
    simp only [mkEdge, List.getD_cons_zero, List.getD_cons_succ] at c1
    have c2 := ha.cell (f := fun i => mkEdge (k + i * 5)) 0 hi3 (o := 2) (by omega)
    rw [range_getD hi1] at c2
    simp only [mkEdge, List.getD_cons_zero, List.getD_cons_succ] at c2
    have c3 := ha.cell (f := fun i => mkEdge (k + i * 5)) 0 hi3 (o := 3) (by omega)
    rw [range_getD hi1] at c3
    simp only [mkEdge, List.getD_cons_zero, List.getD_cons_succ] at c3
    have c4 := ha.cell (f := fun i => mkEdge (k + i * 5)) 0 hi3 (o := 4) (by omega)
    rw [range_getD hi1] at c4
    simp only [mkEdge, List.getD_cons_zero, List.getD_cons_succ] at c4
    simp only [Nat.add_zero, Nat.zero_add] at w0 c0
    simp only [t0, t1, t5, hw, hel.1, hel.2.1, c0, w0, c1, w1, c2, w2, c3, w3, c4, w4, Nat.add_zero, Nat.zero_add, BEq.rfl, List.prefix_refl, go_sem]
    exact ⟨hi1, by first | omega | (congr 2; omega)⟩
  · have hil : i = n := by omega
    subst hil
    simp only [t1, go_sem]
end
section
variable {X : CallF} {h : Heap} {a b : Value} {l : List Cp} {rws : List (List Value)} {k : Nat}
theorem k_eqCouple {l : Cp} : C T X n_laws_eqCouple [.agg ⟨cpR l⟩, .agg ⟨cpR l⟩] h = some (.bool true, h) := by
  refine C_go t_laws_eqCouple rfl ?_
  unfold F_laws_eqCouple cpR
  simp only [BEq.rfl, go_sem]
  try rfl
theorem k_eqCoupleS (ha : Rows h 2 a (cps l)) (hb : Rows h 2 b (cps l)) (hl : l.length ≤ lim) : C T X n_laws_eqCoupleS [a, b] h = some (.bool true, h) := by
  unfold lim at hl
  refine C_go t_laws_eqCoupleS rfl ?_
  unfold F_laws_eqCoupleS
  simp only [Rows.lnm (f := cpR) ha, Rows.lnm (f := cpR) hb, go_sem]
  refine w_for l.length (fun i t loc h' => h' = h ∧ t 0 = a ∧ t 1 = b ∧ t 5 = .int .i64 i) ⟨rfl, rfl, rfl, rfl⟩ ?_
  rintro i t loc h' hi ⟨rfl, t0, t1, t5⟩
  simp only [t0, t5, Rows.lnm (f := cpR) ha, go_sem]
  refine w_open (by simp only [go_sem]; rfl) ?_ ?_ <;> intro hc
  · have hi1 : i < l.length := by omega
    have hw : IntKind.i64.wrap ((i : Int) + 1) = ((i + 1 : Nat) : Int) := w64 (by omega) (by omega)
    have hel := ha.el (f := cpR) c0 hi1
    have hel2 := hb.el (f := cpR) c0 hi1
    have hl2 : ofCells true (cpR (l.getD i c0)) = some (.agg ⟨cpR (l.getD i c0)⟩) := rfl
    skip
    simp only [t0, t1, t5, hel.1, hel.2.2, hel2.1, hel2.2.2, k_eqCouple, hw, hl2, Option.bind_some, BEq.rfl, List.prefix_refl, go_sem]
    exact hi1
  · simp only [go_sem]
def mkCouple (k : Nat) : List Value := [.int .i64 ((k + 0 : Nat) : Int), .int .i64 ((k + 1 : Nat) : Int)]
theorem k_markCoupleS {lo hi : Nat} (o : Own h lo hi 2 y_Couple a rws) (hl : rws.length ≤ lim) {k : Nat} (hk : k ≤ 2305843009213693952) : ∃ h', C T X n_laws_markCoupleS [a, .int .i64 (k : Int)] h = some (.int .i64 ((k + rws.length * 2 : Nat) : Int), h') ∧ Same lo hi h h' ∧ Own h' lo hi 2 y_Couple a (mkRows mkCouple k 2 rws.length) := by
  unfold lim at hl
  refine C_exH t_laws_markCoupleS rfl ?_
  unfold F_laws_markCoupleS
  simp only [go_sem]
  refine w_for rws.length (fun i t loc h' => t 0 = a ∧ t 1 = .int .i64 ((k + i * 2 : Nat) : Int) ∧ t 5 = .int .i64 i ∧ Same lo hi h h' ∧ ∃ R, R.length = rws.length ∧ (∀ j, j < i → R[j]? = some (mkCouple (k + j * 2))) ∧ Own h' lo hi 2 y_Couple a R) ⟨rfl, by simp [upd], rfl, Same.refl, rws, rfl, fun j hj => by omega, o⟩ ?_
  rintro i t loc h0 hi ⟨t0, t1, t5, hs, R, hR, hj, o0⟩
  simp only [t0, t5, o0.ln, hR, go_sem]
  refine w_open (by simp only [go_sem]; rfl) ?_ ?_ <;> intro hc
  · have hi1 : i < rws.length := by omega
    have hi2 : i < R.length := by omega
    have hw : IntKind.i64.wrap ((i : Int) + 1) = ((i + 1 : Nat) : Int) := w64 (by omega) (by omega)
    have w0 : IntKind.i64.wrap (((k + i * 2 : Nat) : Int) + 1) = ((k + i * 2 + 1 : Nat) : Int) := w64 (by omega) (by omega)
    have w1 : IntKind.i64.wrap (((k + i * 2 + 1 : Nat) : Int) + 1) = ((k + i * 2 + 2 : Nat) : Int) := w64 (by omega) (by omega)
    have q0 := o0.self hi2
    obtain ⟨r, hr⟩ : ∃ r, R[i] = r := ⟨_, rfl⟩
    have hrl := o0.row_len hi2
    rw [hr] at q0 hrl
    obtain ⟨r0, r1, rfl⟩ : ∃ r0 r1, r = [r0, r1] := by
      match r, hrl with
      | [r0, r1], _ => exact ⟨r0, r1, rfl⟩
    have el0 := q0.el (i := i) (by simpa using hi2)
    obtain ⟨h1, e0, s0, q1⟩ := q0.st2 hi2 (k := 0) (vs := [.int .i64 ((k + i * 2 : Nat) : Int)]) (by simp)
    simp only [putAt, List.take_zero, List.take_succ_cons, List.drop_zero, List.drop_succ_cons, List.nil_append, List.cons_append, List.length_cons, List.length_nil, Nat.zero_add, List.append_nil, List.drop_nil, Nat.reduceAdd] at q1
    have el1 := q1.el (i := i) (by simpa using hi2)
    obtain ⟨h2, e1, s1, q2⟩ := q1.st2 hi2 (k := 1) (vs := [.int .i64 ((k + i * 2 + 1 : Nat) : Int)]) (by simp)
    simp only [putAt, List.take_zero, List.take_succ_cons, List.drop_zero, List.drop_succ_cons, List.nil_append, List.cons_append, List.length_cons, List.length_nil, Nat.zero_add, List.append_nil, List.drop_nil, Nat.reduceAdd] at q2
    (try simp only [Nat.add_zero, Nat.zero_add] at w0 e0 el0)
    simp only [t0, t1, t5, hw, el0.1, el0.2, e0, w0, el1.1, el1.2, e1, w1, Nat.add_zero, Nat.zero_add, go_sem]
    have hs' := ((hs.trans s0).trans s1)
    refine ⟨hi1, by first | omega | (congr 2; omega), hs', _, by simpa using hR, fun j hj2 => ?_, q2⟩
    by_cases e : j = i
    · subst e; rw [List.getElem?_set_self hi2]; rfl
    · rw [List.getElem?_set_ne (by omega)]; exact hj j (by omega)
  · have hil : i = rws.length := by omega
    subst hil
    have hRe : R = mkRows mkCouple k 2 rws.length := rows_eq (by rw [hR, mkRows_len]) fun j hj2 => by rw [hj j (by omega), mkRows_get (by omega)]
    subst hRe
    simp only [t1, finish_room hs.len, go_sem]
    exact ⟨hs, o0⟩
theorem k_heldCoupleS {n : Nat} (ha : Rows h 2 a (mkRows mkCouple k 2 n)) (hl : n ≤ lim) (hk : k ≤ 2305843009213693952) : C T X n_laws_heldCoupleS [a, .int .i64 (k : Int)] h = some (.int .i64 ((k + n * 2 : Nat) : Int), h) := by
  unfold lim at hl
  refine C_go t_laws_heldCoupleS rfl ?_
  unfold F_laws_heldCoupleS
  have hln : lnV h a = some (.int .i64 n) := by rw [ha.ln, mkRows_len]
  simp only [go_sem]
  refine w_for n (fun i t loc h' => h' = h ∧ t 0 = a ∧ t 1 = .int .i64 ((k + i * 2 : Nat) : Int) ∧ t 5 = .int .i64 i) ⟨rfl, rfl, by simp [upd], rfl⟩ ?_
  rintro i t loc h' hi ⟨rfl, t0, t1, t5⟩
  simp only [t0, t5, hln, go_sem]
  refine w_open (by simp only [go_sem]; rfl) ?_ ?_ <;> intro hc
  · have hi1 : i < n := by omega
    have hw : IntKind.i64.wrap ((i : Int) + 1) = ((i + 1 : Nat) : Int) := w64 (by omega) (by omega)
    have hi3 : i < (List.range n).length := by simpa using hi1
    have w0 : IntKind.i64.wrap (((k + i * 2 : Nat) : Int) + 1) = ((k + i * 2 + 1 : Nat) : Int) := w64 (by omega) (by omega)
    have w1 : IntKind.i64.wrap (((k + i * 2 + 1 : Nat) : Int) + 1) = ((k + i * 2 + 2 : Nat) : Int) := w64 (by omega) (by omega)
    have hel := ha.el (f := fun i => mkCouple (k + i * 2)) 0 hi3
    have c0 := ha.cell (f := fun i => mkCouple (k + i * 2)) 0 hi3 (o := 0) (by omega)
    rw [range_getD hi1] at c0
    simp only [mkCouple, List.getD_cons_zero, List.getD_cons_succ] at c0
    have c1 := ha.cell (f := fun i => mkCouple (k + i * 2)) 0 hi3 (o := 1) (by omega)
    rw [range_getD hi1] at c1
    simp only [mkCouple, List.getD_cons_zero, List.getD_cons_succ] at c1
    simp only [Nat.add_zero, Nat.zero_add] at w0 c0
    simp only [t0, t1, t5, hw, hel.1, hel.2.1, c0, w0, c1, w1, Nat.add_zero, Nat.zero_add, BEq.rfl, List.prefix_refl, go_sem]
    exact ⟨hi1, by first | omega | (congr 2; omega)⟩
  · have hil : i = n := by omega
    subst hil
    simp only [t1, go_sem]
end
section
variable {X : CallF} {h : Heap} {a b : Value} {l : List Pr} {rws : List (List Value)} {k : Nat}
theorem k_toPair {l : Pr} : C T X n_laws_toPair [.agg ⟨prR l⟩] h = some (.agg ⟨prR l⟩, h) := by
  refine C_go t_laws_toPair rfl ?_
  unfold F_laws_toPair prR
  simp only [go_sem]
  try rfl
theorem k_eqPair {l : Pr} : C T X n_laws_eqPair [.agg ⟨prR l⟩, .agg ⟨prR l⟩] h = some (.bool true, h) := by
  refine C_go t_laws_eqPair rfl ?_
  unfold F_laws_eqPair prR
  simp only [BEq.rfl, go_sem]
  try rfl
theorem k_toPairS (ha : Rows h 2 a (prsL l)) (hl : l.length ≤ lim) : C T X n_laws_toPairS [a] h = some (.slice (some ⟨h.length, 0, none⟩) l.length l.length, h ++ [⟨(prsL l).flatten, 2, y_Pair, true⟩]) := by
  have hl2 := hl
  unfold lim at hl2
  refine C_go t_laws_toPairS rfl ?_
  unfold F_laws_toPairS
  simp only [Rows.lnm (f := prR) ha, mkW_ok hl, go_sem]
  rw [fill_start (rows := prsL l)]
  refine w_for l.length (fun i t loc h' => h' = h ++ [⟨fillC [.string noT, .string noT] (prsL l) l.length i, 2, y_Pair, true⟩] ∧ t 0 = a ∧ t 3 = .slice (some ⟨h.length, 0, none⟩) l.length l.length ∧ t 4 = .int .i64 i) ⟨rfl, rfl, rfl, rfl⟩ ?_
  rintro i t loc h' hi ⟨rfl, t0, t3, t4⟩
  have hu := ha.up (List.prefix_append h [⟨fillC [.string noT, .string noT] (prsL l) l.length i, 2, y_Pair, true⟩])
  simp only [t0, t3, t4, Rows.lnm (f := prR) hu, go_sem]
  refine w_open (by simp only [go_sem]; rfl) ?_ ?_ <;> intro hc
  · have hi1 : i < l.length := by omega
    have hrow : ∀ r ∈ (prsL l), r.length = 2 := map_row prR_len
    have hlen : (prsL l).length = l.length := List.length_map ..
    have hi2 : i < (prsL l).length := by omega
    have hst := fill_st (h := h) (ext := []) (z := [.string noT, .string noT]) (ty := y_Pair) hrow rfl hlen hi2
    have hgt : (prsL l)[i] = prR (l.getD i p0) := map_at (d := p0) hi1
    rw [hgt] at hst
    have hia := fill_ia (h := h) (ext := []) (z := [.string noT, .string noT]) (ty := y_Pair) hrow rfl hlen (i := i) (by omega) (k := .i64) (j := (i : Int)) (by omega) (by omega)
    rw [Int.toNat_natCast] at hia
    have hw : IntKind.i64.wrap ((i : Int) + 1) = ((i + 1 : Nat) : Int) := w64 (by omega) (by omega)
    have hel := hu.el (f := prR) p0 hi1
    have hl2 : ofCells true (prR (l.getD i p0)) = some (.agg ⟨prR (l.getD i p0)⟩) := rfl
    have hl3 : cellsOf (.agg ⟨prR (l.getD i p0)⟩) = some (prR (l.getD i p0)) := rfl
    have hl4 := prR_len (l.getD i p0)
    skip
    simp only [t0, t3, t4, hel.1, hel.2.2, k_toPair, hia, hw, hl2, hl3, hl4, Option.bind_some, hst, go_sem]
    exact hi1
  · have hil : i = l.length := by omega
    subst hil
    simp only [t3, go_sem]
    rw [finish_deep rfl, fill_end (by simp [ints])]
theorem k_eqPairS (ha : Rows h 2 a (prsL l)) (hb : Rows h 2 b (prsL l)) (hl : l.length ≤ lim) : C T X n_laws_eqPairS [a, b] h = some (.bool true, h) := by
  unfold lim at hl
  refine C_go t_laws_eqPairS rfl ?_
  unfold F_laws_eqPairS
  simp only [Rows.lnm (f := prR) ha, Rows.lnm (f := prR) hb, go_sem]
  refine w_for l.length (fun i t loc h' => h' = h ∧ t 0 = a ∧ t 1 = b ∧ t 5 = .int .i64 i) ⟨rfl, rfl, rfl, rfl⟩ ?_
  rintro i t loc h' hi ⟨rfl, t0, t1, t5⟩
  simp only [t0, t5, Rows.lnm (f := prR) ha, go_sem]
  refine w_open (by simp only [go_sem]; rfl) ?_ ?_ <;> intro hc
  · have hi1 : i < l.length := by omega
    have hw : IntKind.i64.wrap ((i : Int) + 1) = ((i + 1 : Nat) : Int) := w64 (by omega) (by omega)
    have hel := ha.el (f := prR) p0 hi1
    have hel2 := hb.el (f := prR) p0 hi1
    have hl2 : ofCells true (prR (l.getD i p0)) = some (.agg ⟨prR (l.getD i p0)⟩) := rfl
    skip
    simp only [t0, t1, t5, hel.1, hel.2.2, hel2.1, hel2.2.2, k_eqPair, hw, hl2, Option.bind_some, BEq.rfl, List.prefix_refl, go_sem]
    exact hi1
  · simp only [go_sem]
def mkPair (k : Nat) : List Value := [.string (mkT (k + 0)), .string (mkT (k + 1))]
theorem k_markPairS {lo hi : Nat} (o : Own h lo hi 2 y_Pair a rws) (hl : rws.length ≤ lim) {k : Nat} (hk : k ≤ 2305843009213693952) : ∃ h', C T X n_laws_markPairS [a, .int .i64 (k : Int)] h = some (.int .i64 ((k + rws.length * 2 : Nat) : Int), h') ∧ Same lo hi h h' ∧ Own h' lo hi 2 y_Pair a (mkRows mkPair k 2 rws.length) := by
  unfold lim at hl
  refine C_exH t_laws_markPairS rfl ?_
  unfold F_laws_markPairS
  simp only [go_sem]
  refine w_for rws.length (fun i t loc h' => t 0 = a ∧ t 1 = .int .i64 ((k + i * 2 : Nat) : Int) ∧ t 5 = .int .i64 i ∧ Same lo hi h h' ∧ ∃ R, R.length = rws.length ∧ (∀ j, j < i → R[j]? = some (mkPair (k + j * 2))) ∧ Own h' lo hi 2 y_Pair a R) ⟨rfl, by simp [upd], rfl, Same.refl, rws, rfl, fun j hj => by omega, o⟩ ?_
  rintro i t loc h0 hi ⟨t0, t1, t5, hs, R, hR, hj, o0⟩
  simp only [t0, t5, o0.ln, hR, go_sem]
  refine w_open (by simp only [go_sem]; rfl) ?_ ?_ <;> intro hc
  · have hi1 : i < rws.length := by omega
    have hi2 : i < R.length := by omega
    have hw : IntKind.i64.wrap ((i : Int) + 1) = ((i + 1 : Nat) : Int) := w64 (by omega) (by omega)
    have w0 : IntKind.i64.wrap (((k + i * 2 : Nat) : Int) + 1) = ((k + i * 2 + 1 : Nat) : Int) := w64 (by omega) (by omega)
    have w1 : IntKind.i64.wrap (((k + i * 2 + 1 : Nat) : Int) + 1) = ((k + i * 2 + 2 : Nat) : Int) := w64 (by omega) (by omega)
    have q0 := o0.self hi2
    obtain ⟨r, hr⟩ : ∃ r, R[i] = r := ⟨_, rfl⟩
    have hrl := o0.row_len hi2
    rw [hr] at q0 hrl
    obtain ⟨r0, r1, rfl⟩ : ∃ r0 r1, r = [r0, r1] := by
      match r, hrl with
      | [r0, r1], _ => exact ⟨r0, r1, rfl⟩
    have el0 := q0.el (i := i) (by simpa using hi2)
    obtain ⟨h1, e0, s0, q1⟩ := q0.st2 hi2 (k := 0) (vs := [.string (mkT (k + i * 2))]) (by simp)
    simp only [putAt, List.take_zero, List.take_succ_cons, List.drop_zero, List.drop_succ_cons, List.nil_append, List.cons_append, List.length_cons, List.length_nil, Nat.zero_add, List.append_nil, List.drop_nil, Nat.reduceAdd] at q1
    have el1 := q1.el (i := i) (by simpa using hi2)
    obtain ⟨h2, e1, s1, q2⟩ := q1.st2 hi2 (k := 1) (vs := [.string (mkT (k + i * 2 + 1))]) (by simp)
    simp only [putAt, List.take_zero, List.take_succ_cons, List.drop_zero, List.drop_succ_cons, List.nil_append, List.cons_append, List.length_cons, List.length_nil, Nat.zero_add, List.append_nil, List.drop_nil, Nat.reduceAdd] at q2
    (try simp only [Nat.add_zero, Nat.zero_add] at w0 e0 el0)
    simp only [t0, t1, t5, hw, k_markText (X := X) (k := k + i * 2) (by omega), k_markText (X := X) (k := k + i * 2 + 1) (by omega), el0.1, el0.2, e0, w0, el1.1, el1.2, e1, w1, Nat.add_zero, Nat.zero_add, go_sem]
    have hs' := ((hs.trans s0).trans s1)
    refine ⟨hi1, by first | omega | (congr 2; omega), hs', _, by simpa using hR, fun j hj2 => ?_, q2⟩
    by_cases e : j = i
    · subst e; rw [List.getElem?_set_self hi2]; rfl
    · rw [List.getElem?_set_ne (by omega)]; exact hj j (by omega)
  · have hil : i = rws.length := by omega
    subst hil
    have hRe : R = mkRows mkPair k 2 rws.length := rows_eq (by rw [hR, mkRows_len]) fun j hj2 => by rw [hj j (by omega), mkRows_get (by omega)]
    subst hRe
    simp only [t1, finish_room hs.len, go_sem]
    exact ⟨hs, o0⟩
end
section
variable {X : CallF} {h : Heap} {a b : Value} {l : List Aq} {rws : List (List Value)} {k : Nat}
end
section
variable {X : CallF} {h : Heap} {a b : Value} {l : List Int} {rws : List (List Value)} {k : Nat}
theorem k_eqIntS (ha : Rows h 1 a (ints l)) (hb : Rows h 1 b (ints l)) (hl : l.length ≤ lim) : C T X n_laws_eqIntS [a, b] h = some (.bool true, h) := by
  unfold lim at hl
  refine C_go t_laws_eqIntS rfl ?_
  unfold F_laws_eqIntS
  simp only [Rows.lnm (f := intR) ha, Rows.lnm (f := intR) hb, go_sem]
  refine w_for l.length (fun i t loc h' => h' = h ∧ t 0 = a ∧ t 1 = b ∧ t 5 = .int .i64 i) ⟨rfl, rfl, rfl, rfl⟩ ?_
  rintro i t loc h' hi ⟨rfl, t0, t1, t5⟩
  simp only [t0, t5, Rows.lnm (f := intR) ha, go_sem]
  refine w_open (by simp only [go_sem]; rfl) ?_ ?_ <;> intro hc
  · have hi1 : i < l.length := by omega
    have hw : IntKind.i64.wrap ((i : Int) + 1) = ((i + 1 : Nat) : Int) := w64 (by omega) (by omega)
    have hel := ha.el (f := intR) 0 hi1
    have hel2 := hb.el (f := intR) 0 hi1
    have hl2 : ofCells false (intR (l.getD i 0)) = some (.int .i64 (l.getD i 0)) := rfl
    simp only [intR] at hel hel2
    simp only [t0, t1, t5, hel.1, hel.2.2, hel2.1, hel2.2.2, hw, hl2, Option.bind_some, BEq.rfl, List.prefix_refl, go_sem]
    exact hi1
  · simp only [go_sem]
def mkInt (k : Nat) : List Value := [.int .i64 ((k + 0 : Nat) : Int)]
theorem k_markIntS {lo hi : Nat} (o : Own h lo hi 1 y_int a rws) (hl : rws.length ≤ lim) {k : Nat} (hk : k ≤ 2305843009213693952) : ∃ h', C T X n_laws_markIntS [a, .int .i64 (k : Int)] h = some (.int .i64 ((k + rws.length * 1 : Nat) : Int), h') ∧ Same lo hi h h' ∧ Own h' lo hi 1 y_int a (mkRows mkInt k 1 rws.length) := by
  unfold lim at hl
  refine C_exH t_laws_markIntS rfl ?_
  unfold F_laws_markIntS
  simp only [go_sem]
  refine w_for rws.length (fun i t loc h' => t 0 = a ∧ t 1 = .int .i64 ((k + i * 1 : Nat) : Int) ∧ t 5 = .int .i64 i ∧ Same lo hi h h' ∧ ∃ R, R.length = rws.length ∧ (∀ j, j < i → R[j]? = some (mkInt (k + j * 1))) ∧ Own h' lo hi 1 y_int a R) ⟨rfl, by simp [upd], rfl, Same.refl, rws, rfl, fun j hj => by omega, o⟩ ?_
  rintro i t loc h0 hi ⟨t0, t1, t5, hs, R, hR, hj, o0⟩
  simp only [t0, t5, o0.ln, hR, go_sem]
  refine w_open (by simp only [go_sem]; rfl) ?_ ?_ <;> intro hc
  · have hi1 : i < rws.length := by omega
    have hi2 : i < R.length := by omega
    have hw : IntKind.i64.wrap ((i : Int) + 1) = ((i + 1 : Nat) : Int) := w64 (by omega) (by omega)
    have w0 : IntKind.i64.wrap (((k + i * 1 : Nat) : Int) + 1) = ((k + i * 1 + 1 : Nat) : Int) := w64 (by omega) (by omega)
    have q0 := o0.self hi2
    obtain ⟨r, hr⟩ : ∃ r, R[i] = r := ⟨_, rfl⟩
    have hrl := o0.row_len hi2
    rw [hr] at q0 hrl
    obtain ⟨r0, rfl⟩ : ∃ r0, r = [r0] := by
      match r, hrl with
      | [r0], _ => exact ⟨r0, rfl⟩
    have el0 := q0.el (i := i) (by simpa using hi2)
    obtain ⟨h1, e0, s0, q1⟩ := q0.st2 hi2 (k := 0) (vs := [.int .i64 ((k + i * 1 : Nat) : Int)]) (by simp)
    simp only [putAt, List.take_zero, List.take_succ_cons, List.drop_zero, List.drop_succ_cons, List.nil_append, List.cons_append, List.length_cons, List.length_nil, Nat.zero_add, List.append_nil, List.drop_nil, Nat.reduceAdd] at q1
    (try simp only [Nat.add_zero, Nat.zero_add] at w0 e0 el0)
    simp only [t0, t1, t5, hw, el0.1, el0.2, e0, w0, Nat.add_zero, Nat.zero_add, go_sem]
    have hs' := (hs.trans s0)
    refine ⟨hi1, by first | omega | (congr 2; omega), hs', _, by simpa using hR, fun j hj2 => ?_, q1⟩
    by_cases e : j = i
    · subst e; rw [List.getElem?_set_self hi2]; rfl
    · rw [List.getElem?_set_ne (by omega)]; exact hj j (by omega)
  · have hil : i = rws.length := by omega
    subst hil
    have hRe : R = mkRows mkInt k 1 rws.length := rows_eq (by rw [hR, mkRows_len]) fun j hj2 => by rw [hj j (by omega), mkRows_get (by omega)]
    subst hRe
    simp only [t1, finish_room hs.len, go_sem]
    exact ⟨hs, o0⟩
theorem k_heldIntS {n : Nat} (ha : Rows h 1 a (mkRows mkInt k 1 n)) (hl : n ≤ lim) (hk : k ≤ 2305843009213693952) : C T X n_laws_heldIntS [a, .int .i64 (k : Int)] h = some (.int .i64 ((k + n * 1 : Nat) : Int), h) := by
  unfold lim at hl
  refine C_go t_laws_heldIntS rfl ?_
  unfold F_laws_heldIntS
  have hln : lnV h a = some (.int .i64 n) := by rw [ha.ln, mkRows_len]
  simp only [go_sem]
  refine w_for n (fun i t loc h' => h' = h ∧ t 0 = a ∧ t 1 = .int .i64 ((k + i * 1 : Nat) : Int) ∧ t 5 = .int .i64 i) ⟨rfl, rfl, by simp [upd], rfl⟩ ?_
  rintro i t loc h' hi ⟨rfl, t0, t1, t5⟩
  simp only [t0, t5, hln, go_sem]
  refine w_open (by simp only [go_sem]; rfl) ?_ ?_ <;> intro hc
  · have hi1 : i < n := by omega
    have hw : IntKind.i64.wrap ((i : Int) + 1) = ((i + 1 : Nat) : Int) := w64 (by omega) (by omega)
    have hi3 : i < (List.range n).length := by simpa using hi1
    have w0 : IntKind.i64.wrap (((k + i * 1 : Nat) : Int) + 1) = ((k + i * 1 + 1 : Nat) : Int) := w64 (by omega) (by omega)
    have hel := ha.el (f := fun i => mkInt (k + i * 1)) 0 hi3
    have c0 := ha.cell (f := fun i => mkInt (k + i * 1)) 0 hi3 (o := 0) (by omega)
    rw [range_getD hi1] at c0
    simp only [mkInt, List.getD_cons_zero, List.getD_cons_succ] at c0
    simp only [Nat.add_zero, Nat.zero_add] at w0 c0
    simp only [t0, t1, t5, hw, hel.1, hel.2.1, c0, w0, Nat.add_zero, Nat.zero_add, BEq.rfl, List.prefix_refl, go_sem]
    exact ⟨hi1, by first | omega | (congr 2; omega)⟩
  · have hil : i = n := by omega
    subst hil
    simp only [t1, go_sem]
end
section
variable {X : CallF} {h : Heap} {a b : Value} {l : List ByteArray} {rws : List (List Value)} {k : Nat}
end
end Go.Proofs.YtjgacjidaeahdaaGreatDoor.Ab
set_option linter.unusedSimpArgs false
set_option linter.unusedVariables false
set_option linter.unnecessarySimpa false
set_option maxHeartbeats 4000000
namespace Go.Proofs.YtjgacjidaeahdaaGreatDoor.Ab
open Go.RowKit
section
variable {X : CallF}
theorem k_impl_in {h : Heap} {n lo hi : Int} : C T X n_impl_in [.int .i64 n, .int .i64 lo, .int .i64 hi] h = some (.bool (decide (lo ≤ n) && decide (n ≤ hi)), h) := by
  refine C_intro T X t_impl_in rfl ?_
  unfold F_impl_in start
  simp only [go_sem]
  repeat (first | (refine w_any (by simp only [*, go_sem]; rfl) ?_ ?_ <;> intro hc <;> (try simp only [decide_eq_true_eq, decide_eq_false_iff_not, Decidable.not_not] at hc) <;> simp only [hc, go_sem]) | (refine so_any (by simp only [*, go_sem]; rfl) ?_ ?_ <;> intro hc <;> (try simp only [decide_eq_true_eq, decide_eq_false_iff_not, Decidable.not_not] at hc) <;> simp only [hc, go_sem]) | (refine so_any' (by simp only [*, go_sem]; rfl) ?_ ?_ <;> intro hc <;> (try simp only [decide_eq_true_eq, decide_eq_false_iff_not, Decidable.not_not] at hc) <;> simp only [hc, go_sem]) | (refine sf_any (by simp only [*, go_sem]; rfl) ?_ ?_ <;> intro hc <;> (try simp only [decide_eq_true_eq, decide_eq_false_iff_not, Decidable.not_not] at hc) <;> simp only [hc, go_sem]) | (refine sf_any' (by simp only [*, go_sem]; rfl) ?_ ?_ <;> intro hc <;> (try simp only [decide_eq_true_eq, decide_eq_false_iff_not, Decidable.not_not] at hc) <;> simp only [hc, go_sem]))
  all_goals (refine rets_slot rfl (.inl rfl) rfl ?_; simp only [*, go_sem, finish_same])
theorem k_spec_l01In {h : Heap} {n lo hi : Int} : C T X n_spec_l01In [.int .i64 n, .int .i64 lo, .int .i64 hi] h = some (.bool (decide (lo ≤ n) && decide (n ≤ hi)), h) := by
  refine C_intro T X t_spec_l01In rfl ?_
  unfold F_spec_l01In start
  simp only [go_sem]
  repeat (first | (refine w_any (by simp only [*, go_sem]; rfl) ?_ ?_ <;> intro hc <;> (try simp only [decide_eq_true_eq, decide_eq_false_iff_not, Decidable.not_not] at hc) <;> simp only [hc, go_sem]) | (refine so_any (by simp only [*, go_sem]; rfl) ?_ ?_ <;> intro hc <;> (try simp only [decide_eq_true_eq, decide_eq_false_iff_not, Decidable.not_not] at hc) <;> simp only [hc, go_sem]) | (refine so_any' (by simp only [*, go_sem]; rfl) ?_ ?_ <;> intro hc <;> (try simp only [decide_eq_true_eq, decide_eq_false_iff_not, Decidable.not_not] at hc) <;> simp only [hc, go_sem]) | (refine sf_any (by simp only [*, go_sem]; rfl) ?_ ?_ <;> intro hc <;> (try simp only [decide_eq_true_eq, decide_eq_false_iff_not, Decidable.not_not] at hc) <;> simp only [hc, go_sem]) | (refine sf_any' (by simp only [*, go_sem]; rfl) ?_ ?_ <;> intro hc <;> (try simp only [decide_eq_true_eq, decide_eq_false_iff_not, Decidable.not_not] at hc) <;> simp only [hc, go_sem]))
  all_goals (refine rets_slot rfl (.inl rfl) rfl ?_; simp only [*, go_sem, finish_same])
end
end Go.Proofs.YtjgacjidaeahdaaGreatDoor.Ab
set_option linter.unusedSimpArgs false
set_option linter.unusedVariables false
set_option linter.unnecessarySimpa false
set_option maxHeartbeats 4000000
namespace Go.Proofs.YtjgacjidaeahdaaGreatDoor.Ab
open Go.RowKit
/-- An edge is right. -/
def EOk (size : Int) (e : E) : Prop := 0 ≤ e.a ∧ e.a < e.b ∧ e.b < size ∧ 0 ≤ e.w1 ∧ e.w1 ≤ 50 ∧ 0 ≤ e.w2 ∧ e.w2 ≤ 50 ∧ 0 ≤ e.w3 ∧ e.w3 ≤ 50
/-- One edge stands ahead of another. -/
def ELt (p e : E) : Prop := p.a < e.a ∨ p.a = e.a ∧ p.b < e.b
/-- A graph is right. -/
def GOk (size : Int) (l : List E) : Prop := (0 ≤ size ∧ size ≤ 9) ∧ ∀ i, i < l.length → EOk size (l.getD i e0) ∧ (0 < i → ELt (l.getD (i - 1) e0) (l.getD i e0))
def graphV (size : Int) (ev : Value) : Value := .agg ⟨[.int .i64 size, ev]⟩
section
variable {X : CallF} {h : Heap} {size : Int} {ev : Value} {l : List E}
theorem k_spec_l08Worth {n : Int} : C T X n_spec_l08Worth [.int .i64 n] h = some (.bool (decide (0 ≤ n) && decide (n ≤ 50)), h) := by
  refine C_go t_spec_l08Worth rfl ?_
  unfold F_spec_l08Worth
  simp only [k_spec_l01In, go_sem]
set_option maxHeartbeats 4000000 in
open Classical in
theorem k_spec_GraphOk (he : Rows h 5 ev (edges l)) (hl : l.length ≤ lim) : C T X n_spec_GraphOk [graphV size ev] h = some (.bool (decide (GOk size l)), h) := by
  unfold lim at hl
  refine C_go t_spec_GraphOk rfl ?_
  unfold F_spec_GraphOk graphV
  simp only [k_spec_l01In, go_sem]
  refine w_any (by simp only [go_sem]; rfl) ?_ ?_ <;> intro hc <;> simp only [go_sem]
  · have : ¬ GOk size l := fun g => by
      have := g.1
      simp at hc
      omega
    simp only [this, go_sem]
  have hs : 0 ≤ size ∧ size ≤ 9 := by simpa using hc
  refine w_for l.length (fun i t loc h' => h' = h ∧ loc 1 = some [.int .i64 size, ev] ∧ t 3 = .int .i64 i ∧ ∀ j, j < i → EOk size (l.getD j e0) ∧ (0 < j → ELt (l.getD (j - 1) e0) (l.getD j e0)))
    ⟨rfl, rfl, rfl, fun j hj => by omega⟩ ?_
  rintro i t loc h' hi ⟨rfl, l1, t3, hall⟩
  simp only [l1, t3, he.lnm, go_sem]
  refine w_open (by simp only [l1, t3, go_sem]; rfl) ?_ ?_ <;> intro hc
  · have hi1 : i < l.length := by omega
    have hneg : ¬ (EOk size (l.getD i e0) ∧ (0 < i → ELt (l.getD (i - 1) e0) (l.getD i e0))) → ¬ GOk size l := fun hn g => hn (g.2 i hi1)
    have hnext : (EOk size (l.getD i e0) ∧ (0 < i → ELt (l.getD (i - 1) e0) (l.getD i e0))) → ∀ j, j < i + 1 → EOk size (l.getD j e0) ∧ (0 < j → ELt (l.getD (j - 1) e0) (l.getD j e0)) := fun hy j hj => by
      by_cases e : j = i
      · subst e; exact hy
      · exact hall j (by omega)
    have hw : IntKind.i64.wrap ((i : Int) + 1) = ((i + 1 : Nat) : Int) := w64 (by omega) (by omega)
    by_cases hE : EOk size (l.getD i e0)
    · obtain ⟨q1, q2, q3, q4, q5, q6, q7, q8, q9⟩ := hE
      have p1 : ¬ (l.getD i e0).a < 0 := by omega
      have p2 : ¬ (l.getD i e0).b ≤ (l.getD i e0).a := by omega
      have p3 : ¬ size ≤ (l.getD i e0).b := by omega
      have hE : EOk size (l.getD i e0) := ⟨q1, q2, q3, q4, q5, q6, q7, q8, q9⟩
      rcases Nat.eq_zero_or_pos i with hz | hp
      · have hz' : ¬ (0 : Int) < i := by omega
        simp only [l1, t3, edge_el he hi1, k_spec_l01In, k_spec_l08Worth, p1, p2, p3, q4, q5, q6, q7, q8, q9, hz', hw, go_sem]
        exact ⟨hi1, hnext ⟨hE, fun hp => by omega⟩⟩
      · have hp' : (0 : Int) < i := by omega
        have hw1 : IntKind.i64.wrap ((i : Int) - 1) = ((i - 1 : Nat) : Int) := by rw [w64 (by omega) (by omega)]; omega
        have hi2 : i - 1 < l.length := by omega
        simp only [l1, t3, edge_el he hi1, k_spec_l01In, k_spec_l08Worth, p1, p2, p3, q4, q5, q6, q7, q8, q9, hp', hw, hw1, edge_el he hi2, go_sem]
        repeat' (first | (refine w_any (by simp only [l1, t3, hp', hw, hw1, edge_el he hi2, go_sem]; rfl) ?_ ?_ <;> intro hc <;> (try simp only [decide_eq_true_eq, decide_eq_false_iff_not, Decidable.not_not, Bool.not_eq_true', Bool.not_eq_false'] at hc) <;> simp only [hc, l1, t3, hp', hw, hw1, edge_el he hi2, go_sem]) | (refine so_any (by simp only [l1, t3, hp', hw, hw1, edge_el he hi2, go_sem]; rfl) ?_ ?_ <;> intro hc <;> (try simp only [decide_eq_true_eq, decide_eq_false_iff_not, Decidable.not_not, Bool.not_eq_true', Bool.not_eq_false'] at hc) <;> simp only [hc, l1, t3, hp', hw, hw1, edge_el he hi2, go_sem]) | (refine so_any' (by simp only [l1, t3, hp', hw, hw1, edge_el he hi2, go_sem]; rfl) ?_ ?_ <;> intro hc <;> (try simp only [decide_eq_true_eq, decide_eq_false_iff_not, Decidable.not_not, Bool.not_eq_true', Bool.not_eq_false'] at hc) <;> simp only [hc, l1, t3, hp', hw, hw1, edge_el he hi2, go_sem]) | (refine sf_any (by simp only [l1, t3, hp', hw, hw1, edge_el he hi2, go_sem]; rfl) ?_ ?_ <;> intro hc <;> (try simp only [decide_eq_true_eq, decide_eq_false_iff_not, Decidable.not_not, Bool.not_eq_true', Bool.not_eq_false'] at hc) <;> simp only [hc, l1, t3, hp', hw, hw1, edge_el he hi2, go_sem]) | (refine sf_any' (by simp only [l1, t3, hp', hw, hw1, edge_el he hi2, go_sem]; rfl) ?_ ?_ <;> intro hc <;> (try simp only [decide_eq_true_eq, decide_eq_false_iff_not, Decidable.not_not, Bool.not_eq_true', Bool.not_eq_false'] at hc) <;> simp only [hc, l1, t3, hp', hw, hw1, edge_el he hi2, go_sem]))
        all_goals first
          | exact (decide_eq_false (hneg (fun hx => by have := hx.2 hp; simp only [ELt] at this; omega))).symm
          | exact ⟨hi1, hnext ⟨hE, fun _ => by simp only [ELt]; omega⟩⟩
    · have hneg' := hneg (fun hx => hE hx.1)
      have hr : false = decide (GOk size l) := (decide_eq_false hneg').symm
      simp only [l1, t3, edge_el he hi1, k_spec_l01In, k_spec_l08Worth, go_sem]
      repeat' (first | (refine w_any (by simp only [l1, t3, k_spec_l08Worth, go_sem]; rfl) ?_ ?_ <;> intro hc <;> (try simp only [decide_eq_true_eq, decide_eq_false_iff_not, Decidable.not_not, Bool.not_eq_true', Bool.not_eq_false'] at hc) <;> simp only [hc, l1, t3, k_spec_l08Worth, go_sem]) | (refine so_any (by simp only [l1, t3, k_spec_l08Worth, go_sem]; rfl) ?_ ?_ <;> intro hc <;> (try simp only [decide_eq_true_eq, decide_eq_false_iff_not, Decidable.not_not, Bool.not_eq_true', Bool.not_eq_false'] at hc) <;> simp only [hc, l1, t3, k_spec_l08Worth, go_sem]) | (refine so_any' (by simp only [l1, t3, k_spec_l08Worth, go_sem]; rfl) ?_ ?_ <;> intro hc <;> (try simp only [decide_eq_true_eq, decide_eq_false_iff_not, Decidable.not_not, Bool.not_eq_true', Bool.not_eq_false'] at hc) <;> simp only [hc, l1, t3, k_spec_l08Worth, go_sem]) | (refine sf_any (by simp only [l1, t3, k_spec_l08Worth, go_sem]; rfl) ?_ ?_ <;> intro hc <;> (try simp only [decide_eq_true_eq, decide_eq_false_iff_not, Decidable.not_not, Bool.not_eq_true', Bool.not_eq_false'] at hc) <;> simp only [hc, l1, t3, k_spec_l08Worth, go_sem]) | (refine sf_any' (by simp only [l1, t3, k_spec_l08Worth, go_sem]; rfl) ?_ ?_ <;> intro hc <;> (try simp only [decide_eq_true_eq, decide_eq_false_iff_not, Decidable.not_not, Bool.not_eq_true', Bool.not_eq_false'] at hc) <;> simp only [hc, l1, t3, k_spec_l08Worth, go_sem]))
      all_goals first
        | exact hr
        | exact absurd (by simp only [Bool.and_eq_true, decide_eq_true_eq] at *; simp only [EOk]; omega) hE
  · have : GOk size l := ⟨hs, fun j hj => hall j (by omega)⟩
    simp only [this, go_sem]
end
end Go.Proofs.YtjgacjidaeahdaaGreatDoor.Ab
set_option linter.unusedSimpArgs false
set_option linter.unusedVariables false
set_option linter.unnecessarySimpa false
set_option maxHeartbeats 4000000
namespace Go.Proofs.YtjgacjidaeahdaaGreatDoor.Ab
open Go.RowKit
section
variable {X : CallF} {h : Heap} {v w : Value} {es : List E} {size : Int} {n : Int}
theorem k_eqGraph (he : Rows h 5 v (edges es)) (hf : Rows h 5 w (edges es)) (hl : es.length ≤ lim) : C T X n_laws_eqGraph [graphV size v, graphV size w] h = some (.bool true, h) := by
  refine C_go t_laws_eqGraph rfl ?_
  unfold F_laws_eqGraph graphV
  simp only [k_eqEdgeS he hf hl, go_sem]
end
end Go.Proofs.YtjgacjidaeahdaaGreatDoor.Ab
set_option linter.unusedSimpArgs false
set_option linter.unusedVariables false
set_option linter.unnecessarySimpa false
set_option maxHeartbeats 4000000
namespace Go.Proofs.YtjgacjidaeahdaaGreatDoor.Ab
open Go.RowKit
section
variable {X : CallF} {h : Heap} {v : Value} {es : List E} {il : List Int} {cl : List Cp} {size n : Int}
theorem Own.all {rws : List (List Value)} {sz : Nat} {ty : TypeId} (hl : ∀ r ∈ rws, r.length = sz) : Own (h ++ [⟨rws.flatten, sz, ty, true⟩]) h.length (List.length (h ++ [(⟨rws.flatten, sz, ty, true⟩ : Blk)])) sz ty (.slice (some ⟨h.length, 0, none⟩) rws.length rws.length) rws := (Own.made hl).wide (Nat.le_refl _) (by simp)
end
end Go.Proofs.YtjgacjidaeahdaaGreatDoor.Ab
set_option linter.unusedSimpArgs false
set_option linter.unusedVariables false
set_option linter.unnecessarySimpa false
set_option maxHeartbeats 4000000
namespace Go.Proofs.YtjgacjidaeahdaaGreatDoor.Ab
open Go.RowKit
section
variable {X : CallF} {h : Heap} {v : Value} {l : List Pr} {n : Int}
def PrMax (l : List Pr) : Prop := l.length ≤ maxLen ∧ ∀ p ∈ l, p.k.size ≤ maxLen ∧ p.v.size ≤ maxLen
def PrBnd (l : List Pr) : Prop := l.length ≤ 1048576 ∧ True
theorem z_szPair {p : Pr} (hp : p.k.size ≤ maxLen ∧ p.v.size ≤ maxLen) (h0 : 0 ≤ n) (h1 : n ≤ 1048576) : ∃ m, C T X n_laws_szPair [.agg ⟨[.string p.k, .string p.v]⟩, .int .i64 n] h = some (.int .i64 m, h) ∧ m ≤ n ∧ (m < 0 → m = -1) := by
  obtain ⟨k1, k2⟩ := hp
  unfold maxLen at k1 k2
  have w1 : IntKind.i64.wrap (n - (p.k.size : Int)) = n - (p.k.size : Int) := w64 (by omega) (by omega)
  by_cases c1 : n - (p.k.size : Int) < 0
  · refine ⟨-1, C_go t_laws_szPair rfl ?_, by omega, fun _ => rfl⟩
    unfold F_laws_szPair
    simp only [w1, c1, go_sem]
  have w2 : IntKind.i64.wrap (n - (p.k.size : Int) - (p.v.size : Int)) = n - (p.k.size : Int) - (p.v.size : Int) := w64 (by omega) (by omega)
  by_cases c2 : n - (p.k.size : Int) - (p.v.size : Int) < 0
  · refine ⟨-1, C_go t_laws_szPair rfl ?_, by omega, fun _ => rfl⟩
    unfold F_laws_szPair
    simp only [w1, w2, c1, c2, go_sem]
  · refine ⟨n - (p.k.size : Int) - (p.v.size : Int), C_go t_laws_szPair rfl ?_, by omega, fun _ => by omega⟩
    unfold F_laws_szPair
    simp only [w1, w2, c1, c2, go_sem]
theorem z_szPairS (hm : Rows h 2 v (prsL l)) (hx : PrMax l) (h0 : 0 ≤ n) (h1 : n ≤ 1048576) : ∃ m, C T X n_laws_szPairS [v, .int .i64 n] h = some (.int .i64 m, h) ∧ m ≤ 1048576 ∧ (0 ≤ m → PrBnd l) := by
  have hl := hx.1
  unfold maxLen at hl
  have w1 : IntKind.i64.wrap (n - (l.length : Int)) = n - (l.length : Int) := w64 (by omega) (by omega)
  suffices hs : ∃ w hh, C T X n_laws_szPairS [v, .int .i64 n] h = some (w, hh) ∧ hh = h ∧ ∃ m, w = .int .i64 m ∧ m ≤ 1048576 ∧ (0 ≤ m → PrBnd l) by
    obtain ⟨w, hh, c, rfl, m, rfl, k⟩ := hs
    exact ⟨m, c, k⟩
  refine C_ex t_laws_szPairS rfl ?_
  unfold F_laws_szPairS
  by_cases c1 : n - (l.length : Int) < 0
  · simp only [hm.lnm, w1, c1, go_sem]
    exact ⟨-1, rfl, by omega, fun k => by omega⟩
  have hb : PrBnd l := ⟨by omega, trivial⟩
  simp only [hm.lnm, w1, c1, go_sem]
  refine w_for l.length (fun i t loc h' => h' = h ∧ t 0 = v ∧ t 5 = .int .i64 (i : Int) ∧ ∃ k : Int, t 1 = .int .i64 k ∧ 0 ≤ k ∧ k ≤ n) ⟨rfl, rfl, rfl, _, rfl, by omega, by omega⟩ ?_
  rintro i t loc h' hi ⟨rfl, t0, t5, k, t1, hk0, hk1⟩
  simp only [t0, t1, t5, hm.lnm, go_sem]
  refine w_open (by simp only [go_sem]; rfl) ?_ ?_ <;> intro hc
  · have hi1 : i < l.length := by omega
    have hw : IntKind.i64.wrap ((i : Int) + 1) = ((i + 1 : Nat) : Int) := w64 (by omega) (by omega)
    have el := hm.el (f := prR) p0 hi1
    have hpm := hx.2 _ (getD_mem (d := p0) hi1)
    obtain ⟨q, hq⟩ : ∃ q, q = l.getD i p0 := ⟨_, rfl⟩
    rw [← hq] at el hpm
    obtain ⟨m, c2, hm1, hm2⟩ := z_szPair (X := X) (h := h') (p := q) hpm hk0 (by omega)
    by_cases c3 : m < 0
    · simp only [t0, t1, t5, el.1, el.2.1, el.2.2, prR, c2, c3, go_sem]
      exact ⟨-1, rfl, by omega, fun k => by omega⟩
    · simp only [t0, t1, t5, el.1, el.2.1, el.2.2, prR, c2, c3, hw, go_sem]
      exact ⟨hi1, m, rfl, by omega, by omega⟩
  · simp only [t1, go_sem]
    exact ⟨k, rfl, by omega, fun _ => hb⟩
theorem x_toPairS (he : Rows h 2 v (prsL l)) (hl : l.length ≤ lim) : ∃ w hh, C T X n_laws_toPairS [v] h = some (w, hh) ∧ h <+: hh ∧ Own hh h.length hh.length 2 y_Pair w (prsL l) :=
  ⟨_, _, k_toPairS he hl, List.prefix_append _ _, by have := Own.all (h := h) (ty := y_Pair) (map_row (l := l) prR_len); rw [List.length_map] at this; exact this⟩
theorem m_markPairS {lo hi : Nat} (o : Own h lo hi 2 y_Pair v (prsL l)) (hl : l.length ≤ lim) {k : Nat} (hk : k ≤ 2305843009213693952) : ∃ h', C T X n_laws_markPairS [v, .int .i64 (k : Int)] h = some (.int .i64 ((k + l.length * 2 : Nat) : Int), h') ∧ Same lo hi h h' := by
  obtain ⟨h', c, s, _⟩ := k_markPairS (X := X) o (by rw [List.length_map]; exact hl) hk
  rw [List.length_map] at c
  exact ⟨h', c, s⟩
end
end Go.Proofs.YtjgacjidaeahdaaGreatDoor.Ab
set_option linter.unusedSimpArgs false
set_option linter.unusedVariables false
set_option linter.unnecessarySimpa false
set_option maxHeartbeats 4000000
namespace Go.Proofs.YtjgacjidaeahdaaGreatDoor.Ab
open Go.RowKit
abbrev nilV : Value := .slice none 0 0
/-- The place of a slice's block, and the one behind it. -/
def tlo : Value → Nat
  | .slice (some a) _ _ => a.block
  | _ => 0
def thi : Value → Nat
  | .slice (some a) _ _ => a.block + 1
  | _ => 0
/-- Two slices have different blocks. -/
def Sep (v w : Value) : Prop := thi v ≤ tlo w ∨ thi w ≤ tlo v
theorem Sep.symm {v w : Value} (h : Sep v w) : Sep w v := Or.symm h
theorem sep_nil {v : Value} : Sep v nilV := .inr (Nat.zero_le _)
section
variable {h h' : Heap} {lo hi lo' hi' sz sz' : Nat} {ty ty' : TypeId} {v w : Value} {rws rws' : List (List Value)}
theorem Own.tight (o : Own h lo hi sz ty v rws) : Own h (tlo v) (thi v) sz ty v rws := by
  refine ⟨o.len, ?_⟩
  rcases o.is with hn | ⟨b, _, _, rfl, h2⟩
  · exact .inl hn
  · exact .inr ⟨b, Nat.le_refl _, Nat.lt_succ_self _, rfl, h2⟩
theorem Own.within (o : Own h lo hi sz ty v rws) : v = nilV ∨ (lo ≤ tlo v ∧ thi v ≤ hi ∧ tlo v < thi v) := by
  rcases o.is with ⟨rfl, _⟩ | ⟨b, _, _, rfl, h2⟩
  · exact .inl rfl
  · exact .inr ⟨by assumption, by assumption, Nat.lt_succ_self _⟩
theorem Own.sep (o : Own h lo hi sz ty v rws) (q : Own h' lo' hi' sz' ty' w rws') (hd : hi ≤ lo' ∨ hi' ≤ lo) : Sep v w := by
  rcases o.within with rfl | ⟨h1, h2, _⟩
  · exact sep_nil.symm
  rcases q.within with rfl | ⟨h3, h4, _⟩
  · exact sep_nil
  unfold Sep
  omega
theorem Own.loose {h2 : Heap} {rr : List (List Value)} (o : Own h lo hi sz ty v rws) (q : Own h2 (tlo v) (thi v) sz ty v rr) : Own h2 lo hi sz ty v rr := by
  refine ⟨q.len, ?_⟩
  rcases q.is with hn | ⟨b, l1, l2, e, h3⟩
  · exact .inl hn
  · rcases o.within with e2 | ⟨k1, k2, _⟩
    · rw [e2] at e; cases e
    · exact .inr ⟨b, by omega, by omega, e, h3⟩
theorem Own.wider (o : Own h lo hi sz ty v rws) {g g' : Heap} (s : Same (tlo v) (thi v) g g') : Same lo hi g g' := by
  rcases o.within with rfl | ⟨k1, k2, _⟩
  · exact ⟨s.len, fun b _ => s.blk b (.inr (Nat.zero_le _))⟩
  · exact s.wide k1 k2
/-- What is written elsewhere does not turn it. -/
theorem Own.apart (o : Own h lo hi sz ty v rws) {w : Value} (a : Same (tlo w) (thi w) h h') (hs : Sep v w) : Own h' lo hi sz ty v rws := by
  have t := o.tight.same a hs
  rcases o.within with rfl | ⟨h1, h2, _⟩
  · refine ⟨o.len, .inl ⟨rfl, ?_⟩⟩
    rcases o.is with ⟨_, e⟩ | ⟨b, _, _, e, _⟩
    · exact e
    · cases e
  · exact t.wide h1 h2
end
/-- What is appended turns no other block. -/
theorem push_is {h : Heap} {lo hi sz : Nat} {ty : TypeId} {v : Value} {rws : List (List Value)} (o : Own h lo hi sz ty v rws) (hlo : lo ≤ h.length) (new : List (List Value)) (hn : ∀ r ∈ new, r.length = sz) (h1 : new ≠ []) (hl : rws.length + new.length ≤ lim) :
    ∃ v' h', appLW h sz ty new.length v (some new.flatten) = some (v', h') ∧ h.length ≤ h'.length ∧ (∀ b, b < h.length → (b < tlo v ∨ thi v ≤ b) → h'[b]? = h[b]?) ∧
      ((v = nilV ∧ tlo v' = h.length ∧ thi v' = h.length + 1 ∧ h'.length = h.length + 1) ∨ (v ≠ nilV ∧ h'.length = h.length ∧ tlo v' = tlo v ∧ thi v' = thi v)) ∧ Own h' (tlo v') (thi v') sz ty v' (rws ++ new) := by
  have hf := flatten_len hn
  have h0 : ¬ new.length = 0 := fun e => h1 (List.length_eq_zero_iff.1 e)
  have hall : ∀ r ∈ rws ++ new, r.length = sz := fun r hr => by
    rcases List.mem_append.1 hr with hr | hr
    · exact o.len r hr
    · exact hn r hr
  rcases o.is with ⟨rfl, rfl⟩ | ⟨b, l1, l2, rfl, h2⟩
  · refine ⟨.slice (some ⟨h.length, 0, none⟩) new.length new.length, h ++ [⟨new.flatten, sz, ty, true⟩], ?_, by simp, fun b hb _ => ?_, .inl ⟨rfl, rfl, rfl, by simp⟩, hall, .inr ⟨h.length, Nat.le_refl _, Nat.lt_succ_self _, rfl, by simp⟩⟩
    · simp only [appLW, appV]
      rw [if_pos hf, if_neg h0, if_pos (by simpa using hl)]
    · rw [List.getElem?_append_left hb]
  · have hb := lt_of_get h2
    have hr := flatten_len o.len
    refine ⟨.slice (some ⟨b, 0, none⟩) (rws ++ new).length (rws ++ new).length, h.set b ⟨(rws ++ new).flatten, sz, ty, true⟩, ?_, by simp, fun b' _ hb' => ?_, .inr ⟨(fun e => by cases e), by simp, rfl, rfl⟩, hall, .inr ⟨b, Nat.le_refl _, Nat.lt_succ_self _, rfl, by rw [List.getElem?_set_self hb]⟩⟩
    · simp only [appLW, appV, h2, List.length_append]
      rw [if_pos hf, if_pos (by rw [hr]; omega), if_neg h0, if_pos ⟨trivial, trivial, trivial, trivial, trivial, hl⟩]
      rw [List.flatten_append]
    · have : b' ≠ b := by simp only [tlo, thi] at hb'; omega
      rw [List.getElem?_set_ne (Ne.symm this)]
/-- A list that is there grows in its place. -/
theorem Own.grow {h : Heap} {lo hi sz : Nat} {ty : TypeId} {v : Value} {rws : List (List Value)} (o : Own h lo hi sz ty v rws) (hv : v ≠ nilV) (new : List (List Value)) (hn : ∀ r ∈ new, r.length = sz) (h1 : new ≠ []) (hl : rws.length + new.length ≤ lim) :
    ∃ v' h', appLW h sz ty new.length v (some new.flatten) = some (v', h') ∧ v' ≠ nilV ∧ Same lo hi h h' ∧ Own h' lo hi sz ty v' (rws ++ new) := by
  have hlo : lo ≤ h.length := by
    rcases o.is with ⟨rfl, _⟩ | ⟨b, l1, l2, rfl, h2⟩
    · exact absurd rfl hv
    · have := lt_of_get h2; omega
  obtain ⟨v', h', e, g, b, c, o'⟩ := push_is o hlo new hn h1 hl
  rcases c with ⟨c, _⟩ | ⟨_, c1, c2, c3⟩
  · exact absurd c hv
  · rcases o.within with w | ⟨w1, w2, w3⟩
    · exact absurd w hv
    refine ⟨v', h', e, ?_, ⟨c1, fun b' hb' => ?_⟩, by rw [c2, c3] at o'; exact o'.wide w1 w2⟩
    · rintro rfl
      have : tlo v = thi v := c2.symm.trans (show tlo nilV = thi v from c3)
      omega
    · by_cases hlt : b' < h.length
      · exact b b' hlt (by omega)
      · rw [List.getElem?_eq_none (by omega), List.getElem?_eq_none (by omega)]
/-- A list of lists is shown. -/
def RowsLL (h : Heap) (v : Value) (ll : List (List Int)) : Prop := ∃ vs : List Value, vs.length = ll.length ∧ Rows h 1 v (vs.map fun x => [x]) ∧ ∀ i, i < ll.length → Rows h 1 (vs.getD i nilV) (ints (ll.getD i []))
/-- .. of one's own. -/
structure OwnLLs (h : Heap) (lo hi : Nat) (tyO tyI : TypeId) (v : Value) (ll : List (List Int)) (vs : List Value) : Prop where
  len : vs.length = ll.length
  out : Own h lo hi 1 tyO v (vs.map fun x => [x])
  ins : ∀ i, i < ll.length → Own h lo hi 1 tyI (vs.getD i nilV) (ints (ll.getD i []))
  so : ∀ i, i < ll.length → Sep v (vs.getD i nilV)
  si : ∀ i j, i < j → j < ll.length → Sep (vs.getD i nilV) (vs.getD j nilV)
def OwnLL (h : Heap) (lo hi : Nat) (tyO tyI : TypeId) (v : Value) (ll : List (List Int)) : Prop := ∃ vs, OwnLLs h lo hi tyO tyI v ll vs
section
variable {h h' h0 : Heap} {lo hi lo' hi' : Nat} {tyO tyI : TypeId} {v w : Value} {ll : List (List Int)} {l : List Int}
theorem OwnLL.rows (o : OwnLL h lo hi tyO tyI v ll) : RowsLL h v ll := by
  obtain ⟨vs, h1, h2, h3, _, _⟩ := o
  exact ⟨vs, h1, h2.rows, fun i hi => (h3 i hi).rows⟩
theorem OwnLL.up (o : OwnLL h lo hi tyO tyI v ll) (hp : h <+: h') : OwnLL h' lo hi tyO tyI v ll := by
  obtain ⟨vs, h1, h2, h3, h4, h5⟩ := o
  exact ⟨vs, h1, h2.up hp, fun i hi => (h3 i hi).up hp, h4, h5⟩
theorem OwnLL.wide (o : OwnLL h lo hi tyO tyI v ll) (k1 : lo' ≤ lo) (k2 : hi ≤ hi') : OwnLL h lo' hi' tyO tyI v ll := by
  obtain ⟨vs, h1, h2, h3, h4, h5⟩ := o
  exact ⟨vs, h1, h2.wide k1 k2, fun i hi => (h3 i hi).wide k1 k2, h4, h5⟩
theorem OwnLL.same (o : OwnLL h lo hi tyO tyI v ll) (a : Same lo' hi' h h') (hd : hi ≤ lo' ∨ hi' ≤ lo) : OwnLL h' lo hi tyO tyI v ll := by
  obtain ⟨vs, h1, h2, h3, h4, h5⟩ := o
  exact ⟨vs, h1, h2.same a hd, fun i hi => (h3 i hi).same a hd, h4, h5⟩
theorem OwnLL.nil : OwnLL h lo hi tyO tyI nilV [] := ⟨[], rfl, Own.nil, fun i hi => (by simp at hi), fun i hi => (by simp at hi), fun i j _ hi => (by simp at hi)⟩
theorem OwnLL.zero (o : Own h lo hi 1 tyO v []) : OwnLL h lo hi tyO tyI v [] := ⟨[], rfl, o, fun i hi => (by simp at hi), fun i hi => (by simp at hi), fun i j _ hi => (by simp at hi)⟩
theorem OwnLL.live (o : OwnLL h lo hi tyO tyI v ll) : live v = true := by
  obtain ⟨vs, h1, h2, _, _, _⟩ := o
  exact h2.live
theorem OwnLL.fin (hp : h <+: h') (o : OwnLL h' h.length h'.length tyO tyI v ll) : h <+: (finish h (v, h')).2 ∧ OwnLL (finish h (v, h')).2 h.length (finish h (v, h')).2.length tyO tyI (finish h (v, h')).1 ll := by
  obtain ⟨h3, e, p3, hc⟩ := finish_cases (v := v) hp
  rw [e]
  rcases hc with rfl | ⟨hf, rfl⟩
  · exact ⟨hp, o⟩
  · refine ⟨p3, ?_⟩
    obtain ⟨vs, h1, h2, h4, h5, h6⟩ := o
    rcases h2.is with ⟨rfl, e2⟩ | ⟨b, _, _, rfl, _⟩
    · have : ll = [] := by
        have : vs = [] := by simpa using e2
        subst this
        exact List.length_eq_zero_iff.1 h1.symm
      subst this
      exact OwnLL.nil
    · cases hf
theorem RowsLL.up (o : RowsLL h v ll) (hp : h <+: h') : RowsLL h' v ll := by
  obtain ⟨vs, h1, h2, h3⟩ := o
  exact ⟨vs, h1, h2.up hp, fun i hi => (h3 i hi).up hp⟩
theorem RowsLL.ln (o : RowsLL h v ll) : lnV h v = some (.int .i64 ll.length) := by
  obtain ⟨vs, h1, h2, h3⟩ := o
  rw [h2.ln, List.length_map, h1]
theorem RowsLL.el (o : RowsLL h v ll) {i : Nat} (hi : i < ll.length) : ∃ x, iaV h 1 v (.int .i64 (i : Int)) = some (elemP v 1 i 0) ∧ ldC h (elemP v 1 i 0) 1 = some [x] ∧ Rows h 1 x (ints (ll.getD i [])) := by
  obtain ⟨vs, h1, h2, h3⟩ := o
  have e := h2.el (f := fun x => [x]) nilV (i := i) (by omega)
  exact ⟨vs.getD i nilV, e.1, e.2.2, h3 i hi⟩
/-- A list of one's own is appended. -/
theorem OwnLLs.pushG {lo2 hi2 : Nat} {vs : List Value} (o : OwnLLs h lo hi tyO tyI v ll vs) (hlo : lo ≤ h.length) (hhi : hi ≤ h.length) (q : Own h lo2 hi2 1 tyI w (ints l)) (hwsepv : Sep v w) (hws : ∀ i, i < ll.length → Sep (vs.getD i nilV) w) (hd2 : hi2 ≤ h.length) (hl : ll.length < lim) :
    ∃ v' h', appLW h 1 tyO 1 v (some [w]) = some (v', h') ∧ h.length ≤ h'.length ∧ (∀ b, b < h.length → (b < tlo v ∨ thi v ≤ b) → h'[b]? = h[b]?) ∧ (v ≠ nilV → h'.length = h.length ∧ tlo v' = tlo v ∧ thi v' = thi v) ∧
      (v' ≠ nilV ∧ (v = nilV → tlo v' = h.length)) ∧ OwnLLs h' (min lo lo2) h'.length tyO tyI v' (ll ++ [l]) (vs ++ [w]) := by
  obtain ⟨h1, h2, h3, h4, h5⟩ := o
  obtain ⟨v', h', e, g, b, c, o'⟩ := push_is h2 hlo [[w]] (fun r hr => by rw [List.mem_singleton.1 hr]; rfl) (by simp) (by simp; omega)
  simp only [List.flatten_cons, List.flatten_nil, List.append_nil, List.length_cons, List.length_nil, Nat.zero_add] at e
  have same : ∀ {x : Value} {rr : List (List Value)} {p r : Nat}, Own h p r 1 tyI x rr → r ≤ h.length → Sep v x → Own h' p r 1 tyI x rr := by
    intro x rr p r ox hr hs
    refine ⟨ox.len, ?_⟩
    rcases ox.is with hn | ⟨c, l1, l2, rfl, hc⟩
    · exact .inl hn
    · exact .inr ⟨c, l1, l2, rfl, by rw [b c (by omega) (by simp only [Sep, tlo, thi] at hs ⊢; omega)]; exact hc⟩
  have hv'sep : ∀ {x : Value}, Sep v x → (x = nilV ∨ thi x ≤ h.length) → Sep v' x := by
    intro x hs hx
    rcases c with ⟨rfl, c1, c2, c3⟩ | ⟨_, _, c2, c3⟩
    · rcases hx with rfl | hx
      · exact sep_nil
      · exact .inr (by omega)
    · unfold Sep at hs ⊢; omega
  have hwin : w = nilV ∨ thi w ≤ h.length := by
    rcases q.within with h | ⟨_, h, _⟩
    · exact .inl h
    · exact .inr (by omega)
  have hlv : lo ≤ tlo v' := by
    rcases c with ⟨_, c1, _⟩ | ⟨hv, _, c2, _⟩
    · omega
    · rcases h2.within with k | k
      · exact absurd k hv
      · omega
  have hnz : thi v' ≤ h'.length ∧ tlo v' < thi v' := by
    rcases c with ⟨_, c1, c2, c3⟩ | ⟨hv, c1, c2, c3⟩
    · omega
    · rcases h2.within with k | k
      · exact absurd k hv
      · omega
  refine ⟨v', h', e, g, b, fun hv => ?_, ⟨?_, fun hv => ?_⟩, ⟨by simp [h1], ?_, fun i hi' => ?_, fun i hi' => ?_, fun i j hij hj => ?_⟩⟩
  · rcases c with ⟨k, _⟩ | ⟨_, k⟩
    · exact absurd k hv
    · exact k
  · rintro rfl
    have : tlo nilV < thi nilV := hnz.2
    exact absurd this (Nat.lt_irrefl 0)
  · rcases c with ⟨_, k, _⟩ | ⟨k, _⟩
    · exact k
    · exact absurd hv k
  · rw [List.map_append]
    exact o'.wide (by omega) hnz.1
  · by_cases hil : i < ll.length
    · have e1 : (vs ++ [w]).getD i nilV = vs.getD i nilV := by simp [List.getElem?_append_left (show i < vs.length by omega)]
      have e2 : (ll ++ [l]).getD i [] = ll.getD i [] := by simp [List.getElem?_append_left hil]
      rw [e1, e2]
      exact (same (h3 i hil) hhi (h4 i hil)).wide (by omega) (by omega)
    · have hil : i = ll.length := by simp at hi'; omega
      subst hil
      have e1 : (vs ++ [w]).getD ll.length nilV = w := by rw [← h1]; simp
      have e2 : (ll ++ [l]).getD ll.length [] = l := by simp
      rw [e1, e2]
      exact (same q hd2 hwsepv).wide (by omega) (by omega)
  · by_cases hil : i < ll.length
    · have e1 : (vs ++ [w]).getD i nilV = vs.getD i nilV := by simp [List.getElem?_append_left (show i < vs.length by omega)]
      rw [e1]
      refine hv'sep (h4 i hil) ?_
      rcases (h3 i hil).within with h | ⟨_, h, _⟩
      · exact .inl h
      · exact .inr (by omega)
    · have hil : i = ll.length := by simp at hi'; omega
      subst hil
      have e1 : (vs ++ [w]).getD ll.length nilV = w := by rw [← h1]; simp
      rw [e1]
      exact hv'sep hwsepv hwin
  · have hil : i < ll.length := by simp at hj; omega
    have e1 : (vs ++ [w]).getD i nilV = vs.getD i nilV := by simp [List.getElem?_append_left (show i < vs.length by omega)]
    rw [e1]
    by_cases hjl : j < ll.length
    · have e2 : (vs ++ [w]).getD j nilV = vs.getD j nilV := by simp [List.getElem?_append_left (show j < vs.length by omega)]
      rw [e2]
      exact h5 i j hij hjl
    · have hjl : j = ll.length := by simp at hj; omega
      subst hjl
      have e2 : (vs ++ [w]).getD ll.length nilV = w := by rw [← h1]; simp
      rw [e2]
      exact hws i hil
theorem OwnLLs.push {lo2 hi2 : Nat} {vs : List Value} (o : OwnLLs h lo hi tyO tyI v ll vs) (hlo : lo ≤ h.length) (hhi : hi ≤ h.length) (q : Own h lo2 hi2 1 tyI w (ints l)) (hd : hi ≤ lo2) (hd2 : hi2 ≤ h.length) (hl : ll.length < lim) :
    ∃ v' h', appLW h 1 tyO 1 v (some [w]) = some (v', h') ∧ h.length ≤ h'.length ∧ (∀ b, b < h.length → (b < tlo v ∨ thi v ≤ b) → h'[b]? = h[b]?) ∧ (v ≠ nilV → h'.length = h.length ∧ tlo v' = tlo v ∧ thi v' = thi v) ∧
      (v' ≠ nilV ∧ (v = nilV → tlo v' = h.length)) ∧ OwnLLs h' (min lo lo2) h'.length tyO tyI v' (ll ++ [l]) (vs ++ [w]) :=
  o.pushG hlo hhi q (o.out.sep q (.inl hd)) (fun i hi => (o.ins i hi).sep q (.inl hd)) hd2 hl
theorem OwnLL.push (o : OwnLL h0 lo hi tyO tyI v ll) (hlo : lo ≤ h0.length) (hhi : hi ≤ h0.length) (hp : h0 <+: h) (q : Own h h0.length h.length 1 tyI w (ints l)) (hl : ll.length < lim) :
    ∃ v' h', appLW h 1 tyO 1 v (some [w]) = some (v', h') ∧ h.length ≤ h'.length ∧ (∀ b, b < lo → h'[b]? = h[b]?) ∧ OwnLL h' lo h'.length tyO tyI v' (ll ++ [l]) := by
  obtain ⟨vs, o⟩ := o
  have hlen := pre_len hp
  obtain ⟨v', h', e, g, b, c, _, o'⟩ := (show OwnLLs h lo hi tyO tyI v ll vs from ⟨o.len, o.out.up hp, fun i hi => (o.ins i hi).up hp, o.so, o.si⟩).push (by omega) (by omega) q hhi (Nat.le_refl _) hl
  refine ⟨v', h', e, g, fun x hx => ?_, vs ++ [w], by rw [Nat.min_eq_left hlo] at o'; exact o'⟩
  refine b x (by omega) ?_
  rcases o.out.within with rfl | ⟨k1, k2, _⟩
  · exact .inr (Nat.zero_le _)
  · exact .inl (by omega)
/-- Another list grows, or is written. -/
theorem OwnLLs.apart {vs : List Value} (o : OwnLLs h lo hi tyO tyI v ll vs) (a : Same (tlo w) (thi w) h h') (h1 : Sep v w) (h2 : ∀ i, i < ll.length → Sep (vs.getD i nilV) w) : OwnLLs h' lo hi tyO tyI v ll vs :=
  ⟨o.len, o.out.apart a h1, fun i hi => (o.ins i hi).apart a (h2 i hi), o.so, o.si⟩
end
end Go.Proofs.YtjgacjidaeahdaaGreatDoor.Ab
set_option linter.unusedSimpArgs false
set_option linter.unusedVariables false
set_option linter.unnecessarySimpa false
set_option maxHeartbeats 4000000
namespace Go.Proofs.YtjgacjidaeahdaaGreatDoor.Ab
open Go.RowKit
/-- A group. -/
structure Gp where
  ms : List Int
  z : Int
def g0 : Gp := ⟨[], 0⟩
def gRow (vs : List Value) (gs : List Gp) (i : Nat) : List Value := [vs.getD i nilV, .int .i64 (gs.getD i g0).z]
abbrev gRows (vs : List Value) (gs : List Gp) : List (List Value) := (List.range gs.length).map (gRow vs gs)
def RowsG (h : Heap) (v : Value) (gs : List Gp) : Prop := ∃ vs, Rows h 2 v (gRows vs gs) ∧ ∀ i, i < gs.length → Rows h 1 (vs.getD i nilV) (ints (gs.getD i g0).ms)
structure OwnGs (h : Heap) (lo hi : Nat) (ty : TypeId) (v : Value) (gs : List Gp) (vs : List Value) : Prop where
  out : Own h lo hi 2 ty v (gRows vs gs)
  ins : ∀ i, i < gs.length → Own h lo hi 1 y_int (vs.getD i nilV) (ints (gs.getD i g0).ms)
  so : ∀ i, i < gs.length → Sep v (vs.getD i nilV)
  si : ∀ i j, i < j → j < gs.length → Sep (vs.getD i nilV) (vs.getD j nilV)
def OwnG (h : Heap) (lo hi : Nat) (ty : TypeId) (v : Value) (gs : List Gp) : Prop := ∃ vs, OwnGs h lo hi ty v gs vs
section
variable {h h' : Heap} {lo hi lo' hi' : Nat} {ty : TypeId} {v : Value} {gs : List Gp}
theorem RowsG.up (o : RowsG h v gs) (hp : h <+: h') : RowsG h' v gs := by
  obtain ⟨vs, h1, h2⟩ := o
  exact ⟨vs, h1.up hp, fun i hi => (h2 i hi).up hp⟩
theorem RowsG.ln (o : RowsG h v gs) : lnV h v = some (.int .i64 gs.length) := by
  obtain ⟨vs, h1, h2⟩ := o
  rw [h1.ln, List.length_map, List.length_range]
theorem RowsG.el (o : RowsG h v gs) {i : Nat} (hi : i < gs.length) : ∃ x, iaV h 2 v (.int .i64 (i : Int)) = some (elemP v 2 i 0) ∧ (∀ o k, faV h (elemP v 2 i o) k = some (elemP v 2 i (o + k))) ∧ ldC h (elemP v 2 i 0) 2 = some [x, .int .i64 (gs.getD i g0).z] ∧
    ldC h (elemP v 2 i 0) 1 = some [x] ∧ ldC h (elemP v 2 i 1) 1 = some [.int .i64 (gs.getD i g0).z] ∧ Rows h 1 x (ints (gs.getD i g0).ms) := by
  obtain ⟨vs, h1, h2⟩ := o
  have hr : i < (List.range gs.length).length := by simpa using hi
  have e := h1.el (f := gRow vs gs) 0 hr
  have c0 := h1.cell (f := gRow vs gs) 0 hr (o := 0) (by omega)
  have c1 := h1.cell (f := gRow vs gs) 0 hr (o := 1) (by omega)
  rw [range_getD hi] at e c0 c1
  exact ⟨vs.getD i nilV, e.1, e.2.1, e.2.2, c0, c1, h2 i hi⟩
theorem OwnG.rows (o : OwnG h lo hi ty v gs) : RowsG h v gs := by
  obtain ⟨vs, h1, h2, _, _⟩ := o
  exact ⟨vs, h1.rows, fun i hi => (h2 i hi).rows⟩
theorem OwnG.up (o : OwnG h lo hi ty v gs) (hp : h <+: h') : OwnG h' lo hi ty v gs := by
  obtain ⟨vs, h1, h2, h3, h4⟩ := o
  exact ⟨vs, h1.up hp, fun i hi => (h2 i hi).up hp, h3, h4⟩
theorem OwnG.wide (o : OwnG h lo hi ty v gs) (k1 : lo' ≤ lo) (k2 : hi ≤ hi') : OwnG h lo' hi' ty v gs := by
  obtain ⟨vs, h1, h2, h3, h4⟩ := o
  exact ⟨vs, h1.wide k1 k2, fun i hi => (h2 i hi).wide k1 k2, h3, h4⟩
theorem OwnG.same (o : OwnG h lo hi ty v gs) (a : Same lo' hi' h h') (hd : hi ≤ lo' ∨ hi' ≤ lo) : OwnG h' lo hi ty v gs := by
  obtain ⟨vs, h1, h2, h3, h4⟩ := o
  exact ⟨vs, h1.same a hd, fun i hi => (h2 i hi).same a hd, h3, h4⟩
end
def proofV (yv gv : Value) : Value := .agg ⟨[yv, gv]⟩
def PfBnd (ys : List Int) (gs : List Gp) : Prop := ys.length ≤ 1048576 ∧ gs.length ≤ 1048576 ∧ ∀ g ∈ gs, g.ms.length ≤ 1048576
/-- A group is right. -/
def GrOk (size : Int) (g : Gp) : Prop := (3 ≤ g.ms.length ∧ g.ms.length % 2 = 1 ∧ 1 ≤ g.z ∧ g.z ≤ 1000000000) ∧ ∀ j, j < g.ms.length → (0 ≤ g.ms.getD j 0 ∧ g.ms.getD j 0 ≤ size - 1) ∧ (0 < j → g.ms.getD (j - 1) 0 < g.ms.getD j 0)
/-- One has all of the other one, or they have none in common. -/
def Nest (a b : List Int) : Prop := (∀ x ∈ b, x ∈ a) ∨ (∀ x ∈ b, ¬ x ∈ a) ∨ ∀ x ∈ a, x ∈ b
def scalar (w1 w2 w3 : Int) : Int := 90000 * w1 + 300 * w2 + w3
end Go.Proofs.YtjgacjidaeahdaaGreatDoor.Ab
set_option linter.unusedSimpArgs false
set_option linter.unusedVariables false
set_option linter.unnecessarySimpa false
set_option maxHeartbeats 4000000
namespace Go.Proofs.YtjgacjidaeahdaaGreatDoor.Ab
open Go.RowKit
section
variable {X : CallF} {h : Heap} {v w y y' : Value} {gs : List Gp} {ys il : List Int} {n z : Int}
theorem k_eqGroup (ha : Rows h 1 v (ints il)) (hb : Rows h 1 w (ints il)) (hl : il.length ≤ lim) : C T X n_laws_eqGroup [.agg ⟨[v, .int .i64 z]⟩, .agg ⟨[w, .int .i64 z]⟩] h = some (.bool true, h) := by
  refine C_go t_laws_eqGroup rfl ?_
  unfold F_laws_eqGroup
  simp only [k_eqIntS ha hb hl, go_sem]
theorem k_eqGroupS (ha : RowsG h v gs) (hb : RowsG h w gs) (hl : gs.length ≤ lim) (hm : ∀ g ∈ gs, g.ms.length ≤ lim) : C T X n_laws_eqGroupS [v, w] h = some (.bool true, h) := by
  unfold lim at hl
  refine C_go t_laws_eqGroupS rfl ?_
  unfold F_laws_eqGroupS
  simp only [ha.ln, hb.ln, go_sem]
  refine w_for gs.length (fun i t loc h' => h' = h ∧ t 0 = v ∧ t 1 = w ∧ t 5 = .int .i64 i) ⟨rfl, rfl, rfl, rfl⟩ ?_
  rintro i t loc h' hi ⟨rfl, t0, t1, t5⟩
  simp only [t0, t5, ha.ln, go_sem]
  refine w_open (by simp only [go_sem]; rfl) ?_ ?_ <;> intro hc
  · have hi1 : i < gs.length := by omega
    have hw : IntKind.i64.wrap ((i : Int) + 1) = ((i + 1 : Nat) : Int) := w64 (by omega) (by omega)
    obtain ⟨x, e1, e2, e3, e4, e5, e6⟩ := ha.el hi1
    obtain ⟨x', f1, f2, f3, f4, f5, f6⟩ := hb.el hi1
    have hc := k_eqGroup (X := X) (z := (gs.getD i g0).z) e6 f6 (hm _ (getD_mem hi1))
    simp only [t0, t1, t5, e1, e3, f1, f3, hc, hw, List.prefix_refl, go_sem]
    exact hi1
  · simp only [go_sem]
theorem k_eqProof (ha : Rows h 1 y (ints ys)) (hb : Rows h 1 y' (ints ys)) (hg : RowsG h v gs) (hg' : RowsG h w gs) (hp : PfBnd ys gs) : C T X n_laws_eqProof [proofV y v, proofV y' w] h = some (.bool true, h) := by
  refine C_go t_laws_eqProof rfl ?_
  unfold F_laws_eqProof proofV
  have c1 := k_eqIntS (X := X) ha hb (by have := hp.1; unfold lim; omega)
  have c2 := k_eqGroupS (X := X) hg hg' (by have := hp.2.1; unfold lim; omega) (fun g hg => by have := hp.2.2 g hg; unfold lim; omega)
  simp only [c1, c2, go_sem]
end
end Go.Proofs.YtjgacjidaeahdaaGreatDoor.Ab
set_option linter.unusedSimpArgs false
set_option linter.unusedVariables false
set_option linter.unnecessarySimpa false
set_option maxHeartbeats 4000000
namespace Go.Proofs.YtjgacjidaeahdaaGreatDoor.Ab
open Go.RowKit
theorem varL_len (n : Nat) (h : n ≤ 1000000000) : (varL n).length ≤ 5 := by
  have key : ∀ k n, n < 128 ^ k → 0 < k → (varL n).length ≤ k := by
    intro k
    induction k with
    | zero => intro n _ h; omega
    | succ k ih =>
      intro n hn _
      unfold varL
      split
      · have : n / 128 < 128 ^ k := by rw [Nat.pow_succ] at hn; exact Nat.div_lt_of_lt_mul (by omega)
        have hk : 0 < k := by
          cases k with
          | zero => simp at hn; omega
          | succ k => omega
        have := ih _ this hk
        simp; omega
      · simp
  exact key 5 n (by omega) (by omega)
section
variable {X : CallF} {h : Heap}
theorem k_spec_l01Var {n : Nat} (hn : n ≤ 1000000000) : C T X n_spec_l01Var [.int .i64 n] h = some (.string (varT n), h) := by
  refine C_go t_spec_l01Var rfl ?_
  unfold F_spec_l01Var
  simp only [go_sem]
  refine w_meas n (fun m t loc h' => ∃ pre v, t 0 = .int .i64 (m : Nat) ∧ t 3 = v ∧ Acc h 1 y_byte v (bys pre) h' ∧ pre.length + (varL m).length ≤ 5 ∧ m ≤ n ∧ pre ++ varL m = varL n) ⟨[], _, rfl, rfl, Acc.new, by have := varL_len n hn; simpa using this, Nat.le_refl _, rfl⟩ ?_
  rintro m t loc h' ⟨pre, v, t0, t3, hacc, hlen, hm, hpre⟩
  simp only [t0, t3, go_sem]
  refine w_open (by simp only [t0, t3, go_sem]; rfl) ?_ ?_ <;> intro hc
  · have hb : IntKind.u8.wrap (IntKind.i64.wrap (((m % 128 : Nat) : Int) + 128)) = ((m % 128 + 128 : Nat) : Int) := by rw [w64 (by omega) (by omega), wu8 (by omega) (by omega)]; omega
    have hd : IntKind.i64.wrap ((m / 128 : Nat) : Int) = ((m / 128 : Nat) : Int) := w64 (by omega) (by omega)
    have hv : varL m = ((m % 128 + 128 : Nat) : Int) :: varL (m / 128) := by rw [varL]; rw [if_pos (by omega)]
    rw [hv] at hlen hpre
    obtain ⟨v', hh', ha, hacc'⟩ := hacc.push1 [.int .u8 ((m % 128 + 128 : Nat) : Int)] rfl (by rw [bys_len]; unfold lim; simp at hlen; omega)
    simp only [t0, t3, tmod128, tdiv128, hb, hd, ha, go_sem]
    refine ⟨m / 128, by omega, pre ++ [((m % 128 + 128 : Nat) : Int)], v', rfl, rfl, by simpa [bys] using hacc', by simp at hlen ⊢; omega, by omega, by simpa using hpre⟩
  · have hb : IntKind.u8.wrap (m : Int) = m := wu8 (by omega) (by omega)
    have hv : varL m = [(m : Int)] := by rw [varL]; rw [if_neg (by omega)]
    rw [hv] at hlen hpre
    obtain ⟨v', hh', ha, hacc'⟩ := hacc.push1 [.int .u8 (m : Int)] rfl (by rw [bys_len]; unfold lim; simp at hlen; omega)
    have hstr : strV hh' v' = some (.string (varT n)) := by
      have : Acc h 1 y_byte v' (bys (varL n)) hh' := by rw [← hpre]; simpa [bys] using hacc'
      exact this.rows.str
    simp only [t0, t3, hb, ha, hstr, go_sem]
    exact finish_flat rfl hacc'.up
end
end Go.Proofs.YtjgacjidaeahdaaGreatDoor.Ab
set_option linter.unusedSimpArgs false
set_option linter.unusedVariables false
set_option linter.unnecessarySimpa false
set_option maxHeartbeats 4000000
namespace Go.Proofs.YtjgacjidaeahdaaGreatDoor.Ab
open Go.RowKit
def vt (n : Int) : ByteArray := if 0 ≤ n ∧ n ≤ 1000000000 then varT n.toNat else noT
def catV (s : ByteArray) (l : List Int) : ByteArray := l.foldl (fun s n => s ++ vt n) s
theorem catV_acc {a : ByteArray} : ∀ {l : List Int} {b : ByteArray}, catV (a ++ b) l = a ++ catV b l
  | [], b => rfl
  | n :: l, b => by
    show catV (a ++ b ++ vt n) l = a ++ catV (b ++ vt n) l
    rw [ByteArray.append_assoc, catV_acc]
theorem catV_from {a : ByteArray} {l : List Int} : a ++ catV noT l = catV a l := by
  rw [← catV_acc, show noT = ByteArray.empty from rfl, ByteArray.append_empty]
theorem vt_size (n : Int) : (vt n).size ≤ 5 := by
  unfold vt
  split
  · unfold varT; rw [strOfNums_size]; exact varL_len _ (by omega)
  · exact Nat.zero_le _
theorem catV_size {s : ByteArray} : ∀ {l : List Int}, (catV s l).size ≤ s.size + 5 * l.length := by
  intro l
  induction l generalizing s with
  | nil => simp [catV]
  | cons n l ih =>
    show (catV (s ++ vt n) l).size ≤ _
    have := ih (s := s ++ vt n)
    rw [ByteArray.size_append] at this
    have := vt_size n
    simp only [List.length_cons]
    omega
section
variable {X : CallF} {h : Heap} {v : Value} {l : List Int}
theorem k_spec_l01Var' {n : Int} (h0 : 0 ≤ n) (h1 : n ≤ 1000000000) : C T X n_spec_l01Var [.int .i64 n] h = some (.string (vt n), h) := by
  obtain ⟨k, rfl⟩ := Int.eq_ofNat_of_zero_le h0
  rw [k_spec_l01Var (by omega)]
  unfold vt
  rw [if_pos ⟨h0, h1⟩]
  rfl
end
end Go.Proofs.YtjgacjidaeahdaaGreatDoor.Ab
set_option linter.unusedSimpArgs false
set_option linter.unusedVariables false
set_option linter.unnecessarySimpa false
set_option maxHeartbeats 4000000
namespace Go.Proofs.YtjgacjidaeahdaaGreatDoor.Ab
open Go.RowKit
/-- An edge between two vertices. -/
abbrev Join (a b : Int) (e : E) : Prop := (e.a = a ∧ e.b = b) ∨ (e.a = b ∧ e.b = a)
/-- The place of an edge between two vertices, or -1. -/
def edgeIx (l : List E) (a b : Int) : Int := firstIx (Join a b) l
section
variable {X : CallF} {h : Heap} {a v : Value} {l : List Int} {es : List E} {n x y size : Int}
theorem k_impl_hasInt (ha : Rows h 1 a (ints l)) (hl : l.length ≤ lim) : C T X n_impl_hasInt [a, .int .i64 n] h = some (.bool (decide (n ∈ l)), h) := by
  unfold lim at hl
  refine C_go t_impl_hasInt rfl ?_
  unfold F_impl_hasInt
  simp only [ints_ln ha, go_sem]
  refine w_for l.length (fun i t loc h' => h' = h ∧ t 1 = .int .i64 n ∧ t 7 = a ∧ t 8 = .int .i64 l.length ∧ t 9 = .int .i64 i ∧ ∀ j, j < i → ¬ l.getD j 0 = n) ⟨rfl, rfl, rfl, rfl, rfl, fun j hj => by omega⟩ ?_
  rintro i t loc h' hi ⟨rfl, t1, t7, t8, t9, hall⟩
  simp only [t8, t9, go_sem]
  refine w_open (by simp only [go_sem]; rfl) ?_ ?_ <;> intro hc
  · have hi1 : i < l.length := by omega
    have hw : IntKind.i64.wrap ((i : Int) + 1) = ((i + 1 : Nat) : Int) := w64 (by omega) (by omega)
    have hel := int_el ha hi1
    by_cases e : l.getD i 0 = n
    · have hm : n ∈ l := e ▸ getD_mem hi1
      simp only [t1, t7, t8, t9, hel.1, hel.2, e, hm, go_sem]
    · simp only [t1, t7, t8, t9, hel.1, hel.2, e, hw, go_sem]
      exact ⟨hi1, below_succ hall e⟩
  · have hm : ¬ n ∈ l := not_mem_getD (d := 0) fun j hj => hall j (by omega)
    simp only [hm, go_sem]
theorem k_spec_l03In (ha : Rows h 1 a (ints l)) (hl : l.length ≤ lim) : C T X n_spec_l03In [a, .int .i64 n] h = some (.bool (decide (n ∈ l)), h) := by
  unfold lim at hl
  refine C_go t_spec_l03In rfl ?_
  unfold F_spec_l03In
  simp only [go_sem]
  refine w_for l.length (fun i t loc h' => h' = h ∧ t 0 = a ∧ t 1 = .int .i64 n ∧ t 5 = .int .i64 i ∧ ∀ j, j < i → ¬ l.getD j 0 = n) ⟨rfl, rfl, rfl, rfl, fun j hj => by omega⟩ ?_
  rintro i t loc h' hi ⟨rfl, t0, t1, t5, hall⟩
  simp only [t0, t5, ints_ln ha, go_sem]
  refine w_open (by simp only [go_sem]; rfl) ?_ ?_ <;> intro hc
  · have hi1 : i < l.length := by omega
    have hw : IntKind.i64.wrap ((i : Int) + 1) = ((i + 1 : Nat) : Int) := w64 (by omega) (by omega)
    have hel := int_el ha hi1
    by_cases e : l.getD i 0 = n
    · have hm : n ∈ l := e ▸ getD_mem hi1
      simp only [t0, t1, t5, hel.1, hel.2, e, hm, go_sem]
    · simp only [t0, t1, t5, hel.1, hel.2, e, hw, go_sem]
      exact ⟨hi1, below_succ hall e⟩
  · have hm : ¬ n ∈ l := not_mem_getD (d := 0) fun j hj => hall j (by omega)
    simp only [hm, go_sem]
theorem k_impl_edgeAt (he : Rows h 5 v (edges es)) (hl : es.length ≤ lim) : C T X n_impl_edgeAt [graphV size v, .int .i64 x, .int .i64 y] h = some (.int .i64 (edgeIx es x y), h) := by
  unfold lim at hl
  refine C_go t_impl_edgeAt rfl ?_
  unfold F_impl_edgeAt graphV edgeIx
  simp only [he.lnm, go_sem]
  refine w_for es.length (fun i t loc h' => h' = h ∧ t 1 = .int .i64 x ∧ t 2 = .int .i64 y ∧ t 10 = v ∧ t 11 = .int .i64 es.length ∧ t 12 = .int .i64 i ∧ ∀ j, j < i → ¬ Join x y (es.getD j e0)) ⟨rfl, rfl, rfl, rfl, rfl, rfl, fun j hj => by omega⟩ ?_
  rintro i t loc h' hi ⟨rfl, t1, t2, t10, t11, t12, hall⟩
  simp only [t11, t12, go_sem]
  refine w_open (by simp only [go_sem]; rfl) ?_ ?_ <;> intro hc
  · have hi1 : i < es.length := by omega
    have hw : IntKind.i64.wrap ((i : Int) + 1) = ((i + 1 : Nat) : Int) := w64 (by omega) (by omega)
    have hel := edge_el he hi1
    by_cases e1 : (es.getD i e0).a = x ∧ (es.getD i e0).b = y
    · have hm := firstIx_at hi1 (.inl e1 : Join x y (es.getD i e0)) hall
      simp only [t1, t2, t10, t11, t12, hel.1, hel.2.2.1, e1.1, e1.2, hm, go_sem]
    by_cases e2 : (es.getD i e0).a = y ∧ (es.getD i e0).b = x
    · have hm := firstIx_at hi1 (.inr e2 : Join x y (es.getD i e0)) hall
      by_cases hxy : y = x
      · subst hxy; exact absurd e2 e1
      simp only [t1, t2, t10, t11, t12, hel.1, hel.2.2.1, e2.1, e2.2, hxy, hm, go_sem]
    have hn : ¬ Join x y (es.getD i e0) := fun hj => hj.elim e1 e2
    by_cases f1 : (es.getD i e0).a = x
    · have f2 : ¬ (es.getD i e0).b = y := fun h => e1 ⟨f1, h⟩
      by_cases f3 : x = y
      · subst f3
        simp only [t1, t2, t10, t11, t12, hel.1, hel.2.2.1, f1, f2, hw, go_sem]
        exact ⟨hi1, below_succ hall hn⟩
      · simp only [t1, t2, t10, t11, t12, hel.1, hel.2.2.1, f1, f2, f3, hw, go_sem]
        exact ⟨hi1, below_succ hall hn⟩
    · by_cases f3 : (es.getD i e0).a = y
      · have f4 : ¬ (es.getD i e0).b = x := fun h => e2 ⟨f3, h⟩
        rw [f3] at f1
        simp only [t1, t2, t10, t11, t12, hel.1, hel.2.2.1, f1, f3, f4, hw, go_sem]
        exact ⟨hi1, below_succ hall hn⟩
      · simp only [t1, t2, t10, t11, t12, hel.1, hel.2.2.1, f1, f3, hw, go_sem]
        exact ⟨hi1, below_succ hall hn⟩
  · have hm : firstIx (Join x y) es = -1 := firstIx_none (d := e0) fun j hj => hall j (by omega)
    simp only [hm, go_sem]
theorem k_spec_l08At (he : Rows h 5 v (edges es)) (hl : es.length ≤ lim) : C T X n_spec_l08At [graphV size v, .int .i64 x, .int .i64 y] h = some (.int .i64 (edgeIx es x y), h) := by
  unfold lim at hl
  refine C_go t_spec_l08At rfl ?_
  unfold F_spec_l08At graphV edgeIx
  simp only [go_sem]
  refine w_for es.length (fun i t loc h' => h' = h ∧ loc 3 = some [.int .i64 size, v] ∧ t 1 = .int .i64 x ∧ t 2 = .int .i64 y ∧ t 7 = .int .i64 i ∧ ∀ j, j < i → ¬ Join x y (es.getD j e0)) ⟨rfl, rfl, rfl, rfl, rfl, fun j hj => by omega⟩ ?_
  rintro i t loc h' hi ⟨rfl, l3, t1, t2, t7, hall⟩
  simp only [l3, t7, he.lnm, go_sem]
  refine w_open (by simp only [go_sem]; rfl) ?_ ?_ <;> intro hc
  · have hi1 : i < es.length := by omega
    have hw : IntKind.i64.wrap ((i : Int) + 1) = ((i + 1 : Nat) : Int) := w64 (by omega) (by omega)
    have hel := edge_el he hi1
    by_cases e1 : (es.getD i e0).a = x ∧ (es.getD i e0).b = y
    · have hm := firstIx_at hi1 (.inl e1 : Join x y (es.getD i e0)) hall
      simp only [l3, t1, t2, t7, hel, e1.1, e1.2, hm, go_sem]
    by_cases e2 : (es.getD i e0).a = y ∧ (es.getD i e0).b = x
    · have hm := firstIx_at hi1 (.inr e2 : Join x y (es.getD i e0)) hall
      by_cases hxy : y = x
      · subst hxy; exact absurd e2 e1
      simp only [l3, t1, t2, t7, hel, e2.1, e2.2, hxy, hm, go_sem]
    have hn : ¬ Join x y (es.getD i e0) := fun hj => hj.elim e1 e2
    by_cases f1 : (es.getD i e0).a = x
    · have f2 : ¬ (es.getD i e0).b = y := fun h => e1 ⟨f1, h⟩
      by_cases f3 : x = y
      · subst f3
        simp only [l3, t1, t2, t7, hel, f1, f2, hw, go_sem]
        exact ⟨hi1, below_succ hall hn⟩
      · simp only [l3, t1, t2, t7, hel, f1, f2, f3, hw, go_sem]
        exact ⟨hi1, below_succ hall hn⟩
    · by_cases f3 : (es.getD i e0).a = y
      · have f4 : ¬ (es.getD i e0).b = x := fun h => e2 ⟨f3, h⟩
        rw [f3] at f1
        simp only [l3, t1, t2, t7, hel, f1, f3, f4, hw, go_sem]
        exact ⟨hi1, below_succ hall hn⟩
      · simp only [l3, t1, t2, t7, hel, f1, f3, hw, go_sem]
        exact ⟨hi1, below_succ hall hn⟩
  · have hm : firstIx (Join x y) es = -1 := firstIx_none (d := e0) fun j hj => hall j (by omega)
    simp only [hm, go_sem]
end
end Go.Proofs.YtjgacjidaeahdaaGreatDoor.Ab
