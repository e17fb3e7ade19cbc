/- Joined: H0, K0, K3, H5, K4, K7, K8, K5, K10, K11, K13, P1, R6, K9, R7. No conditions. -/
import Derived.Test.YtgmljppiiighmaaGreatDoorFT
import Derived.Test.YtgmljppiiighmaaGreatDoorM4
import Derived.Test.YtgmljppiiighmaaGreatDoorFN
set_option linter.unusedSimpArgs false
set_option linter.unusedVariables false
set_option linter.unnecessarySimpa false
set_option maxHeartbeats 4000000
namespace Go.Proofs.YtgmljppiiighmaaGreatDoor.Ab
open Go.RowKit
section
variable {X : CallF} {h : Heap}
theorem k_markText {k : Nat} (hk : k ≤ 4611686018427387904) : C T X n_laws_markText [.int .i64 (k : Int)] h = some (.string (mkT k), h) := by
  refine C_go t_laws_markText rfl ?_
  unfold F_laws_markText
  simp only [go_sem]
  refine w_open (by simp only [go_sem]; rfl) ?_ ?_ <;> intro hc
  · have : k = 0 := by omega
    subst this
    simp only [go_sem]
    rfl
  simp only [go_sem]
  refine w_meas k (fun m t loc h' => h' = h ∧ ∃ s : ByteArray, t 0 = .int .i64 (m : Nat) ∧ t 3 = .string s ∧ m ≤ k ∧ mkD m s = mkD k noT ∧ (∃ c, m < 10 ^ c ∧ s.size + c ≤ 19)) ⟨rfl, noT, rfl, rfl, Nat.le_refl _, rfl, 19, by omega, by decide⟩ ?_
  rintro m t loc h' ⟨rfl, s, t0, t3, hm, hd, c, hc1, hc2⟩
  simp only [t0, t3, go_sem]
  refine w_open (by simp only [t0, t3, go_sem]; rfl) ?_ ?_ <;> intro hc'
  · have e : IntKind.u8.wrap (IntKind.i64.wrap (48 + ((m % 10 : Nat) : Int))) = ((48 + m % 10 : Nat) : Int) := by rw [w64 (by omega) (by omega), wu8 (by omega) (by omega)]; omega
    have hq : IntKind.i64.wrap ((m / 10 : Nat) : Int) = ((m / 10 : Nat) : Int) := w64 (by omega) (by omega)
    have hr : ((m : Int).tmod 10) = ((m % 10 : Nat) : Int) := rfl
    have hv : ((m : Int).tdiv 10) = ((m / 10 : Nat) : Int) := rfl
    have hcp : 0 < c := by
      cases c with
      | zero => simp at hc1; omega
      | succ c => omega
    have hsz : (strOfNums [((48 + m % 10 : Nat) : Int)]).size + s.size ≤ 9223372036854775807 := by rw [strOfNums_size]; simp only [List.length_cons, List.length_nil]; omega
    simp only [t0, t3, hr, hv, e, hq, strLV, ints8, isInt8, Option.map_some, hsz, go_sem]
    refine ⟨m / 10, by omega, _, rfl, rfl, by omega, ?_, c - 1, ?_, ?_⟩
    · rw [← hd, mkD_pos (n := m) (by omega)]
    · have : 10 ^ c = 10 ^ (c - 1) * 10 := by rw [← Nat.pow_succ]; congr 1; omega
      omega
    · rw [ByteArray.size_append, strOfNums_size]; simp only [List.length_cons, List.length_nil]; omega
  · have : m = 0 := by omega
    subst this
    have hs : s = mkD k noT := by rw [← hd, mkD_zero]
    have hsz : mByte.size + s.size ≤ 9223372036854775807 := by
      have : mByte.size = 1 := rfl
      omega
    simp only [t3, show (⟨⟨[109]⟩⟩ : ByteArray) = mByte from rfl, hsz, go_sem]
    unfold mkT
    rw [if_neg (by omega), hs]
end
section
variable {X : CallF} {h : Heap} {a b : Value} {l : List E} {rws : List (List Value)} {k : Nat}
end
section
variable {X : CallF} {h : Heap} {a b : Value} {l : List Cp} {rws : List (List Value)} {k : Nat}
end
section
variable {X : CallF} {h : Heap} {a b : Value} {l : List Pr} {rws : List (List Value)} {k : Nat}
theorem k_eqPair {l : Pr} : C T X n_laws_eqPair [.agg ⟨prR l⟩, .agg ⟨prR l⟩] h = some (.bool true, h) := by
  refine C_go t_laws_eqPair rfl ?_
  unfold F_laws_eqPair prR
  simp only [BEq.rfl, go_sem]
  try rfl
theorem k_eqPairS (ha : Rows h 2 a (prsL l)) (hb : Rows h 2 b (prsL l)) (hl : l.length ≤ lim) : C T X n_laws_eqPairS [a, b] h = some (.bool true, h) := by
  unfold lim at hl
  refine C_go t_laws_eqPairS rfl ?_
  unfold F_laws_eqPairS
  simp only [Rows.lnm (f := prR) ha, Rows.lnm (f := prR) hb, go_sem]
  refine w_for l.length (fun i t loc h' => h' = h ∧ t 0 = a ∧ t 1 = b ∧ t 5 = .int .i64 i) ⟨rfl, rfl, rfl, rfl⟩ ?_
  rintro i t loc h' hi ⟨rfl, t0, t1, t5⟩
  simp only [t0, t5, Rows.lnm (f := prR) ha, go_sem]
  refine w_open (by simp only [go_sem]; rfl) ?_ ?_ <;> intro hc
  · have hi1 : i < l.length := by omega
    have hw : IntKind.i64.wrap ((i : Int) + 1) = ((i + 1 : Nat) : Int) := w64 (by omega) (by omega)
    have hel := ha.el (f := prR) p0 hi1
    have hel2 := hb.el (f := prR) p0 hi1
    have hl2 : ofCells true (prR (l.getD i p0)) = some (.agg ⟨prR (l.getD i p0)⟩) := rfl
    skip
    simp only [t0, t1, t5, hel.1, hel.2.2, hel2.1, hel2.2.2, k_eqPair, hw, hl2, Option.bind_some, BEq.rfl, List.prefix_refl, go_sem]
    exact hi1
  · simp only [go_sem]
def mkPair (k : Nat) : List Value := [.string (mkT (k + 0)), .string (mkT (k + 1))]
theorem k_markPairS {lo hi : Nat} (o : Own h lo hi 2 y_Pair a rws) (hl : rws.length ≤ lim) {k : Nat} (hk : k ≤ 2305843009213693952) : ∃ h', C T X n_laws_markPairS [a, .int .i64 (k : Int)] h = some (.int .i64 ((k + rws.length * 2 : Nat) : Int), h') ∧ Same lo hi h h' ∧ Own h' lo hi 2 y_Pair a (mkRows mkPair k 2 rws.length) := by
  unfold lim at hl
  refine C_exH t_laws_markPairS rfl ?_
  unfold F_laws_markPairS
  simp only [go_sem]
  refine w_for rws.length (fun i t loc h' => t 0 = a ∧ t 1 = .int .i64 ((k + i * 2 : Nat) : Int) ∧ t 5 = .int .i64 i ∧ Same lo hi h h' ∧ ∃ R, R.length = rws.length ∧ (∀ j, j < i → R[j]? = some (mkPair (k + j * 2))) ∧ Own h' lo hi 2 y_Pair a R) ⟨rfl, by simp [upd], rfl, Same.refl, rws, rfl, fun j hj => by omega, o⟩ ?_
  rintro i t loc h0 hi ⟨t0, t1, t5, hs, R, hR, hj, o0⟩
  simp only [t0, t5, o0.ln, hR, go_sem]
  refine w_open (by simp only [go_sem]; rfl) ?_ ?_ <;> intro hc
  · have hi1 : i < rws.length := by omega
    have hi2 : i < R.length := by omega
    have hw : IntKind.i64.wrap ((i : Int) + 1) = ((i + 1 : Nat) : Int) := w64 (by omega) (by omega)
    have w0 : IntKind.i64.wrap (((k + i * 2 : Nat) : Int) + 1) = ((k + i * 2 + 1 : Nat) : Int) := w64 (by omega) (by omega)
    have w1 : IntKind.i64.wrap (((k + i * 2 + 1 : Nat) : Int) + 1) = ((k + i * 2 + 2 : Nat) : Int) := w64 (by omega) (by omega)
    have q0 := o0.self hi2
    obtain ⟨r, hr⟩ : ∃ r, R[i] = r := ⟨_, rfl⟩
    have hrl := o0.row_len hi2
    rw [hr] at q0 hrl
    obtain ⟨r0, r1, rfl⟩ : ∃ r0 r1, r = [r0, r1] := by
      match r, hrl with
      | [r0, r1], _ => exact ⟨r0, r1, rfl⟩
    have el0 := q0.el (i := i) (by simpa using hi2)
    obtain ⟨h1, e0, s0, q1⟩ := q0.st2 hi2 (k := 0) (vs := [.string (mkT (k + i * 2))]) (by simp)
    simp only [putAt, List.take_zero, List.take_succ_cons, List.drop_zero, List.drop_succ_cons, List.nil_append, List.cons_append, List.length_cons, List.length_nil, Nat.zero_add, List.append_nil, List.drop_nil, Nat.reduceAdd] at q1
    have el1 := q1.el (i := i) (by simpa using hi2)
    obtain ⟨h2, e1, s1, q2⟩ := q1.st2 hi2 (k := 1) (vs := [.string (mkT (k + i * 2 + 1))]) (by simp)
    simp only [putAt, List.take_zero, List.take_succ_cons, List.drop_zero, List.drop_succ_cons, List.nil_append, List.cons_append, List.length_cons, List.length_nil, Nat.zero_add, List.append_nil, List.drop_nil, Nat.reduceAdd] at q2
    (try simp only [Nat.add_zero, Nat.zero_add] at w0 e0 el0)
    simp only [t0, t1, t5, hw, k_markText (X := X) (k := k + i * 2) (by omega), k_markText (X := X) (k := k + i * 2 + 1) (by omega), el0.1, el0.2, e0, w0, el1.1, el1.2, e1, w1, Nat.add_zero, Nat.zero_add, go_sem]
    have hs' := ((hs.trans s0).trans s1)
    refine ⟨hi1, by first | omega | (congr 2; omega), hs', _, by simpa using hR, fun j hj2 => ?_, q2⟩
    by_cases e : j = i
    · subst e; rw [List.getElem?_set_self hi2]; rfl
    · rw [List.getElem?_set_ne (by omega)]; exact hj j (by omega)
  · have hil : i = rws.length := by omega
    subst hil
    have hRe : R = mkRows mkPair k 2 rws.length := rows_eq (by rw [hR, mkRows_len]) fun j hj2 => by rw [hj j (by omega), mkRows_get (by omega)]
    subst hRe
    simp only [t1, finish_room hs.len, go_sem]
    exact ⟨hs, o0⟩
theorem k_heldPairS {n : Nat} (ha : Rows h 2 a (mkRows mkPair k 2 n)) (hl : n ≤ lim) (hk : k ≤ 2305843009213693952) : C T X n_laws_heldPairS [a, .int .i64 (k : Int)] h = some (.int .i64 ((k + n * 2 : Nat) : Int), h) := by
  unfold lim at hl
  refine C_go t_laws_heldPairS rfl ?_
  unfold F_laws_heldPairS
  have hln : lnV h a = some (.int .i64 n) := by rw [ha.ln, mkRows_len]
  simp only [go_sem]
  refine w_for n (fun i t loc h' => h' = h ∧ t 0 = a ∧ t 1 = .int .i64 ((k + i * 2 : Nat) : Int) ∧ t 5 = .int .i64 i) ⟨rfl, rfl, by simp [upd], rfl⟩ ?_
  rintro i t loc h' hi ⟨rfl, t0, t1, t5⟩
  simp only [t0, t5, hln, go_sem]
  refine w_open (by simp only [go_sem]; rfl) ?_ ?_ <;> intro hc
  · have hi1 : i < n := by omega
    have hw : IntKind.i64.wrap ((i : Int) + 1) = ((i + 1 : Nat) : Int) := w64 (by omega) (by omega)
    have hi3 : i < (List.range n).length := by simpa using hi1
    have w0 : IntKind.i64.wrap (((k + i * 2 : Nat) : Int) + 1) = ((k + i * 2 + 1 : Nat) : Int) := w64 (by omega) (by omega)
    have w1 : IntKind.i64.wrap (((k + i * 2 + 1 : Nat) : Int) + 1) = ((k + i * 2 + 2 : Nat) : Int) := w64 (by omega) (by omega)
    have hel := ha.el (f := fun i => mkPair (k + i * 2)) 0 hi3
    have c0 := ha.cell (f := fun i => mkPair (k + i * 2)) 0 hi3 (o := 0) (by omega)
    rw [range_getD hi1] at c0
    simp only [mkPair, List.getD_cons_zero, List.getD_cons_succ] at c0
    have c1 := ha.cell (f := fun i => mkPair (k + i * 2)) 0 hi3 (o := 1) (by omega)
    rw [range_getD hi1] at c1
    simp only [mkPair, List.getD_cons_zero, List.getD_cons_succ] at c1
    simp only [Nat.add_zero, Nat.zero_add] at w0 c0
    simp only [t0, t1, t5, hw, k_markText (X := X) (k := k + i * 2) (by omega), k_markText (X := X) (k := k + i * 2 + 1) (by omega), hel.1, hel.2.1, c0, w0, c1, w1, Nat.add_zero, Nat.zero_add, BEq.rfl, List.prefix_refl, go_sem]
    exact ⟨hi1, by first | omega | (congr 2; omega)⟩
  · have hil : i = n := by omega
    subst hil
    simp only [t1, go_sem]
end
section
variable {X : CallF} {h : Heap} {a b : Value} {l : List Aq} {rws : List (List Value)} {k : Nat}
end
section
variable {X : CallF} {h : Heap} {a b : Value} {l : List Int} {rws : List (List Value)} {k : Nat}
end
section
variable {X : CallF} {h : Heap} {a b : Value} {l : List ByteArray} {rws : List (List Value)} {k : Nat}
end
end Go.Proofs.YtgmljppiiighmaaGreatDoor.Ab
set_option linter.unusedSimpArgs false
set_option linter.unusedVariables false
set_option linter.unnecessarySimpa false
set_option maxHeartbeats 4000000
namespace Go.Proofs.YtgmljppiiighmaaGreatDoor.Ab
open Go.RowKit
section
variable {X : CallF}
theorem k_impl_in {h : Heap} {n lo hi : Int} : C T X n_impl_in [.int .i64 n, .int .i64 lo, .int .i64 hi] h = some (.bool (decide (lo ≤ n) && decide (n ≤ hi)), h) := by
  refine C_intro T X t_impl_in rfl ?_
  unfold F_impl_in start
  simp only [go_sem]
  repeat (first | (refine w_any (by simp only [*, go_sem]; rfl) ?_ ?_ <;> intro hc <;> (try simp only [decide_eq_true_eq, decide_eq_false_iff_not, Decidable.not_not] at hc) <;> simp only [hc, go_sem]) | (refine so_any (by simp only [*, go_sem]; rfl) ?_ ?_ <;> intro hc <;> (try simp only [decide_eq_true_eq, decide_eq_false_iff_not, Decidable.not_not] at hc) <;> simp only [hc, go_sem]) | (refine so_any' (by simp only [*, go_sem]; rfl) ?_ ?_ <;> intro hc <;> (try simp only [decide_eq_true_eq, decide_eq_false_iff_not, Decidable.not_not] at hc) <;> simp only [hc, go_sem]) | (refine sf_any (by simp only [*, go_sem]; rfl) ?_ ?_ <;> intro hc <;> (try simp only [decide_eq_true_eq, decide_eq_false_iff_not, Decidable.not_not] at hc) <;> simp only [hc, go_sem]) | (refine sf_any' (by simp only [*, go_sem]; rfl) ?_ ?_ <;> intro hc <;> (try simp only [decide_eq_true_eq, decide_eq_false_iff_not, Decidable.not_not] at hc) <;> simp only [hc, go_sem]))
  all_goals (refine rets_slot rfl (.inl rfl) rfl ?_; simp only [*, go_sem, finish_same])
theorem k_spec_l01In {h : Heap} {n lo hi : Int} : C T X n_spec_l01In [.int .i64 n, .int .i64 lo, .int .i64 hi] h = some (.bool (decide (lo ≤ n) && decide (n ≤ hi)), h) := by
  refine C_intro T X t_spec_l01In rfl ?_
  unfold F_spec_l01In start
  simp only [go_sem]
  repeat (first | (refine w_any (by simp only [*, go_sem]; rfl) ?_ ?_ <;> intro hc <;> (try simp only [decide_eq_true_eq, decide_eq_false_iff_not, Decidable.not_not] at hc) <;> simp only [hc, go_sem]) | (refine so_any (by simp only [*, go_sem]; rfl) ?_ ?_ <;> intro hc <;> (try simp only [decide_eq_true_eq, decide_eq_false_iff_not, Decidable.not_not] at hc) <;> simp only [hc, go_sem]) | (refine so_any' (by simp only [*, go_sem]; rfl) ?_ ?_ <;> intro hc <;> (try simp only [decide_eq_true_eq, decide_eq_false_iff_not, Decidable.not_not] at hc) <;> simp only [hc, go_sem]) | (refine sf_any (by simp only [*, go_sem]; rfl) ?_ ?_ <;> intro hc <;> (try simp only [decide_eq_true_eq, decide_eq_false_iff_not, Decidable.not_not] at hc) <;> simp only [hc, go_sem]) | (refine sf_any' (by simp only [*, go_sem]; rfl) ?_ ?_ <;> intro hc <;> (try simp only [decide_eq_true_eq, decide_eq_false_iff_not, Decidable.not_not] at hc) <;> simp only [hc, go_sem]))
  all_goals (refine rets_slot rfl (.inl rfl) rfl ?_; simp only [*, go_sem, finish_same])
end
end Go.Proofs.YtgmljppiiighmaaGreatDoor.Ab
set_option linter.unusedSimpArgs false
set_option linter.unusedVariables false
set_option linter.unnecessarySimpa false
set_option maxHeartbeats 4000000
namespace Go.Proofs.YtgmljppiiighmaaGreatDoor.Ab
open Go.RowKit
/-- An edge is right. -/
def EOk (size : Int) (e : E) : Prop := 0 ≤ e.a ∧ e.a < e.b ∧ e.b < size ∧ 0 ≤ e.w1 ∧ e.w1 ≤ 50 ∧ 0 ≤ e.w2 ∧ e.w2 ≤ 50 ∧ 0 ≤ e.w3 ∧ e.w3 ≤ 50
/-- One edge stands ahead of another. -/
def ELt (p e : E) : Prop := p.a < e.a ∨ p.a = e.a ∧ p.b < e.b
/-- A graph is right. -/
def GOk (size : Int) (l : List E) : Prop := (0 ≤ size ∧ size ≤ 9) ∧ ∀ i, i < l.length → EOk size (l.getD i e0) ∧ (0 < i → ELt (l.getD (i - 1) e0) (l.getD i e0))
def graphV (size : Int) (ev : Value) : Value := .agg ⟨[.int .i64 size, ev]⟩
section
variable {X : CallF} {h : Heap} {size : Int} {ev : Value} {l : List E}
theorem k_spec_l08Worth {n : Int} : C T X n_spec_l08Worth [.int .i64 n] h = some (.bool (decide (0 ≤ n) && decide (n ≤ 50)), h) := by
  refine C_go t_spec_l08Worth rfl ?_
  unfold F_spec_l08Worth
  simp only [k_spec_l01In, go_sem]
set_option maxHeartbeats 4000000 in
open Classical in
theorem k_spec_GraphOk (he : Rows h 5 ev (edges l)) (hl : l.length ≤ lim) : C T X n_spec_GraphOk [graphV size ev] h = some (.bool (decide (GOk size l)), h) := by
  unfold lim at hl
  refine C_go t_spec_GraphOk rfl ?_
  unfold F_spec_GraphOk graphV
  simp only [k_spec_l01In, go_sem]
  refine w_any (by simp only [go_sem]; rfl) ?_ ?_ <;> intro hc <;> simp only [go_sem]
  · have : ¬ GOk size l := fun g => by
      have := g.1
      simp at hc
      omega
    simp only [this, go_sem]
  have hs : 0 ≤ size ∧ size ≤ 9 := by simpa using hc
  refine w_for l.length (fun i t loc h' => h' = h ∧ loc 1 = some [.int .i64 size, ev] ∧ t 3 = .int .i64 i ∧ ∀ j, j < i → EOk size (l.getD j e0) ∧ (0 < j → ELt (l.getD (j - 1) e0) (l.getD j e0)))
    ⟨rfl, rfl, rfl, fun j hj => by omega⟩ ?_
  rintro i t loc h' hi ⟨rfl, l1, t3, hall⟩
  simp only [l1, t3, he.lnm, go_sem]
  refine w_open (by simp only [l1, t3, go_sem]; rfl) ?_ ?_ <;> intro hc
  · have hi1 : i < l.length := by omega
    have hneg : ¬ (EOk size (l.getD i e0) ∧ (0 < i → ELt (l.getD (i - 1) e0) (l.getD i e0))) → ¬ GOk size l := fun hn g => hn (g.2 i hi1)
    have hnext : (EOk size (l.getD i e0) ∧ (0 < i → ELt (l.getD (i - 1) e0) (l.getD i e0))) → ∀ j, j < i + 1 → EOk size (l.getD j e0) ∧ (0 < j → ELt (l.getD (j - 1) e0) (l.getD j e0)) := fun hy j hj => by
      by_cases e : j = i
      · subst e; exact hy
      · exact hall j (by omega)
    have hw : IntKind.i64.wrap ((i : Int) + 1) = ((i + 1 : Nat) : Int) := w64 (by omega) (by omega)
    by_cases hE : EOk size (l.getD i e0)
    · obtain ⟨q1, q2, q3, q4, q5, q6, q7, q8, q9⟩ := hE
      have p1 : ¬ (l.getD i e0).a < 0 := by omega
      have p2 : ¬ (l.getD i e0).b ≤ (l.getD i e0).a := by omega
      have p3 : ¬ size ≤ (l.getD i e0).b := by omega
      have hE : EOk size (l.getD i e0) := ⟨q1, q2, q3, q4, q5, q6, q7, q8, q9⟩
      rcases Nat.eq_zero_or_pos i with hz | hp
      · have hz' : ¬ (0 : Int) < i := by omega
        simp only [l1, t3, edge_el he hi1, k_spec_l01In, k_spec_l08Worth, p1, p2, p3, q4, q5, q6, q7, q8, q9, hz', hw, go_sem]
        exact ⟨hi1, hnext ⟨hE, fun hp => by omega⟩⟩
      · have hp' : (0 : Int) < i := by omega
        have hw1 : IntKind.i64.wrap ((i : Int) - 1) = ((i - 1 : Nat) : Int) := by rw [w64 (by omega) (by omega)]; omega
        have hi2 : i - 1 < l.length := by omega
        simp only [l1, t3, edge_el he hi1, k_spec_l01In, k_spec_l08Worth, p1, p2, p3, q4, q5, q6, q7, q8, q9, hp', hw, hw1, edge_el he hi2, go_sem]
        repeat' (first | (refine w_any (by simp only [l1, t3, hp', hw, hw1, edge_el he hi2, go_sem]; rfl) ?_ ?_ <;> intro hc <;> (try simp only [decide_eq_true_eq, decide_eq_false_iff_not, Decidable.not_not, Bool.not_eq_true', Bool.not_eq_false'] at hc) <;> simp only [hc, l1, t3, hp', hw, hw1, edge_el he hi2, go_sem]) | (refine so_any (by simp only [l1, t3, hp', hw, hw1, edge_el he hi2, go_sem]; rfl) ?_ ?_ <;> intro hc <;> (try simp only [decide_eq_true_eq, decide_eq_false_iff_not, Decidable.not_not, Bool.not_eq_true', Bool.not_eq_false'] at hc) <;> simp only [hc, l1, t3, hp', hw, hw1, edge_el he hi2, go_sem]) | (refine so_any' (by simp only [l1, t3, hp', hw, hw1, edge_el he hi2, go_sem]; rfl) ?_ ?_ <;> intro hc <;> (try simp only [decide_eq_true_eq, decide_eq_false_iff_not, Decidable.not_not, Bool.not_eq_true', Bool.not_eq_false'] at hc) <;> simp only [hc, l1, t3, hp', hw, hw1, edge_el he hi2, go_sem]) | (refine sf_any (by simp only [l1, t3, hp', hw, hw1, edge_el he hi2, go_sem]; rfl) ?_ ?_ <;> intro hc <;> (try simp only [decide_eq_true_eq, decide_eq_false_iff_not, Decidable.not_not, Bool.not_eq_true', Bool.not_eq_false'] at hc) <;> simp only [hc, l1, t3, hp', hw, hw1, edge_el he hi2, go_sem]) | (refine sf_any' (by simp only [l1, t3, hp', hw, hw1, edge_el he hi2, go_sem]; rfl) ?_ ?_ <;> intro hc <;> (try simp only [decide_eq_true_eq, decide_eq_false_iff_not, Decidable.not_not, Bool.not_eq_true', Bool.not_eq_false'] at hc) <;> simp only [hc, l1, t3, hp', hw, hw1, edge_el he hi2, go_sem]))
        all_goals first
          | exact (decide_eq_false (hneg (fun hx => by have := hx.2 hp; simp only [ELt] at this; omega))).symm
          | exact ⟨hi1, hnext ⟨hE, fun _ => by simp only [ELt]; omega⟩⟩
    · have hneg' := hneg (fun hx => hE hx.1)
      have hr : false = decide (GOk size l) := (decide_eq_false hneg').symm
      simp only [l1, t3, edge_el he hi1, k_spec_l01In, k_spec_l08Worth, go_sem]
      repeat' (first | (refine w_any (by simp only [l1, t3, k_spec_l08Worth, go_sem]; rfl) ?_ ?_ <;> intro hc <;> (try simp only [decide_eq_true_eq, decide_eq_false_iff_not, Decidable.not_not, Bool.not_eq_true', Bool.not_eq_false'] at hc) <;> simp only [hc, l1, t3, k_spec_l08Worth, go_sem]) | (refine so_any (by simp only [l1, t3, k_spec_l08Worth, go_sem]; rfl) ?_ ?_ <;> intro hc <;> (try simp only [decide_eq_true_eq, decide_eq_false_iff_not, Decidable.not_not, Bool.not_eq_true', Bool.not_eq_false'] at hc) <;> simp only [hc, l1, t3, k_spec_l08Worth, go_sem]) | (refine so_any' (by simp only [l1, t3, k_spec_l08Worth, go_sem]; rfl) ?_ ?_ <;> intro hc <;> (try simp only [decide_eq_true_eq, decide_eq_false_iff_not, Decidable.not_not, Bool.not_eq_true', Bool.not_eq_false'] at hc) <;> simp only [hc, l1, t3, k_spec_l08Worth, go_sem]) | (refine sf_any (by simp only [l1, t3, k_spec_l08Worth, go_sem]; rfl) ?_ ?_ <;> intro hc <;> (try simp only [decide_eq_true_eq, decide_eq_false_iff_not, Decidable.not_not, Bool.not_eq_true', Bool.not_eq_false'] at hc) <;> simp only [hc, l1, t3, k_spec_l08Worth, go_sem]) | (refine sf_any' (by simp only [l1, t3, k_spec_l08Worth, go_sem]; rfl) ?_ ?_ <;> intro hc <;> (try simp only [decide_eq_true_eq, decide_eq_false_iff_not, Decidable.not_not, Bool.not_eq_true', Bool.not_eq_false'] at hc) <;> simp only [hc, l1, t3, k_spec_l08Worth, go_sem]))
      all_goals first
        | exact hr
        | exact absurd (by simp only [Bool.and_eq_true, decide_eq_true_eq] at *; simp only [EOk]; omega) hE
  · have : GOk size l := ⟨hs, fun j hj => hall j (by omega)⟩
    simp only [this, go_sem]
end
end Go.Proofs.YtgmljppiiighmaaGreatDoor.Ab
set_option linter.unusedSimpArgs false
set_option linter.unusedVariables false
set_option linter.unnecessarySimpa false
set_option maxHeartbeats 4000000
namespace Go.Proofs.YtgmljppiiighmaaGreatDoor.Ab
open Go.RowKit
section
variable {X : CallF} {h : Heap} {v : Value} {es : List E} {il : List Int} {cl : List Cp} {size n : Int}
theorem Own.all {rws : List (List Value)} {sz : Nat} {ty : TypeId} (hl : ∀ r ∈ rws, r.length = sz) : Own (h ++ [⟨rws.flatten, sz, ty, true⟩]) h.length (List.length (h ++ [(⟨rws.flatten, sz, ty, true⟩ : Blk)])) sz ty (.slice (some ⟨h.length, 0, none⟩) rws.length rws.length) rws := (Own.made hl).wide (Nat.le_refl _) (by simp)
end
end Go.Proofs.YtgmljppiiighmaaGreatDoor.Ab
set_option linter.unusedSimpArgs false
set_option linter.unusedVariables false
set_option linter.unnecessarySimpa false
set_option maxHeartbeats 4000000
namespace Go.Proofs.YtgmljppiiighmaaGreatDoor.Ab
open Go.RowKit
theorem varL_len (n : Nat) (h : n ≤ 1000000000) : (varL n).length ≤ 5 := by
  have key : ∀ k n, n < 128 ^ k → 0 < k → (varL n).length ≤ k := by
    intro k
    induction k with
    | zero => intro n _ h; omega
    | succ k ih =>
      intro n hn _
      unfold varL
      split
      · have : n / 128 < 128 ^ k := by rw [Nat.pow_succ] at hn; exact Nat.div_lt_of_lt_mul (by omega)
        have hk : 0 < k := by
          cases k with
          | zero => simp at hn; omega
          | succ k => omega
        have := ih _ this hk
        simp; omega
      · simp
  exact key 5 n (by omega) (by omega)
section
variable {X : CallF} {h : Heap}
theorem k_spec_l01Var {n : Nat} (hn : n ≤ 1000000000) : C T X n_spec_l01Var [.int .i64 n] h = some (.string (varT n), h) := by
  refine C_go t_spec_l01Var rfl ?_
  unfold F_spec_l01Var
  simp only [go_sem]
  refine w_meas n (fun m t loc h' => ∃ pre v, t 0 = .int .i64 (m : Nat) ∧ t 3 = v ∧ Acc h 1 y_byte v (bys pre) h' ∧ pre.length + (varL m).length ≤ 5 ∧ m ≤ n ∧ pre ++ varL m = varL n) ⟨[], _, rfl, rfl, Acc.new, by have := varL_len n hn; simpa using this, Nat.le_refl _, rfl⟩ ?_
  rintro m t loc h' ⟨pre, v, t0, t3, hacc, hlen, hm, hpre⟩
  simp only [t0, t3, go_sem]
  refine w_open (by simp only [t0, t3, go_sem]; rfl) ?_ ?_ <;> intro hc
  · have hb : IntKind.u8.wrap (IntKind.i64.wrap (((m % 128 : Nat) : Int) + 128)) = ((m % 128 + 128 : Nat) : Int) := by rw [w64 (by omega) (by omega), wu8 (by omega) (by omega)]; omega
    have hd : IntKind.i64.wrap ((m / 128 : Nat) : Int) = ((m / 128 : Nat) : Int) := w64 (by omega) (by omega)
    have hv : varL m = ((m % 128 + 128 : Nat) : Int) :: varL (m / 128) := by rw [varL]; rw [if_pos (by omega)]
    rw [hv] at hlen hpre
    obtain ⟨v', hh', ha, hacc'⟩ := hacc.push1 [.int .u8 ((m % 128 + 128 : Nat) : Int)] rfl (by rw [bys_len]; unfold lim; simp at hlen; omega)
    simp only [t0, t3, tmod128, tdiv128, hb, hd, ha, go_sem]
    refine ⟨m / 128, by omega, pre ++ [((m % 128 + 128 : Nat) : Int)], v', rfl, rfl, by simpa [bys] using hacc', by simp at hlen ⊢; omega, by omega, by simpa using hpre⟩
  · have hb : IntKind.u8.wrap (m : Int) = m := wu8 (by omega) (by omega)
    have hv : varL m = [(m : Int)] := by rw [varL]; rw [if_neg (by omega)]
    rw [hv] at hlen hpre
    obtain ⟨v', hh', ha, hacc'⟩ := hacc.push1 [.int .u8 (m : Int)] rfl (by rw [bys_len]; unfold lim; simp at hlen; omega)
    have hstr : strV hh' v' = some (.string (varT n)) := by
      have : Acc h 1 y_byte v' (bys (varL n)) hh' := by rw [← hpre]; simpa [bys] using hacc'
      exact this.rows.str
    simp only [t0, t3, hb, ha, hstr, go_sem]
    exact finish_flat rfl hacc'.up
end
end Go.Proofs.YtgmljppiiighmaaGreatDoor.Ab
set_option linter.unusedSimpArgs false
set_option linter.unusedVariables false
set_option linter.unnecessarySimpa false
set_option maxHeartbeats 4000000
namespace Go.Proofs.YtgmljppiiighmaaGreatDoor.Ab
open Go.RowKit
def rvT : Option (Nat × Nat) → Value
  | some p => .tuple ⟨[.int .i64 p.1, .int .i64 p.2, .bool true]⟩
  | none => .tuple ⟨[.int .i64 0, .int .i64 0, .bool false]⟩
def rvAt (s : ByteArray) (a : Int) : Option (Nat × Nat) := if 0 ≤ a ∧ a ≤ s.size then rdVar s a.toNat else none
theorem rvAt_bnd {s : ByteArray} {a : Int} {m k : Nat} (h : rvAt s a = some (m, k)) : m ≤ 1000000000 ∧ a < k ∧ k ≤ s.size := by
  unfold rvAt rdVar at h
  split at h
  · have := rvGo_bnd h; omega
  · cases h
theorem rvGo_yes {s : ByteArray} {a f i n u : Nat} (h1 : i < s.size) (h2 : byt s i < 128) (h3 : ¬ ((byt s i = 0 ∧ a < i) ∨ 1000000000 < n + byt s i % 128 * u)) : rvGo s a (f + 1) i n u = some (n + byt s i % 128 * u, i + 1) := by
  unfold rvGo; rw [if_pos h1, if_pos h2, if_neg h3]
theorem rvGo_bad {s : ByteArray} {a f i n u : Nat} (h1 : i < s.size) (h2 : byt s i < 128) (h3 : (byt s i = 0 ∧ a < i) ∨ 1000000000 < n + byt s i % 128 * u) : rvGo s a (f + 1) i n u = none := by
  unfold rvGo; rw [if_pos h1, if_pos h2, if_pos h3]
theorem rvGo_more {s : ByteArray} {a f i n u : Nat} (h1 : i < s.size) (h2 : ¬ byt s i < 128) : rvGo s a (f + 1) i n u = rvGo s a f (i + 1) (n + byt s i % 128 * u) (u * 128) := by
  rw [rvGo, if_pos h1, if_neg h2]
theorem rvGo_out {s : ByteArray} {a f i n u : Nat} (h1 : ¬ i < s.size) : rvGo s a f i n u = none := by
  cases f with
  | zero => rfl
  | succ f => unfold rvGo; rw [if_neg h1]
section
variable {X : CallF} {h : Heap} {s : ByteArray} {a : Int}
/-- The numbers fit. -/
theorem rv_fit {n u b j : Nat} (hu : u = 128 ^ j) (hj : j < 5) (hn : n < u) (hb : b < 256) : u ≤ 268435456 ∧ b % 128 * u ≤ 127 * u ∧ n + b % 128 * u < u * 128 ∧ u * 128 = 128 ^ (j + 1) := by
  have h1 : u ≤ 128 ^ 4 := by rw [hu]; exact Nat.pow_le_pow_right (by omega) (by omega)
  have h2 : b % 128 * u ≤ 127 * u := Nat.mul_le_mul_right u (by omega)
  refine ⟨by omega, h2, by omega, by rw [hu, Nat.pow_succ]⟩
theorem k_impl_ReadVar (hs : s.size ≤ lim) (ha : I64 a) : C T X n_impl_ReadVar [.string s, .int .i64 a] h = some (rvT (rvAt s a), h) := by
  unfold lim at hs
  refine C_go t_impl_ReadVar rfl ?_
  unfold F_impl_ReadVar rvAt
  by_cases hc : 0 ≤ a ∧ a ≤ s.size
  rotate_left
  · have hc' : (decide (0 ≤ a) && decide (a ≤ (s.size : Int))) = false := by simp only [Bool.and_eq_false_iff, decide_eq_false_iff_not]; omega
    rw [if_neg hc]
    simp only [k_impl_in, hc', go_sem]
    rfl
  have hc' : (decide (0 ≤ a) && decide (a ≤ (s.size : Int))) = true := by simp only [Bool.and_eq_true, decide_eq_true_eq]; exact hc
  rw [if_pos hc]
  obtain ⟨k, rfl⟩ := Int.eq_ofNat_of_zero_le hc.1
  rw [Int.toNat_natCast]
  have hw5 : IntKind.i64.wrap ((k : Int) + 5) = k + 5 := w64 (by omega) (by omega)
  simp only [k_impl_in, hc', go_sem]
  refine w_for 5 (fun j t loc h' => h' = h ∧ t 0 = .string s ∧ t 1 = .int .i64 k ∧ t 9 = .int .i64 (k + j : Nat) ∧ ∃ n u : Nat, t 7 = .int .i64 n ∧ t 8 = .int .i64 u ∧ u = 128 ^ j ∧ n < u ∧ rdVar s k = rvGo s k (5 - j) (k + j) n u) ⟨rfl, rfl, rfl, rfl, 0, 1, rfl, rfl, rfl, by omega, rfl⟩ ?_
  rintro j t loc h' hj ⟨rfl, t0, t1, t9, n, u, t7, t8, hu, hn, hr⟩
  by_cases h1 : k + j < s.size
  rotate_left
  · have h1' : ¬ ((k + j : Nat) : Int) < (s.size : Int) := by omega
    rw [rvGo_out h1] at hr
    simp only [t0, t1, t7, t8, t9, h1', hw5, hr, go_sem]
    rfl
  have h1' : ((k + j : Nat) : Int) < (s.size : Int) := by omega
  by_cases h2 : j < 5
  rotate_left
  · have h2' : ¬ ((k + j : Nat) : Int) < (k : Int) + 5 := by omega
    have : j = 5 := by omega
    subst this
    have hr' : rdVar s k = none := hr
    simp only [t0, t1, t7, t8, t9, h1', h2', hw5, hr', go_sem]
    rfl
  have h2' : ((k + j : Nat) : Int) < (k : Int) + 5 := by omega
  obtain ⟨b, hb⟩ : ∃ b, b = byt s (k + j) := ⟨_, rfl⟩
  have hb256 : b < 256 := by rw [hb]; exact byt_lt
  obtain ⟨f1, f2, f3, f4⟩ := rv_fit hu h2 hn hb256
  have hix := ix_byt h1
  rw [← hb] at hix
  have hwb : IntKind.i64.wrap (b : Int) = b := w64 (by omega) (by omega)
  have hm1 : IntKind.i64.wrap (((b % 128 : Nat) : Int) * (u : Int)) = ((b % 128 * u : Nat) : Int) := by rw [← Int.natCast_mul]; exact w64 (by omega) (by omega)
  have hm2 : IntKind.i64.wrap ((n : Int) + ((b % 128 * u : Nat) : Int)) = ((n + b % 128 * u : Nat) : Int) := w64 (by omega) (by omega)
  have hm3 : IntKind.i64.wrap ((u : Int) * 128) = ((u * 128 : Nat) : Int) := w64 (by omega) (by omega)
  have hnx : IntKind.i64.wrap (((k + j : Nat) : Int) + 1) = ((k + (j + 1) : Nat) : Int) := w64 (by omega) (by omega)
  have e5 : 5 - j = (5 - (j + 1)) + 1 := by omega
  rw [e5] at hr
  by_cases h3 : b < 128
  rotate_left
  · have h3' : ¬ (b : Int) < 128 := by omega
    rw [rvGo_more h1 (by rw [← hb]; exact h3), ← hb] at hr
    simp only [t0, t1, t7, t8, t9, h1', h2', hw5, hix, hwb, tmod128, hm1, hm2, hm3, h3', hnx, go_sem]
    exact ⟨h2, _, _, rfl, rfl, f4, f3, hr⟩
  have h3' : (b : Int) < 128 := by omega
  by_cases h4 : 1000000000 < n + b % 128 * u
  · have h4' : (1000000000 : Int) < ((n + b % 128 * u : Nat) : Int) := by omega
    rw [rvGo_bad h1 (by rw [← hb]; exact h3) (by rw [← hb]; exact .inr h4)] at hr
    by_cases h5 : b = 0
    · by_cases h6 : 0 < j
      · have h6' : (k : Int) < ((k + j : Nat) : Int) := by omega
        simp only [t0, t1, t7, t8, t9, h1', h2', hw5, hix, hwb, tmod128, hm1, hm2, hm3, h3', decide_eq_true (show ((b : Nat) : Int) = 0 by omega), h6', hr, go_sem]
        rfl
      · have h6' : ¬ (k : Int) < ((k + j : Nat) : Int) := by omega
        simp only [t0, t1, t7, t8, t9, h1', h2', hw5, hix, hwb, tmod128, hm1, hm2, hm3, h3', decide_eq_true (show ((b : Nat) : Int) = 0 by omega), h6', h4', hr, go_sem]
        rfl
    · have h5' : ¬ ((b : Nat) : Int) = 0 := by omega
      simp only [t0, t1, t7, t8, t9, h1', h2', hw5, hix, hwb, tmod128, hm1, hm2, hm3, h3', h5', h4', hr, go_sem]
      rfl
  have h4' : ¬ (1000000000 : Int) < ((n + b % 128 * u : Nat) : Int) := by omega
  by_cases h5 : b = 0
  · by_cases h6 : 0 < j
    · have h6' : (k : Int) < ((k + j : Nat) : Int) := by omega
      rw [rvGo_bad h1 (by rw [← hb]; exact h3) (by rw [← hb]; exact .inl ⟨h5, by omega⟩)] at hr
      simp only [t0, t1, t7, t8, t9, h1', h2', hw5, hix, hwb, tmod128, hm1, hm2, hm3, h3', decide_eq_true (show ((b : Nat) : Int) = 0 by omega), h6', hr, go_sem]
      rfl
    · have h6' : ¬ (k : Int) < ((k + j : Nat) : Int) := by omega
      rw [rvGo_yes h1 (by rw [← hb]; exact h3) (by rw [← hb]; omega), ← hb] at hr
      simp only [t0, t1, t7, t8, t9, h1', h2', hw5, hix, hwb, tmod128, hm1, hm2, hm3, h3', decide_eq_true (show ((b : Nat) : Int) = 0 by omega), h6', h4', hnx, hr, go_sem]
      rfl
  · have h5' : ¬ ((b : Nat) : Int) = 0 := by omega
    rw [rvGo_yes h1 (by rw [← hb]; exact h3) (by rw [← hb]; omega), ← hb] at hr
    simp only [t0, t1, t7, t8, t9, h1', h2', hw5, hix, hwb, tmod128, hm1, hm2, hm3, h3', h5', h4', hnx, hr, go_sem]
    rfl
theorem k_spec_ReadVar (hs : s.size ≤ lim) (ha : I64 a) : C T X n_spec_ReadVar [.string s, .int .i64 a] h = some (rvT (rvAt s a), h) := by
  unfold lim at hs
  refine C_go t_spec_ReadVar rfl ?_
  unfold F_spec_ReadVar rvAt
  by_cases hc : 0 ≤ a ∧ a ≤ s.size
  rotate_left
  · have hc' : (decide (0 ≤ a) && decide (a ≤ (s.size : Int))) = false := by simp only [Bool.and_eq_false_iff, decide_eq_false_iff_not]; omega
    rw [if_neg hc]
    simp only [k_spec_l01In, hc', go_sem]
    rfl
  have hc' : (decide (0 ≤ a) && decide (a ≤ (s.size : Int))) = true := by simp only [Bool.and_eq_true, decide_eq_true_eq]; exact hc
  rw [if_pos hc]
  obtain ⟨k, rfl⟩ := Int.eq_ofNat_of_zero_le hc.1
  rw [Int.toNat_natCast]
  have hw5 : IntKind.i64.wrap ((k : Int) + 5) = k + 5 := w64 (by omega) (by omega)
  simp only [k_spec_l01In, hc', go_sem]
  refine w_for 5 (fun j t loc h' => h' = h ∧ t 0 = .string s ∧ t 1 = .int .i64 k ∧ t 9 = .int .i64 (k + j : Nat) ∧ (∀ x ∈ segN s k (k + j), 128 ≤ x ∧ x < 256) ∧ k + j ≤ s.size ∧ ∃ n u : Nat, t 7 = .int .i64 n ∧ t 8 = .int .i64 u ∧ u = 128 ^ j ∧ n < u ∧ n = valB (segN s k (k + j)) ∧ (segN s k (k + j)).length = j ∧ rdVar s k = rvGo s k (5 - j) (k + j) n u)
    ⟨rfl, rfl, rfl, rfl, (by rw [Nat.add_zero, segN_nil]; intro x hx; cases hx), by omega, 0, 1, rfl, rfl, rfl, by omega, by rw [Nat.add_zero, segN_nil]; rfl, by rw [Nat.add_zero, segN_nil]; rfl, rfl⟩ ?_
  rintro j t loc h' hj ⟨rfl, t0, t1, t9, hall, hle, n, u, t7, t8, hu, hn, hval, hsl, hr⟩
  by_cases h1 : k + j < s.size
  rotate_left
  · have h1' : ¬ ((k + j : Nat) : Int) < (s.size : Int) := by omega
    rw [rvGo_out h1] at hr
    simp only [t0, t1, t7, t8, t9, h1', hw5, hr, go_sem]
    rfl
  have h1' : ((k + j : Nat) : Int) < (s.size : Int) := by omega
  by_cases h2 : j < 5
  rotate_left
  · have h2' : ¬ ((k + j : Nat) : Int) < (k : Int) + 5 := by omega
    have : j = 5 := by omega
    subst this
    have hr' : rdVar s k = none := hr
    simp only [t0, t1, t7, t8, t9, h1', h2', hw5, hr', go_sem]
    rfl
  have h2' : ((k + j : Nat) : Int) < (k : Int) + 5 := by omega
  obtain ⟨b, hb⟩ : ∃ b, b = byt s (k + j) := ⟨_, rfl⟩
  have hb256 : b < 256 := by rw [hb]; exact byt_lt
  obtain ⟨f1, f2, f3, f4⟩ := rv_fit hu h2 hn hb256
  have hix := ix_byt h1
  rw [← hb] at hix
  have hsg := segN_succ (s := s) (a := k) (b := k + j) (by omega) h1
  rw [← hb] at hsg
  have hvs : valB (segN s k (k + j + 1)) = n + b % 128 * u := by
    rw [hsg, valB_snoc, hsl, ← hval, ← hu, Int.toNat_natCast]
  have hwb : IntKind.i64.wrap (b : Int) = b := w64 (by omega) (by omega)
  have hm1 : IntKind.i64.wrap (((b % 128 : Nat) : Int) * (u : Int)) = ((b % 128 * u : Nat) : Int) := by rw [← Int.natCast_mul]; exact w64 (by omega) (by omega)
  have hm2 : IntKind.i64.wrap ((n : Int) + ((b % 128 * u : Nat) : Int)) = ((n + b % 128 * u : Nat) : Int) := w64 (by omega) (by omega)
  have hm3 : IntKind.i64.wrap ((u : Int) * 128) = ((u * 128 : Nat) : Int) := w64 (by omega) (by omega)
  have hnx : IntKind.i64.wrap (((k + j : Nat) : Int) + 1) = ((k + (j + 1) : Nat) : Int) := w64 (by omega) (by omega)
  have e5 : 5 - j = (5 - (j + 1)) + 1 := by omega
  rw [e5] at hr
  by_cases h3 : b < 128
  rotate_left
  · have h3' : ¬ (b : Int) < 128 := by omega
    rw [rvGo_more h1 (by rw [← hb]; exact h3), ← hb] at hr
    simp only [t0, t1, t7, t8, t9, h1', h2', hw5, hix, hwb, tmod128, hm1, hm2, hm3, h3', hnx, go_sem]
    refine ⟨h2, ?_, by omega, _, _, rfl, rfl, f4, f3, hvs.symm, ?_, hr⟩
    · intro x hx
      rw [← Nat.add_assoc, hsg] at hx
      rcases List.mem_append.1 hx with hx | hx
      · exact hall x hx
      · rw [List.mem_singleton.1 hx]; omega
    · rw [← Nat.add_assoc, hsg, List.length_append, hsl]; rfl
  have h3' : (b : Int) < 128 := by omega
  by_cases h4 : 1000000000 < n + b % 128 * u
  · have h4' : (1000000000 : Int) < ((n + b % 128 * u : Nat) : Int) := by omega
    rw [rvGo_bad h1 (by rw [← hb]; exact h3) (by rw [← hb]; exact .inr h4)] at hr
    simp only [t0, t1, t7, t8, t9, h1', h2', hw5, hix, hwb, tmod128, hm1, hm2, hm3, h3', h4', hr, go_sem]
    rfl
  have h4' : ¬ (1000000000 : Int) < ((n + b % 128 * u : Nat) : Int) := by omega
  have cv := k_spec_l01Var (X := X) (h := h') (n := n + b % 128 * u) (by omega)
  have hslS : slSV (.string s) (some (.int .i64 (k : Int))) (some (.int .i64 ((k + (j + 1) : Nat) : Int))) = some (.string (s.extract k (k + (j + 1)))) := by
    simp only [slSV, bnd]
    rw [if_pos ⟨by omega, by omega, by omega⟩, Int.toNat_natCast, Int.toNat_natCast]
  have hform := varL_form (l := segN s k (k + j)) (b := (b : Int)) hall ⟨by omega, by omega⟩
  rw [← hsg, hvs] at hform
  have heq : (varT (n + b % 128 * u) = s.extract k (k + (j + 1))) ↔ ¬ (b = 0 ∧ 0 < j) := by
    rw [extract_seg, ← Nat.add_assoc]
    unfold varT
    constructor
    · intro h
      have := hform.1 (strOfNums_inj (varL_rng _ _ (Nat.lt_succ_self _)) segN_rng h)
      rintro ⟨h5, h6⟩
      rcases this with q | q
      · rw [q] at hsl; simp at hsl; omega
      · omega
    · intro h
      rw [hform.2]
      by_cases h5 : j = 0
      · refine .inl (List.length_eq_zero_iff.1 ?_)
        omega
      · exact .inr (by omega)
  by_cases h5 : b = 0 ∧ 0 < j
  · have hne : (decide (varT (n + b % 128 * u) = s.extract k (k + (j + 1)))) = false := decide_eq_false fun h => heq.1 h h5
    rw [rvGo_bad h1 (by rw [← hb]; exact h3) (by rw [← hb]; exact .inl ⟨h5.1, by omega⟩)] at hr
    simp only [t0, t1, t7, t8, t9, h1', h2', hw5, hix, hwb, tmod128, hm1, hm2, hm3, h3', h4', hnx, cv, hslS, str_eq, hne, hr, List.prefix_refl, go_sem]
    rfl
  · have hne : (decide (varT (n + b % 128 * u) = s.extract k (k + (j + 1)))) = true := decide_eq_true (heq.2 h5)
    rw [rvGo_yes h1 (by rw [← hb]; exact h3) (by rw [← hb]; omega), ← hb] at hr
    simp only [t0, t1, t7, t8, t9, h1', h2', hw5, hix, hwb, tmod128, hm1, hm2, hm3, h3', h4', hnx, cv, hslS, str_eq, hne, hr, List.prefix_refl, go_sem]
    rfl
end
end Go.Proofs.YtgmljppiiighmaaGreatDoor.Ab
set_option linter.unusedSimpArgs false
set_option linter.unusedVariables false
set_option linter.unnecessarySimpa false
set_option maxHeartbeats 4000000
namespace Go.Proofs.YtgmljppiiighmaaGreatDoor.Ab
open Go.RowKit
/-- A reader's place, and the places of its fields. -/
def pk (b k : Nat) : Value := .pointer (some ⟨b, k, some 3⟩)
def rdB (ty : TypeId) (s : ByteArray) (p : Nat × Bool) : Blk := ⟨[.string s, .int .i64 (p.1 : Nat), .bool p.2], 3, ty, true⟩
/-- The next number, and the reader behind it. -/
def numStep (s : ByteArray) (p : Nat × Bool) : Int × (Nat × Bool) := match p.2 with
  | true => (0, (p.1, true))
  | false => match rvAt s p.1 with
    | some (n, k) => (n, (k, false))
    | none => (0, (p.1, true))
section
variable {X : CallF} {h : Heap} {b : Nat} {ty : TypeId} {s : ByteArray} {p : Nat × Bool}
theorem rd_fa (hb : h[b]? = some (rdB ty s p)) {k : Nat} : faV h (pk b 0) k = some (pk b k) := by simp [faV, pk, hb, rdB]
theorem rd_chk (hb : h[b]? = some (rdB ty s p)) : chkV h (pk b 0) = some (pk b 0) := by simp [chkV, ldC, pk, hb, rdB]
theorem rd_ld0 (hb : h[b]? = some (rdB ty s p)) : ldC h (pk b 0) 1 = some [.string s] := by simp [ldC, pk, hb, rdB]
theorem rd_ld1 (hb : h[b]? = some (rdB ty s p)) : ldC h (pk b 1) 1 = some [.int .i64 (p.1 : Nat)] := by simp [ldC, pk, hb, rdB]
theorem rd_ld2 (hb : h[b]? = some (rdB ty s p)) : ldC h (pk b 2) 1 = some [.bool p.2] := by simp [ldC, pk, hb, rdB]
theorem rd_st1 (hb : h[b]? = some (rdB ty s p)) {n : Nat} : stC h (pk b 1) [.int .i64 (n : Int)] = some (h.set b (rdB ty s (n, p.2))) := by simp [stC, pk, hb, rdB, putAt]
theorem rd_st2 (hb : h[b]? = some (rdB ty s p)) {c : Bool} : stC h (pk b 2) [.bool c] = some (h.set b (rdB ty s (p.1, c))) := by simp [stC, pk, hb, rdB, putAt]
theorem rd_set {q : Nat × Bool} (hb : h[b]? = some (rdB ty s p)) : (h.set b (rdB ty s q))[b]? = some (rdB ty s q) := List.getElem?_set_self (lt_of_get hb)
theorem set_len {x : Blk} : (h.set b x).length = h.length := List.length_set ..
theorem rv_ext0 {o : Option (Nat × Nat)} : rvT o = .tuple ⟨[.int .i64 ((o.map (·.1)).getD 0 : Nat), .int .i64 ((o.map (·.2)).getD 0 : Nat), .bool o.isSome]⟩ := by cases o <;> rfl
theorem k_impl_num (hb : h[b]? = some (rdB ty s p)) (hs : s.size ≤ lim) (hp : p.1 ≤ s.size) : C T X n_impl_reader_num [pk b 0] h = some (.int .i64 (numStep s p).1, h.set b (rdB ty s (numStep s p).2)) := by
  have hs' := hs
  unfold lim at hs'
  have cv := k_impl_ReadVar (X := X) (h := h) hs (a := (p.1 : Int)) ⟨by omega, by omega⟩
  refine C_go t_impl_reader_num rfl ?_
  unfold F_impl_reader_num
  obtain ⟨a, bad⟩ := p
  cases hr : rvAt s (a : Int) with
  | none =>
    rw [hr] at cv
    unfold rvT at cv
    cases bad with
    | true =>
      have hn : numStep s (a, true) = (0, (a, true)) := rfl
      rw [hn]
      simp only [rd_fa hb, rd_chk hb, rd_ld0 hb, rd_ld1 hb, rd_ld2 hb, rd_st2 hb, cv, List.prefix_refl, go_sem]
      exact finish_room set_len
    | false =>
      have hn : numStep s (a, false) = (0, (a, true)) := by simp only [numStep, hr]
      rw [hn]
      simp only [rd_fa hb, rd_chk hb, rd_ld0 hb, rd_ld1 hb, rd_ld2 hb, rd_st2 hb, cv, List.prefix_refl, go_sem]
      exact finish_room set_len
  | some q =>
    obtain ⟨n, k⟩ := q
    rw [hr] at cv
    unfold rvT at cv
    cases bad with
    | true =>
      have hn : numStep s (a, true) = (0, (a, true)) := rfl
      rw [hn]
      simp only [rd_fa hb, rd_chk hb, rd_ld0 hb, rd_ld1 hb, rd_ld2 hb, rd_st2 hb, cv, List.prefix_refl, go_sem]
      exact finish_room set_len
    | false =>
      have hn : numStep s (a, false) = ((n : Int), (k, false)) := by simp only [numStep, hr]
      rw [hn]
      simp only [rd_fa hb, rd_chk hb, rd_ld0 hb, rd_ld1 hb, rd_ld2 hb, rd_st1 hb, cv, List.prefix_refl, go_sem]
      exact finish_room set_len
theorem k_spec_l12Var (hb : h[b]? = some (rdB ty s p)) (hs : s.size ≤ lim) (hp : p.1 ≤ s.size) : C T X n_spec_l12Var [pk b 0] h = some (.int .i64 (numStep s p).1, h.set b (rdB ty s (numStep s p).2)) := by
  have hs' := hs
  unfold lim at hs'
  have cv := k_spec_ReadVar (X := X) (h := h) hs (a := (p.1 : Int)) ⟨by omega, by omega⟩
  refine C_go t_spec_l12Var rfl ?_
  unfold F_spec_l12Var
  obtain ⟨a, bad⟩ := p
  cases hr : rvAt s (a : Int) with
  | none =>
    rw [hr] at cv
    unfold rvT at cv
    cases bad with
    | true =>
      have hn : numStep s (a, true) = (0, (a, true)) := rfl
      rw [hn]
      simp only [rd_fa hb, rd_chk hb, rd_ld0 hb, rd_ld1 hb, rd_ld2 hb, rd_st2 hb, cv, List.prefix_refl, go_sem]
      exact finish_room set_len
    | false =>
      have hn : numStep s (a, false) = (0, (a, true)) := by simp only [numStep, hr]
      rw [hn]
      simp only [rd_fa hb, rd_chk hb, rd_ld0 hb, rd_ld1 hb, rd_ld2 hb, rd_st2 hb, cv, List.prefix_refl, go_sem]
      exact finish_room set_len
  | some q =>
    obtain ⟨n, k⟩ := q
    rw [hr] at cv
    unfold rvT at cv
    cases bad with
    | true =>
      have hn : numStep s (a, true) = (0, (a, true)) := rfl
      rw [hn]
      simp only [rd_fa hb, rd_chk hb, rd_ld0 hb, rd_ld1 hb, rd_ld2 hb, rd_st2 hb, cv, List.prefix_refl, go_sem]
      exact finish_room set_len
    | false =>
      have hn : numStep s (a, false) = ((n : Int), (k, false)) := by simp only [numStep, hr]
      rw [hn]
      simp only [rd_fa hb, rd_chk hb, rd_ld0 hb, rd_ld1 hb, rd_ld2 hb, rd_st1 hb, cv, List.prefix_refl, go_sem]
      exact finish_room set_len
theorem k_impl_ends (hb : h[b]? = some (rdB ty s p)) : C T X n_impl_reader_ends [pk b 0] h = some (.bool (!p.2 && decide (p.1 = s.size)), h) := by
  refine C_go t_impl_reader_ends rfl ?_
  unfold F_impl_reader_ends
  obtain ⟨a, bad⟩ := p
  cases bad with
  | true => simp only [rd_fa hb, rd_chk hb, rd_ld0 hb, rd_ld1 hb, rd_ld2 hb, List.prefix_refl, go_sem]
  | false =>
    by_cases e : a = s.size
    · simp only [rd_fa hb, rd_chk hb, rd_ld0 hb, rd_ld1 hb, rd_ld2 hb, decide_eq_true (show ((a : Nat) : Int) = (s.size : Int) by omega), decide_eq_true e, List.prefix_refl, go_sem]
    · have e' : ¬ ((a : Nat) : Int) = (s.size : Int) := by omega
      simp only [rd_fa hb, rd_chk hb, rd_ld0 hb, rd_ld1 hb, rd_ld2 hb, e', e, List.prefix_refl, go_sem]
/-- The readers and the numbers, one behind the other. -/
def sS (s : ByteArray) (p : Nat × Bool) : Nat → Nat × Bool
  | 0 => p
  | i + 1 => (numStep s (sS s p i)).2
def sV (s : ByteArray) (p : Nat × Bool) (i : Nat) : Int := (numStep s (sS s p i)).1
theorem numStep_le {q : Nat × Bool} (h : q.1 ≤ s.size) : (numStep s q).2.1 ≤ s.size := by
  unfold numStep
  split
  · exact h
  · split
    · rename_i n k hr; exact (rvAt_bnd hr).2.2
    · exact h
theorem rvGo_seg {a : Nat} : ∀ {f i n u m k : Nat}, rvGo s a f i n u = some (m, k) → a ≤ i → (∀ x ∈ segN s a i, 128 ≤ x ∧ x < 256) → n = valB (segN s a i) → u = 128 ^ (segN s a i).length → (segN s a i).length = i - a → segN s a k = varL m
  | 0, _, _, _, _, _, h, _, _, _, _, _ => by cases h
  | f + 1, i, n, u, m, k, h, ha, hall, hn, hu, hl => by
    unfold rvGo at h
    split at h
    · rename_i h1
      have hsg := segN_succ (s := s) ha h1
      have hvs : valB (segN s a (i + 1)) = n + byt s i % 128 * u := by rw [hsg, valB_snoc, ← hn, ← hu, Int.toNat_natCast]
      split at h
      · rename_i h2
        split at h
        · cases h
        · rename_i h3
          simp only [Option.some.injEq, Prod.mk.injEq] at h
          obtain ⟨rfl, rfl⟩ := h
          have hform := varL_form (l := segN s a i) (b := (byt s i : Int)) hall ⟨by omega, by omega⟩
          rw [← hsg, hvs] at hform
          rw [hform.2 ?_]
          by_cases h5 : a < i
          · exact .inr (by omega)
          · exact .inl (List.length_eq_zero_iff.1 (by omega))
      · rename_i h2
        have hbt := byt_lt (s := s) (i := i)
        refine rvGo_seg h (by omega) ?_ hvs.symm ?_ ?_
        · intro x hx
          rw [hsg] at hx
          rcases List.mem_append.1 hx with hx | hx
          · exact hall x hx
          · rw [List.mem_singleton.1 hx]; omega
        · rw [hsg, List.length_append, hu]; simp [Nat.pow_succ]
        · rw [hsg, List.length_append, hl]; simp; omega
    · cases h
theorem segN_len {a k : Nat} (h : k ≤ s.size) : (segN s a k).length = k - a := by
  unfold segN
  rw [List.length_map, List.length_take, List.length_drop, size_list]
  omega
/-- What is read stands there in its own form. -/
theorem rvAt_seg {a n k : Nat} (h : rvAt s (a : Int) = some (n, k)) : segN s a k = varL n ∧ (varL n).length = k - a := by
  have hb := rvAt_bnd h
  have h1 : segN s a k = varL n := by
    unfold rvAt at h
    split at h
    · rw [Int.toNat_natCast] at h
      refine rvGo_seg h (Nat.le_refl _) ?_ ?_ ?_ ?_ <;> rw [segN_nil]
      · intro x hx; cases hx
      · rfl
      · rfl
      · simp
    · cases h
  exact ⟨h1, by rw [← h1]; exact segN_len hb.2.2⟩
end
end Go.Proofs.YtgmljppiiighmaaGreatDoor.Ab
set_option linter.unusedSimpArgs false
set_option linter.unusedVariables false
set_option linter.unnecessarySimpa false
set_option maxHeartbeats 4000000
namespace Go.Proofs.YtgmljppiiighmaaGreatDoor.Ab
open Go.RowKit
def vt (n : Int) : ByteArray := if 0 ≤ n ∧ n ≤ 1000000000 then varT n.toNat else noT
def catV (s : ByteArray) (l : List Int) : ByteArray := l.foldl (fun s n => s ++ vt n) s
theorem catV_acc {a : ByteArray} : ∀ {l : List Int} {b : ByteArray}, catV (a ++ b) l = a ++ catV b l
  | [], b => rfl
  | n :: l, b => by
    show catV (a ++ b ++ vt n) l = a ++ catV (b ++ vt n) l
    rw [ByteArray.append_assoc, catV_acc]
theorem catV_from {a : ByteArray} {l : List Int} : a ++ catV noT l = catV a l := by
  rw [← catV_acc, show noT = ByteArray.empty from rfl, ByteArray.append_empty]
theorem vt_size (n : Int) : (vt n).size ≤ 5 := by
  unfold vt
  split
  · unfold varT; rw [strOfNums_size]; exact varL_len _ (by omega)
  · exact Nat.zero_le _
theorem catV_size {s : ByteArray} : ∀ {l : List Int}, (catV s l).size ≤ s.size + 5 * l.length := by
  intro l
  induction l generalizing s with
  | nil => simp [catV]
  | cons n l ih =>
    show (catV (s ++ vt n) l).size ≤ _
    have := ih (s := s ++ vt n)
    rw [ByteArray.size_append] at this
    have := vt_size n
    simp only [List.length_cons]
    omega
section
variable {X : CallF} {h : Heap} {v : Value} {l : List Int}
theorem k_spec_l01Var' {n : Int} (h0 : 0 ≤ n) (h1 : n ≤ 1000000000) : C T X n_spec_l01Var [.int .i64 n] h = some (.string (vt n), h) := by
  obtain ⟨k, rfl⟩ := Int.eq_ofNat_of_zero_le h0
  rw [k_spec_l01Var (by omega)]
  unfold vt
  rw [if_pos ⟨h0, h1⟩]
  rfl
end
end Go.Proofs.YtgmljppiiighmaaGreatDoor.Ab
set_option linter.unusedSimpArgs false
set_option linter.unusedVariables false
set_option linter.unnecessarySimpa false
set_option maxHeartbeats 4000000
namespace Go.Proofs.YtgmljppiiighmaaGreatDoor.Ab
open Go.RowKit
/-- An edge between two vertices. -/
abbrev Join (a b : Int) (e : E) : Prop := (e.a = a ∧ e.b = b) ∨ (e.a = b ∧ e.b = a)
/-- The place of an edge between two vertices, or -1. -/
def edgeIx (l : List E) (a b : Int) : Int := firstIx (Join a b) l
section
variable {X : CallF} {h : Heap} {a v : Value} {l : List Int} {es : List E} {n x y size : Int}
theorem k_impl_hasInt (ha : Rows h 1 a (ints l)) (hl : l.length ≤ lim) : C T X n_impl_hasInt [a, .int .i64 n] h = some (.bool (decide (n ∈ l)), h) := by
  unfold lim at hl
  refine C_go t_impl_hasInt rfl ?_
  unfold F_impl_hasInt
  simp only [ints_ln ha, go_sem]
  refine w_for l.length (fun i t loc h' => h' = h ∧ t 1 = .int .i64 n ∧ t 7 = a ∧ t 8 = .int .i64 l.length ∧ t 9 = .int .i64 i ∧ ∀ j, j < i → ¬ l.getD j 0 = n) ⟨rfl, rfl, rfl, rfl, rfl, fun j hj => by omega⟩ ?_
  rintro i t loc h' hi ⟨rfl, t1, t7, t8, t9, hall⟩
  simp only [t8, t9, go_sem]
  refine w_open (by simp only [go_sem]; rfl) ?_ ?_ <;> intro hc
  · have hi1 : i < l.length := by omega
    have hw : IntKind.i64.wrap ((i : Int) + 1) = ((i + 1 : Nat) : Int) := w64 (by omega) (by omega)
    have hel := int_el ha hi1
    by_cases e : l.getD i 0 = n
    · have hm : n ∈ l := e ▸ getD_mem hi1
      simp only [t1, t7, t8, t9, hel.1, hel.2, e, hm, go_sem]
    · simp only [t1, t7, t8, t9, hel.1, hel.2, e, hw, go_sem]
      exact ⟨hi1, below_succ hall e⟩
  · have hm : ¬ n ∈ l := not_mem_getD (d := 0) fun j hj => hall j (by omega)
    simp only [hm, go_sem]
theorem k_spec_l03In (ha : Rows h 1 a (ints l)) (hl : l.length ≤ lim) : C T X n_spec_l03In [a, .int .i64 n] h = some (.bool (decide (n ∈ l)), h) := by
  unfold lim at hl
  refine C_go t_spec_l03In rfl ?_
  unfold F_spec_l03In
  simp only [go_sem]
  refine w_for l.length (fun i t loc h' => h' = h ∧ t 0 = a ∧ t 1 = .int .i64 n ∧ t 5 = .int .i64 i ∧ ∀ j, j < i → ¬ l.getD j 0 = n) ⟨rfl, rfl, rfl, rfl, fun j hj => by omega⟩ ?_
  rintro i t loc h' hi ⟨rfl, t0, t1, t5, hall⟩
  simp only [t0, t5, ints_ln ha, go_sem]
  refine w_open (by simp only [go_sem]; rfl) ?_ ?_ <;> intro hc
  · have hi1 : i < l.length := by omega
    have hw : IntKind.i64.wrap ((i : Int) + 1) = ((i + 1 : Nat) : Int) := w64 (by omega) (by omega)
    have hel := int_el ha hi1
    by_cases e : l.getD i 0 = n
    · have hm : n ∈ l := e ▸ getD_mem hi1
      simp only [t0, t1, t5, hel.1, hel.2, e, hm, go_sem]
    · simp only [t0, t1, t5, hel.1, hel.2, e, hw, go_sem]
      exact ⟨hi1, below_succ hall e⟩
  · have hm : ¬ n ∈ l := not_mem_getD (d := 0) fun j hj => hall j (by omega)
    simp only [hm, go_sem]
theorem k_impl_edgeAt (he : Rows h 5 v (edges es)) (hl : es.length ≤ lim) : C T X n_impl_edgeAt [graphV size v, .int .i64 x, .int .i64 y] h = some (.int .i64 (edgeIx es x y), h) := by
  unfold lim at hl
  refine C_go t_impl_edgeAt rfl ?_
  unfold F_impl_edgeAt graphV edgeIx
  simp only [he.lnm, go_sem]
  refine w_for es.length (fun i t loc h' => h' = h ∧ t 1 = .int .i64 x ∧ t 2 = .int .i64 y ∧ t 10 = v ∧ t 11 = .int .i64 es.length ∧ t 12 = .int .i64 i ∧ ∀ j, j < i → ¬ Join x y (es.getD j e0)) ⟨rfl, rfl, rfl, rfl, rfl, rfl, fun j hj => by omega⟩ ?_
  rintro i t loc h' hi ⟨rfl, t1, t2, t10, t11, t12, hall⟩
  simp only [t11, t12, go_sem]
  refine w_open (by simp only [go_sem]; rfl) ?_ ?_ <;> intro hc
  · have hi1 : i < es.length := by omega
    have hw : IntKind.i64.wrap ((i : Int) + 1) = ((i + 1 : Nat) : Int) := w64 (by omega) (by omega)
    have hel := edge_el he hi1
    by_cases e1 : (es.getD i e0).a = x ∧ (es.getD i e0).b = y
    · have hm := firstIx_at hi1 (.inl e1 : Join x y (es.getD i e0)) hall
      simp only [t1, t2, t10, t11, t12, hel.1, hel.2.2.1, e1.1, e1.2, hm, go_sem]
    by_cases e2 : (es.getD i e0).a = y ∧ (es.getD i e0).b = x
    · have hm := firstIx_at hi1 (.inr e2 : Join x y (es.getD i e0)) hall
      by_cases hxy : y = x
      · subst hxy; exact absurd e2 e1
      simp only [t1, t2, t10, t11, t12, hel.1, hel.2.2.1, e2.1, e2.2, hxy, hm, go_sem]
    have hn : ¬ Join x y (es.getD i e0) := fun hj => hj.elim e1 e2
    by_cases f1 : (es.getD i e0).a = x
    · have f2 : ¬ (es.getD i e0).b = y := fun h => e1 ⟨f1, h⟩
      by_cases f3 : x = y
      · subst f3
        simp only [t1, t2, t10, t11, t12, hel.1, hel.2.2.1, f1, f2, hw, go_sem]
        exact ⟨hi1, below_succ hall hn⟩
      · simp only [t1, t2, t10, t11, t12, hel.1, hel.2.2.1, f1, f2, f3, hw, go_sem]
        exact ⟨hi1, below_succ hall hn⟩
    · by_cases f3 : (es.getD i e0).a = y
      · have f4 : ¬ (es.getD i e0).b = x := fun h => e2 ⟨f3, h⟩
        rw [f3] at f1
        simp only [t1, t2, t10, t11, t12, hel.1, hel.2.2.1, f1, f3, f4, hw, go_sem]
        exact ⟨hi1, below_succ hall hn⟩
      · simp only [t1, t2, t10, t11, t12, hel.1, hel.2.2.1, f1, f3, hw, go_sem]
        exact ⟨hi1, below_succ hall hn⟩
  · have hm : firstIx (Join x y) es = -1 := firstIx_none (d := e0) fun j hj => hall j (by omega)
    simp only [hm, go_sem]
theorem k_spec_l08At (he : Rows h 5 v (edges es)) (hl : es.length ≤ lim) : C T X n_spec_l08At [graphV size v, .int .i64 x, .int .i64 y] h = some (.int .i64 (edgeIx es x y), h) := by
  unfold lim at hl
  refine C_go t_spec_l08At rfl ?_
  unfold F_spec_l08At graphV edgeIx
  simp only [go_sem]
  refine w_for es.length (fun i t loc h' => h' = h ∧ loc 3 = some [.int .i64 size, v] ∧ t 1 = .int .i64 x ∧ t 2 = .int .i64 y ∧ t 7 = .int .i64 i ∧ ∀ j, j < i → ¬ Join x y (es.getD j e0)) ⟨rfl, rfl, rfl, rfl, rfl, fun j hj => by omega⟩ ?_
  rintro i t loc h' hi ⟨rfl, l3, t1, t2, t7, hall⟩
  simp only [l3, t7, he.lnm, go_sem]
  refine w_open (by simp only [go_sem]; rfl) ?_ ?_ <;> intro hc
  · have hi1 : i < es.length := by omega
    have hw : IntKind.i64.wrap ((i : Int) + 1) = ((i + 1 : Nat) : Int) := w64 (by omega) (by omega)
    have hel := edge_el he hi1
    by_cases e1 : (es.getD i e0).a = x ∧ (es.getD i e0).b = y
    · have hm := firstIx_at hi1 (.inl e1 : Join x y (es.getD i e0)) hall
      simp only [l3, t1, t2, t7, hel, e1.1, e1.2, hm, go_sem]
    by_cases e2 : (es.getD i e0).a = y ∧ (es.getD i e0).b = x
    · have hm := firstIx_at hi1 (.inr e2 : Join x y (es.getD i e0)) hall
      by_cases hxy : y = x
      · subst hxy; exact absurd e2 e1
      simp only [l3, t1, t2, t7, hel, e2.1, e2.2, hxy, hm, go_sem]
    have hn : ¬ Join x y (es.getD i e0) := fun hj => hj.elim e1 e2
    by_cases f1 : (es.getD i e0).a = x
    · have f2 : ¬ (es.getD i e0).b = y := fun h => e1 ⟨f1, h⟩
      by_cases f3 : x = y
      · subst f3
        simp only [l3, t1, t2, t7, hel, f1, f2, hw, go_sem]
        exact ⟨hi1, below_succ hall hn⟩
      · simp only [l3, t1, t2, t7, hel, f1, f2, f3, hw, go_sem]
        exact ⟨hi1, below_succ hall hn⟩
    · by_cases f3 : (es.getD i e0).a = y
      · have f4 : ¬ (es.getD i e0).b = x := fun h => e2 ⟨f3, h⟩
        rw [f3] at f1
        simp only [l3, t1, t2, t7, hel, f1, f3, f4, hw, go_sem]
        exact ⟨hi1, below_succ hall hn⟩
      · simp only [l3, t1, t2, t7, hel, f1, f3, hw, go_sem]
        exact ⟨hi1, below_succ hall hn⟩
  · have hm : firstIx (Join x y) es = -1 := firstIx_none (d := e0) fun j hj => hall j (by omega)
    simp only [hm, go_sem]
end
end Go.Proofs.YtgmljppiiighmaaGreatDoor.Ab
set_option linter.unusedSimpArgs false
set_option linter.unusedVariables false
set_option linter.unnecessarySimpa false
set_option maxHeartbeats 4000000
namespace Go.Proofs.YtgmljppiiighmaaGreatDoor.Ab
open Go.RowKit
section
variable {X : CallF} {h : Heap} {a v : Value} {l : List Int} {es : List E} {n x y size : Int}
open Classical in
theorem k_impl_GraphOk (he : Rows h 5 v (edges es)) (hl : es.length ≤ lim) : C T X n_impl_GraphOk [graphV size v] h = some (.bool (decide (GOk size es)), h) := by
  unfold lim at hl
  refine C_go t_impl_GraphOk rfl ?_
  unfold F_impl_GraphOk graphV
  simp only [k_impl_in, go_sem]
  refine w_any (by simp only [go_sem]; rfl) ?_ ?_ <;> intro hc
  · have : ¬ GOk size es := fun g => by
      have := g.1
      simp at hc
      omega
    simp only [this, go_sem]
  have hs : 0 ≤ size ∧ size ≤ 9 := by simpa using hc
  simp only [he.lnm, go_sem]
  refine w_for es.length (fun i t loc h' => h' = h ∧ loc 1 = some [.int .i64 size, v] ∧ t 11 = v ∧ t 12 = .int .i64 es.length ∧ t 13 = .int .i64 i ∧ ∀ j, j < i → EOk size (es.getD j e0) ∧ (0 < j → ELt (es.getD (j - 1) e0) (es.getD j e0)))
    ⟨rfl, rfl, rfl, rfl, rfl, fun j hj => by omega⟩ ?_
  rintro i t loc h' hi ⟨rfl, l1, t11, t12, t13, hall⟩
  simp only [t12, t13, go_sem]
  refine w_open (by simp only [go_sem]; rfl) ?_ ?_ <;> intro hc
  · have hi1 : i < es.length := by omega
    have hel := edge_el he hi1
    have hneg : ¬ (EOk size (es.getD i e0) ∧ (0 < i → ELt (es.getD (i - 1) e0) (es.getD i e0))) → ¬ GOk size es := fun hn g => hn (g.2 i hi1)
    have hnext : (EOk size (es.getD i e0) ∧ (0 < i → ELt (es.getD (i - 1) e0) (es.getD i e0))) → ∀ j, j < i + 1 → EOk size (es.getD j e0) ∧ (0 < j → ELt (es.getD (j - 1) e0) (es.getD j e0)) := fun hy => below_succ hall hy
    have hw : IntKind.i64.wrap ((i : Int) + 1) = ((i + 1 : Nat) : Int) := w64 (by omega) (by omega)
    have hws : IntKind.i64.wrap (size - 1) = size - 1 := w64 (by omega) (by omega)
    by_cases hE : EOk size (es.getD i e0)
    · obtain ⟨q1, q2, q3, q4, q5, q6, q7, q8, q9⟩ := id hE
      have p1 : (es.getD i e0).a ≤ size - 1 := by omega
      have p2 : 0 ≤ (es.getD i e0).b := by omega
      have p3 : (es.getD i e0).b ≤ size - 1 := by omega
      have p4 : ¬ (es.getD i e0).b ≤ (es.getD i e0).a := by omega
      rcases Nat.eq_zero_or_pos i with hz | hp
      · have hz' : ¬ (0 : Int) < i := by omega
        simp only [l1, t11, t12, t13, hel.1, hel.2.2.1, k_impl_in, hws, p1, p2, p3, p4, q1, q4, q5, q6, q7, q8, q9, hz', hw, go_sem]
        exact ⟨hi1, hnext ⟨hE, fun hp => by omega⟩⟩
      · have hp' : (0 : Int) < i := by omega
        have hw1 : IntKind.i64.wrap ((i : Int) - 1) = ((i - 1 : Nat) : Int) := by rw [w64 (by omega) (by omega)]; omega
        have hi2 : i - 1 < es.length := by omega
        have hel2 := edge_el he hi2
        by_cases hlt : ELt (es.getD (i - 1) e0) (es.getD i e0)
        · by_cases f1 : (es.getD (i - 1) e0).a = (es.getD i e0).a
          · have f2 : ¬ (es.getD i e0).a < (es.getD (i - 1) e0).a := by omega
            have f3 : ¬ (es.getD i e0).b ≤ (es.getD (i - 1) e0).b := by unfold ELt at hlt; omega
            rw [f1] at f2
            simp only [l1, t11, t12, t13, hel.1, hel.2.2.1, k_impl_in, hws, p1, p2, p3, p4, q1, q4, q5, q6, q7, q8, q9, hp', hw, hw1, hel2, f1, f2, f3, go_sem]
            exact ⟨hi1, hnext ⟨hE, fun _ => hlt⟩⟩
          · have f2 : ¬ (es.getD i e0).a < (es.getD (i - 1) e0).a := by unfold ELt at hlt; omega
            simp only [l1, t11, t12, t13, hel.1, hel.2.2.1, k_impl_in, hws, p1, p2, p3, p4, q1, q4, q5, q6, q7, q8, q9, hp', hw, hw1, hel2, f1, f2, go_sem]
            exact ⟨hi1, hnext ⟨hE, fun _ => hlt⟩⟩
        · have hr : ¬ GOk size es := hneg fun hx => hlt (hx.2 hp)
          by_cases f1 : (es.getD i e0).a < (es.getD (i - 1) e0).a
          · simp only [l1, t11, t12, t13, hel.1, hel.2.2.1, k_impl_in, hws, p1, p2, p3, p4, q1, q4, q5, q6, q7, q8, q9, hp', hw1, hel2, f1, hr, go_sem]
          · have f2 : (es.getD (i - 1) e0).a = (es.getD i e0).a := by unfold ELt at hlt; omega
            have f3 : (es.getD i e0).b ≤ (es.getD (i - 1) e0).b := by unfold ELt at hlt; omega
            rw [f2] at f1
            simp only [l1, t11, t12, t13, hel.1, hel.2.2.1, k_impl_in, hws, p1, p2, p3, p4, q1, q4, q5, q6, q7, q8, q9, hp', hw1, hel2, f1, f2, f3, hr, go_sem]
    · have hr : ¬ GOk size es := hneg (fun hx => hE hx.1)
      simp only [l1, t11, t12, t13, hel.1, hel.2.2.1, k_impl_in, hws, go_sem]
      repeat' (first | (refine w_any (by simp only [l1, k_impl_in, hws, go_sem]; rfl) ?_ ?_ <;> intro hc <;> (try simp only [decide_eq_true_eq, decide_eq_false_iff_not, Decidable.not_not, Bool.not_eq_true', Bool.not_eq_false'] at hc) <;> simp only [hc, l1, k_impl_in, hws, go_sem]) | (refine so_any (by simp only [l1, k_impl_in, hws, go_sem]; rfl) ?_ ?_ <;> intro hc <;> (try simp only [decide_eq_true_eq, decide_eq_false_iff_not, Decidable.not_not, Bool.not_eq_true', Bool.not_eq_false'] at hc) <;> simp only [hc, l1, k_impl_in, hws, go_sem]) | (refine so_any' (by simp only [l1, k_impl_in, hws, go_sem]; rfl) ?_ ?_ <;> intro hc <;> (try simp only [decide_eq_true_eq, decide_eq_false_iff_not, Decidable.not_not, Bool.not_eq_true', Bool.not_eq_false'] at hc) <;> simp only [hc, l1, k_impl_in, hws, go_sem]) | (refine sf_any (by simp only [l1, k_impl_in, hws, go_sem]; rfl) ?_ ?_ <;> intro hc <;> (try simp only [decide_eq_true_eq, decide_eq_false_iff_not, Decidable.not_not, Bool.not_eq_true', Bool.not_eq_false'] at hc) <;> simp only [hc, l1, k_impl_in, hws, go_sem]) | (refine sf_any' (by simp only [l1, k_impl_in, hws, go_sem]; rfl) ?_ ?_ <;> intro hc <;> (try simp only [decide_eq_true_eq, decide_eq_false_iff_not, Decidable.not_not, Bool.not_eq_true', Bool.not_eq_false'] at hc) <;> simp only [hc, l1, k_impl_in, hws, go_sem]))
      all_goals first
        | exact (decide_eq_false hr).symm
        | exact absurd (by simp only [Bool.and_eq_true, decide_eq_true_eq] at *; simp only [EOk]; omega) hE
  · have : GOk size es := ⟨hs, fun j hj => hall j (by omega)⟩
    simp only [this, go_sem]
theorem ints_app {m : List Int} : ints l ++ ints m = ints (l ++ m) := by simp [ints]
end
end Go.Proofs.YtgmljppiiighmaaGreatDoor.Ab
set_option linter.unusedSimpArgs false
set_option linter.unusedVariables false
set_option linter.unnecessarySimpa false
set_option maxHeartbeats 4000000
namespace Go.Proofs.YtgmljppiiighmaaGreatDoor.Ab
open Go.RowKit
theorem edgeIx_ge {es : List E} {a b : Int} : 0 ≤ edgeIx es a b ↔ ∃ e ∈ es, Join a b e := by
  unfold edgeIx
  rcases firstIx_cases (p := Join a b) e0 es with ⟨h1, h2⟩ | ⟨i, h1, h2, h3, h4⟩
  · rw [h1]
    constructor
    · intro h; omega
    · rintro ⟨e, he, hj⟩
      obtain ⟨i, hi, rfl⟩ := mem_getD (d := e0) he
      exact absurd hj (h2 i hi)
  · rw [h1]
    exact ⟨fun _ => ⟨_, getD_mem h2, h3⟩, fun _ => by omega⟩
theorem gok_mem {size : Int} {es : List E} (g : GOk size es) {e : E} (he : e ∈ es) : EOk size e := by
  obtain ⟨i, hi, rfl⟩ := mem_getD (d := e0) he
  exact (g.2 i hi).1
theorem gok_len {size : Int} {es : List E} (g : GOk size es) : es.length ≤ 81 := by
  obtain ⟨⟨g1, g2⟩, g3⟩ := g
  have key : ∀ i, i < es.length → (i : Int) ≤ 9 * (es.getD i e0).a + (es.getD i e0).b := by
    intro i
    induction i with
    | zero => intro hi; have := (g3 0 hi).1; unfold EOk at this; omega
    | succ i ih =>
      intro hi
      have h1 := ih (by omega)
      have h2 := (g3 (i + 1) hi).1
      have h3 := (g3 i (by omega)).1
      have h4 := (g3 (i + 1) hi).2 (by omega)
      simp only [Nat.add_sub_cancel] at h4
      unfold EOk at h2 h3
      unfold ELt at h4
      omega
  by_cases hz : es.length = 0
  · omega
  · have h1 := key (es.length - 1) (by omega)
    have h2 := (g3 (es.length - 1) (by omega)).1
    unfold EOk at h2
    omega
section
variable {X : CallF} {h : Heap} {ev : Value} {es : List E} {n size x : Int}
end
end Go.Proofs.YtgmljppiiighmaaGreatDoor.Ab
set_option linter.unusedSimpArgs false
set_option linter.unusedVariables false
set_option linter.unnecessarySimpa false
set_option maxHeartbeats 4000000
namespace Go.Proofs.YtgmljppiiighmaaGreatDoor.Ab
/-- One can go from one to the other. -/
inductive Conn (R : Int → Int → Prop) (a : Int) : Int → Prop
  | refl : Conn R a a
  | step {b c : Int} (h : Conn R a b) (r : R b c) : Conn R a c
section
variable {R S : Int → Int → Prop} {a b c : Int}
theorem Conn.one (r : R a b) : Conn R a b := .step .refl r
theorem Conn.trans (h : Conn R a b) (k : Conn R b c) : Conn R a c := by
  induction k with
  | refl => exact h
  | step _ r ih => exact .step ih r
theorem Conn.symm (hs : ∀ {x y}, R x y → R y x) (h : Conn R a b) : Conn R b a := by
  induction h with
  | refl => exact .refl
  | step _ r ih => exact (Conn.one (hs r)).trans ih
theorem Conn.imp (hi : ∀ {x y}, R x y → S x y) (h : Conn R a b) : Conn S a b := by
  induction h with
  | refl => exact .refl
  | step _ r ih => exact .step ih (hi r)
theorem Conn.ends (h : Conn R a b) (hr : ∀ {x y}, R x y → S x y) : a = b ∨ ∃ x y, S a x ∧ S y b := by
  induction h with
  | refl => exact .inl rfl
  | step h r ih =>
    rcases ih with rfl | ⟨x, y, h1, _⟩
    · exact .inr ⟨_, _, hr r, hr r⟩
    · exact .inr ⟨x, _, h1, hr r⟩
end
/-- Two vertices have an edge, and neither is left out. -/
def Adj (es : List E) (out : List Int) (a b : Int) : Prop := (∃ e ∈ es, Join a b e) ∧ ¬ a ∈ out ∧ ¬ b ∈ out
theorem Adj.symm {es : List E} {out : List Int} {a b : Int} (h : Adj es out a b) : Adj es out b a := by
  obtain ⟨⟨e, he, hj⟩, h1, h2⟩ := h
  exact ⟨⟨e, he, Or.symm hj⟩, h2, h1⟩
abbrev Cn (es : List E) (out : List Int) (a b : Int) : Prop := Conn (Adj es out) a b
theorem Cn.symm {es : List E} {out : List Int} {a b : Int} (h : Cn es out a b) : Cn es out b a := Conn.symm Adj.symm h
end Go.Proofs.YtgmljppiiighmaaGreatDoor.Ab
set_option linter.unusedSimpArgs false
set_option linter.unusedVariables false
set_option linter.unnecessarySimpa false
set_option maxHeartbeats 4000000
namespace Go.Proofs.YtgmljppiiighmaaGreatDoor.Ab
open Go.RowKit
abbrev nilV : Value := .slice none 0 0
/-- The place of a slice's block, and the one behind it. -/
def tlo : Value → Nat
  | .slice (some a) _ _ => a.block
  | _ => 0
def thi : Value → Nat
  | .slice (some a) _ _ => a.block + 1
  | _ => 0
/-- Two slices have different blocks. -/
def Sep (v w : Value) : Prop := thi v ≤ tlo w ∨ thi w ≤ tlo v
theorem Sep.symm {v w : Value} (h : Sep v w) : Sep w v := Or.symm h
theorem sep_nil {v : Value} : Sep v nilV := .inr (Nat.zero_le _)
section
variable {h h' : Heap} {lo hi lo' hi' sz sz' : Nat} {ty ty' : TypeId} {v w : Value} {rws rws' : List (List Value)}
theorem Own.tight (o : Own h lo hi sz ty v rws) : Own h (tlo v) (thi v) sz ty v rws := by
  refine ⟨o.len, ?_⟩
  rcases o.is with hn | ⟨b, _, _, rfl, h2⟩
  · exact .inl hn
  · exact .inr ⟨b, Nat.le_refl _, Nat.lt_succ_self _, rfl, h2⟩
theorem Own.within (o : Own h lo hi sz ty v rws) : v = nilV ∨ (lo ≤ tlo v ∧ thi v ≤ hi ∧ tlo v < thi v) := by
  rcases o.is with ⟨rfl, _⟩ | ⟨b, _, _, rfl, h2⟩
  · exact .inl rfl
  · exact .inr ⟨by assumption, by assumption, Nat.lt_succ_self _⟩
theorem Own.sep (o : Own h lo hi sz ty v rws) (q : Own h' lo' hi' sz' ty' w rws') (hd : hi ≤ lo' ∨ hi' ≤ lo) : Sep v w := by
  rcases o.within with rfl | ⟨h1, h2, _⟩
  · exact sep_nil.symm
  rcases q.within with rfl | ⟨h3, h4, _⟩
  · exact sep_nil
  unfold Sep
  omega
/-- What is written elsewhere does not turn it. -/
theorem Own.apart (o : Own h lo hi sz ty v rws) {w : Value} (a : Same (tlo w) (thi w) h h') (hs : Sep v w) : Own h' lo hi sz ty v rws := by
  have t := o.tight.same a hs
  rcases o.within with rfl | ⟨h1, h2, _⟩
  · refine ⟨o.len, .inl ⟨rfl, ?_⟩⟩
    rcases o.is with ⟨_, e⟩ | ⟨b, _, _, e, _⟩
    · exact e
    · cases e
  · exact t.wide h1 h2
end
/-- What is appended turns no other block. -/
theorem push_is {h : Heap} {lo hi sz : Nat} {ty : TypeId} {v : Value} {rws : List (List Value)} (o : Own h lo hi sz ty v rws) (hlo : lo ≤ h.length) (new : List (List Value)) (hn : ∀ r ∈ new, r.length = sz) (h1 : new ≠ []) (hl : rws.length + new.length ≤ lim) :
    ∃ v' h', appLW h sz ty new.length v (some new.flatten) = some (v', h') ∧ h.length ≤ h'.length ∧ (∀ b, b < h.length → (b < tlo v ∨ thi v ≤ b) → h'[b]? = h[b]?) ∧
      ((v = nilV ∧ tlo v' = h.length ∧ thi v' = h.length + 1 ∧ h'.length = h.length + 1) ∨ (v ≠ nilV ∧ h'.length = h.length ∧ tlo v' = tlo v ∧ thi v' = thi v)) ∧ Own h' (tlo v') (thi v') sz ty v' (rws ++ new) := by
  have hf := flatten_len hn
  have h0 : ¬ new.length = 0 := fun e => h1 (List.length_eq_zero_iff.1 e)
  have hall : ∀ r ∈ rws ++ new, r.length = sz := fun r hr => by
    rcases List.mem_append.1 hr with hr | hr
    · exact o.len r hr
    · exact hn r hr
  rcases o.is with ⟨rfl, rfl⟩ | ⟨b, l1, l2, rfl, h2⟩
  · refine ⟨.slice (some ⟨h.length, 0, none⟩) new.length new.length, h ++ [⟨new.flatten, sz, ty, true⟩], ?_, by simp, fun b hb _ => ?_, .inl ⟨rfl, rfl, rfl, by simp⟩, hall, .inr ⟨h.length, Nat.le_refl _, Nat.lt_succ_self _, rfl, by simp⟩⟩
    · simp only [appLW, appV]
      rw [if_pos hf, if_neg h0, if_pos (by simpa using hl)]
    · rw [List.getElem?_append_left hb]
  · have hb := lt_of_get h2
    have hr := flatten_len o.len
    refine ⟨.slice (some ⟨b, 0, none⟩) (rws ++ new).length (rws ++ new).length, h.set b ⟨(rws ++ new).flatten, sz, ty, true⟩, ?_, by simp, fun b' _ hb' => ?_, .inr ⟨(fun e => by cases e), by simp, rfl, rfl⟩, hall, .inr ⟨b, Nat.le_refl _, Nat.lt_succ_self _, rfl, by rw [List.getElem?_set_self hb]⟩⟩
    · simp only [appLW, appV, h2, List.length_append]
      rw [if_pos hf, if_pos (by rw [hr]; omega), if_neg h0, if_pos ⟨trivial, trivial, trivial, trivial, trivial, hl⟩]
      rw [List.flatten_append]
    · have : b' ≠ b := by simp only [tlo, thi] at hb'; omega
      rw [List.getElem?_set_ne (Ne.symm this)]
/-- A list that is there grows in its place. -/
theorem Own.grow {h : Heap} {lo hi sz : Nat} {ty : TypeId} {v : Value} {rws : List (List Value)} (o : Own h lo hi sz ty v rws) (hv : v ≠ nilV) (new : List (List Value)) (hn : ∀ r ∈ new, r.length = sz) (h1 : new ≠ []) (hl : rws.length + new.length ≤ lim) :
    ∃ v' h', appLW h sz ty new.length v (some new.flatten) = some (v', h') ∧ v' ≠ nilV ∧ Same lo hi h h' ∧ Own h' lo hi sz ty v' (rws ++ new) := by
  have hlo : lo ≤ h.length := by
    rcases o.is with ⟨rfl, _⟩ | ⟨b, l1, l2, rfl, h2⟩
    · exact absurd rfl hv
    · have := lt_of_get h2; omega
  obtain ⟨v', h', e, g, b, c, o'⟩ := push_is o hlo new hn h1 hl
  rcases c with ⟨c, _⟩ | ⟨_, c1, c2, c3⟩
  · exact absurd c hv
  · rcases o.within with w | ⟨w1, w2, w3⟩
    · exact absurd w hv
    refine ⟨v', h', e, ?_, ⟨c1, fun b' hb' => ?_⟩, by rw [c2, c3] at o'; exact o'.wide w1 w2⟩
    · rintro rfl
      have : tlo v = thi v := c2.symm.trans (show tlo nilV = thi v from c3)
      omega
    · by_cases hlt : b' < h.length
      · exact b b' hlt (by omega)
      · rw [List.getElem?_eq_none (by omega), List.getElem?_eq_none (by omega)]
/-- A list of lists is shown. -/
def RowsLL (h : Heap) (v : Value) (ll : List (List Int)) : Prop := ∃ vs : List Value, vs.length = ll.length ∧ Rows h 1 v (vs.map fun x => [x]) ∧ ∀ i, i < ll.length → Rows h 1 (vs.getD i nilV) (ints (ll.getD i []))
/-- .. of one's own. -/
structure OwnLLs (h : Heap) (lo hi : Nat) (tyO tyI : TypeId) (v : Value) (ll : List (List Int)) (vs : List Value) : Prop where
  len : vs.length = ll.length
  out : Own h lo hi 1 tyO v (vs.map fun x => [x])
  ins : ∀ i, i < ll.length → Own h lo hi 1 tyI (vs.getD i nilV) (ints (ll.getD i []))
  so : ∀ i, i < ll.length → Sep v (vs.getD i nilV)
  si : ∀ i j, i < j → j < ll.length → Sep (vs.getD i nilV) (vs.getD j nilV)
def OwnLL (h : Heap) (lo hi : Nat) (tyO tyI : TypeId) (v : Value) (ll : List (List Int)) : Prop := ∃ vs, OwnLLs h lo hi tyO tyI v ll vs
section
variable {h h' h0 : Heap} {lo hi lo' hi' : Nat} {tyO tyI : TypeId} {v w : Value} {ll : List (List Int)} {l : List Int}
theorem OwnLL.rows (o : OwnLL h lo hi tyO tyI v ll) : RowsLL h v ll := by
  obtain ⟨vs, h1, h2, h3, _, _⟩ := o
  exact ⟨vs, h1, h2.rows, fun i hi => (h3 i hi).rows⟩
theorem OwnLL.up (o : OwnLL h lo hi tyO tyI v ll) (hp : h <+: h') : OwnLL h' lo hi tyO tyI v ll := by
  obtain ⟨vs, h1, h2, h3, h4, h5⟩ := o
  exact ⟨vs, h1, h2.up hp, fun i hi => (h3 i hi).up hp, h4, h5⟩
theorem OwnLL.wide (o : OwnLL h lo hi tyO tyI v ll) (k1 : lo' ≤ lo) (k2 : hi ≤ hi') : OwnLL h lo' hi' tyO tyI v ll := by
  obtain ⟨vs, h1, h2, h3, h4, h5⟩ := o
  exact ⟨vs, h1, h2.wide k1 k2, fun i hi => (h3 i hi).wide k1 k2, h4, h5⟩
theorem OwnLL.same (o : OwnLL h lo hi tyO tyI v ll) (a : Same lo' hi' h h') (hd : hi ≤ lo' ∨ hi' ≤ lo) : OwnLL h' lo hi tyO tyI v ll := by
  obtain ⟨vs, h1, h2, h3, h4, h5⟩ := o
  exact ⟨vs, h1, h2.same a hd, fun i hi => (h3 i hi).same a hd, h4, h5⟩
theorem OwnLL.nil : OwnLL h lo hi tyO tyI nilV [] := ⟨[], rfl, Own.nil, fun i hi => (by simp at hi), fun i hi => (by simp at hi), fun i j _ hi => (by simp at hi)⟩
theorem OwnLL.zero (o : Own h lo hi 1 tyO v []) : OwnLL h lo hi tyO tyI v [] := ⟨[], rfl, o, fun i hi => (by simp at hi), fun i hi => (by simp at hi), fun i j _ hi => (by simp at hi)⟩
theorem OwnLL.live (o : OwnLL h lo hi tyO tyI v ll) : live v = true := by
  obtain ⟨vs, h1, h2, _, _, _⟩ := o
  exact h2.live
theorem OwnLL.fin (hp : h <+: h') (o : OwnLL h' h.length h'.length tyO tyI v ll) : h <+: (finish h (v, h')).2 ∧ OwnLL (finish h (v, h')).2 h.length (finish h (v, h')).2.length tyO tyI (finish h (v, h')).1 ll := by
  obtain ⟨h3, e, p3, hc⟩ := finish_cases (v := v) hp
  rw [e]
  rcases hc with rfl | ⟨hf, rfl⟩
  · exact ⟨hp, o⟩
  · refine ⟨p3, ?_⟩
    obtain ⟨vs, h1, h2, h4, h5, h6⟩ := o
    rcases h2.is with ⟨rfl, e2⟩ | ⟨b, _, _, rfl, _⟩
    · have : ll = [] := by
        have : vs = [] := by simpa using e2
        subst this
        exact List.length_eq_zero_iff.1 h1.symm
      subst this
      exact OwnLL.nil
    · cases hf
theorem RowsLL.up (o : RowsLL h v ll) (hp : h <+: h') : RowsLL h' v ll := by
  obtain ⟨vs, h1, h2, h3⟩ := o
  exact ⟨vs, h1, h2.up hp, fun i hi => (h3 i hi).up hp⟩
theorem RowsLL.ln (o : RowsLL h v ll) : lnV h v = some (.int .i64 ll.length) := by
  obtain ⟨vs, h1, h2, h3⟩ := o
  rw [h2.ln, List.length_map, h1]
theorem RowsLL.el (o : RowsLL h v ll) {i : Nat} (hi : i < ll.length) : ∃ x, iaV h 1 v (.int .i64 (i : Int)) = some (elemP v 1 i 0) ∧ ldC h (elemP v 1 i 0) 1 = some [x] ∧ Rows h 1 x (ints (ll.getD i [])) := by
  obtain ⟨vs, h1, h2, h3⟩ := o
  have e := h2.el (f := fun x => [x]) nilV (i := i) (by omega)
  exact ⟨vs.getD i nilV, e.1, e.2.2, h3 i hi⟩
/-- A list of one's own is appended. -/
theorem OwnLLs.pushG {lo2 hi2 : Nat} {vs : List Value} (o : OwnLLs h lo hi tyO tyI v ll vs) (hlo : lo ≤ h.length) (hhi : hi ≤ h.length) (q : Own h lo2 hi2 1 tyI w (ints l)) (hwsepv : Sep v w) (hws : ∀ i, i < ll.length → Sep (vs.getD i nilV) w) (hd2 : hi2 ≤ h.length) (hl : ll.length < lim) :
    ∃ v' h', appLW h 1 tyO 1 v (some [w]) = some (v', h') ∧ h.length ≤ h'.length ∧ (∀ b, b < h.length → (b < tlo v ∨ thi v ≤ b) → h'[b]? = h[b]?) ∧ (v ≠ nilV → h'.length = h.length ∧ tlo v' = tlo v ∧ thi v' = thi v) ∧
      (v' ≠ nilV ∧ (v = nilV → tlo v' = h.length)) ∧ OwnLLs h' (min lo lo2) h'.length tyO tyI v' (ll ++ [l]) (vs ++ [w]) := by
  obtain ⟨h1, h2, h3, h4, h5⟩ := o
  obtain ⟨v', h', e, g, b, c, o'⟩ := push_is h2 hlo [[w]] (fun r hr => by rw [List.mem_singleton.1 hr]; rfl) (by simp) (by simp; omega)
  simp only [List.flatten_cons, List.flatten_nil, List.append_nil, List.length_cons, List.length_nil, Nat.zero_add] at e
  have same : ∀ {x : Value} {rr : List (List Value)} {p r : Nat}, Own h p r 1 tyI x rr → r ≤ h.length → Sep v x → Own h' p r 1 tyI x rr := by
    intro x rr p r ox hr hs
    refine ⟨ox.len, ?_⟩
    rcases ox.is with hn | ⟨c, l1, l2, rfl, hc⟩
    · exact .inl hn
    · exact .inr ⟨c, l1, l2, rfl, by rw [b c (by omega) (by simp only [Sep, tlo, thi] at hs ⊢; omega)]; exact hc⟩
  have hv'sep : ∀ {x : Value}, Sep v x → (x = nilV ∨ thi x ≤ h.length) → Sep v' x := by
    intro x hs hx
    rcases c with ⟨rfl, c1, c2, c3⟩ | ⟨_, _, c2, c3⟩
    · rcases hx with rfl | hx
      · exact sep_nil
      · exact .inr (by omega)
    · unfold Sep at hs ⊢; omega
  have hwin : w = nilV ∨ thi w ≤ h.length := by
    rcases q.within with h | ⟨_, h, _⟩
    · exact .inl h
    · exact .inr (by omega)
  have hlv : lo ≤ tlo v' := by
    rcases c with ⟨_, c1, _⟩ | ⟨hv, _, c2, _⟩
    · omega
    · rcases h2.within with k | k
      · exact absurd k hv
      · omega
  have hnz : thi v' ≤ h'.length ∧ tlo v' < thi v' := by
    rcases c with ⟨_, c1, c2, c3⟩ | ⟨hv, c1, c2, c3⟩
    · omega
    · rcases h2.within with k | k
      · exact absurd k hv
      · omega
  refine ⟨v', h', e, g, b, fun hv => ?_, ⟨?_, fun hv => ?_⟩, ⟨by simp [h1], ?_, fun i hi' => ?_, fun i hi' => ?_, fun i j hij hj => ?_⟩⟩
  · rcases c with ⟨k, _⟩ | ⟨_, k⟩
    · exact absurd k hv
    · exact k
  · rintro rfl
    have : tlo nilV < thi nilV := hnz.2
    exact absurd this (Nat.lt_irrefl 0)
  · rcases c with ⟨_, k, _⟩ | ⟨k, _⟩
    · exact k
    · exact absurd hv k
  · rw [List.map_append]
    exact o'.wide (by omega) hnz.1
  · by_cases hil : i < ll.length
    · have e1 : (vs ++ [w]).getD i nilV = vs.getD i nilV := by simp [List.getElem?_append_left (show i < vs.length by omega)]
      have e2 : (ll ++ [l]).getD i [] = ll.getD i [] := by simp [List.getElem?_append_left hil]
      rw [e1, e2]
      exact (same (h3 i hil) hhi (h4 i hil)).wide (by omega) (by omega)
    · have hil : i = ll.length := by simp at hi'; omega
      subst hil
      have e1 : (vs ++ [w]).getD ll.length nilV = w := by rw [← h1]; simp
      have e2 : (ll ++ [l]).getD ll.length [] = l := by simp
      rw [e1, e2]
      exact (same q hd2 hwsepv).wide (by omega) (by omega)
  · by_cases hil : i < ll.length
    · have e1 : (vs ++ [w]).getD i nilV = vs.getD i nilV := by simp [List.getElem?_append_left (show i < vs.length by omega)]
      rw [e1]
      refine hv'sep (h4 i hil) ?_
      rcases (h3 i hil).within with h | ⟨_, h, _⟩
      · exact .inl h
      · exact .inr (by omega)
    · have hil : i = ll.length := by simp at hi'; omega
      subst hil
      have e1 : (vs ++ [w]).getD ll.length nilV = w := by rw [← h1]; simp
      rw [e1]
      exact hv'sep hwsepv hwin
  · have hil : i < ll.length := by simp at hj; omega
    have e1 : (vs ++ [w]).getD i nilV = vs.getD i nilV := by simp [List.getElem?_append_left (show i < vs.length by omega)]
    rw [e1]
    by_cases hjl : j < ll.length
    · have e2 : (vs ++ [w]).getD j nilV = vs.getD j nilV := by simp [List.getElem?_append_left (show j < vs.length by omega)]
      rw [e2]
      exact h5 i j hij hjl
    · have hjl : j = ll.length := by simp at hj; omega
      subst hjl
      have e2 : (vs ++ [w]).getD ll.length nilV = w := by rw [← h1]; simp
      rw [e2]
      exact hws i hil
theorem OwnLLs.push {lo2 hi2 : Nat} {vs : List Value} (o : OwnLLs h lo hi tyO tyI v ll vs) (hlo : lo ≤ h.length) (hhi : hi ≤ h.length) (q : Own h lo2 hi2 1 tyI w (ints l)) (hd : hi ≤ lo2) (hd2 : hi2 ≤ h.length) (hl : ll.length < lim) :
    ∃ v' h', appLW h 1 tyO 1 v (some [w]) = some (v', h') ∧ h.length ≤ h'.length ∧ (∀ b, b < h.length → (b < tlo v ∨ thi v ≤ b) → h'[b]? = h[b]?) ∧ (v ≠ nilV → h'.length = h.length ∧ tlo v' = tlo v ∧ thi v' = thi v) ∧
      (v' ≠ nilV ∧ (v = nilV → tlo v' = h.length)) ∧ OwnLLs h' (min lo lo2) h'.length tyO tyI v' (ll ++ [l]) (vs ++ [w]) :=
  o.pushG hlo hhi q (o.out.sep q (.inl hd)) (fun i hi => (o.ins i hi).sep q (.inl hd)) hd2 hl
theorem OwnLL.push (o : OwnLL h0 lo hi tyO tyI v ll) (hlo : lo ≤ h0.length) (hhi : hi ≤ h0.length) (hp : h0 <+: h) (q : Own h h0.length h.length 1 tyI w (ints l)) (hl : ll.length < lim) :
    ∃ v' h', appLW h 1 tyO 1 v (some [w]) = some (v', h') ∧ h.length ≤ h'.length ∧ (∀ b, b < lo → h'[b]? = h[b]?) ∧ OwnLL h' lo h'.length tyO tyI v' (ll ++ [l]) := by
  obtain ⟨vs, o⟩ := o
  have hlen := pre_len hp
  obtain ⟨v', h', e, g, b, c, _, o'⟩ := (show OwnLLs h lo hi tyO tyI v ll vs from ⟨o.len, o.out.up hp, fun i hi => (o.ins i hi).up hp, o.so, o.si⟩).push (by omega) (by omega) q hhi (Nat.le_refl _) hl
  refine ⟨v', h', e, g, fun x hx => ?_, vs ++ [w], by rw [Nat.min_eq_left hlo] at o'; exact o'⟩
  refine b x (by omega) ?_
  rcases o.out.within with rfl | ⟨k1, k2, _⟩
  · exact .inr (Nat.zero_le _)
  · exact .inl (by omega)
/-- Another list grows, or is written. -/
theorem OwnLLs.apart {vs : List Value} (o : OwnLLs h lo hi tyO tyI v ll vs) (a : Same (tlo w) (thi w) h h') (h1 : Sep v w) (h2 : ∀ i, i < ll.length → Sep (vs.getD i nilV) w) : OwnLLs h' lo hi tyO tyI v ll vs :=
  ⟨o.len, o.out.apart a h1, fun i hi => (o.ins i hi).apart a (h2 i hi), o.so, o.si⟩
end
end Go.Proofs.YtgmljppiiighmaaGreatDoor.Ab
set_option linter.unusedSimpArgs false
set_option linter.unusedVariables false
set_option linter.unnecessarySimpa false
set_option maxHeartbeats 4000000
namespace Go.Proofs.YtgmljppiiighmaaGreatDoor.Ab
open Go.RowKit
theorem catV_exact {s : ByteArray} : ∀ {l : List Int}, (∀ x ∈ l, 0 ≤ x ∧ x ≤ 1000000000) → (catV s l).size = s.size + (l.map fun x => (varL x.toNat).length).sum
  | [], _ => by simp [catV]
  | n :: l, h => by
    have h1 := h n List.mem_cons_self
    have ih := catV_exact (s := s ++ vt n) (l := l) fun x hx => h x (List.mem_cons_of_mem _ hx)
    have e : catV s (n :: l) = catV (s ++ vt n) l := rfl
    rw [e, ih, ByteArray.size_append]
    have : (vt n).size = (varL n.toNat).length := by unfold vt; rw [if_pos h1]; unfold varT; exact strOfNums_size _
    rw [this]
    simp only [List.map_cons, List.sum_cons]
    omega
section
variable {X : CallF} {h : Heap} {s : ByteArray}
end
end Go.Proofs.YtgmljppiiighmaaGreatDoor.Ab
set_option linter.unusedSimpArgs false
set_option linter.unusedVariables false
set_option linter.unnecessarySimpa false
set_option maxHeartbeats 4000000
namespace Go.Proofs.YtgmljppiiighmaaGreatDoor.Ab
open Go.RowKit
/-- A group. -/
structure Gp where
  ms : List Int
  z : Int
def g0 : Gp := ⟨[], 0⟩
def gRow (vs : List Value) (gs : List Gp) (i : Nat) : List Value := [vs.getD i nilV, .int .i64 (gs.getD i g0).z]
abbrev gRows (vs : List Value) (gs : List Gp) : List (List Value) := (List.range gs.length).map (gRow vs gs)
def RowsG (h : Heap) (v : Value) (gs : List Gp) : Prop := ∃ vs, Rows h 2 v (gRows vs gs) ∧ ∀ i, i < gs.length → Rows h 1 (vs.getD i nilV) (ints (gs.getD i g0).ms)
structure OwnGs (h : Heap) (lo hi : Nat) (ty : TypeId) (v : Value) (gs : List Gp) (vs : List Value) : Prop where
  out : Own h lo hi 2 ty v (gRows vs gs)
  ins : ∀ i, i < gs.length → Own h lo hi 1 y_int (vs.getD i nilV) (ints (gs.getD i g0).ms)
  so : ∀ i, i < gs.length → Sep v (vs.getD i nilV)
  si : ∀ i j, i < j → j < gs.length → Sep (vs.getD i nilV) (vs.getD j nilV)
def OwnG (h : Heap) (lo hi : Nat) (ty : TypeId) (v : Value) (gs : List Gp) : Prop := ∃ vs, OwnGs h lo hi ty v gs vs
section
variable {h h' : Heap} {lo hi lo' hi' : Nat} {ty : TypeId} {v : Value} {gs : List Gp}
theorem RowsG.up (o : RowsG h v gs) (hp : h <+: h') : RowsG h' v gs := by
  obtain ⟨vs, h1, h2⟩ := o
  exact ⟨vs, h1.up hp, fun i hi => (h2 i hi).up hp⟩
theorem RowsG.ln (o : RowsG h v gs) : lnV h v = some (.int .i64 gs.length) := by
  obtain ⟨vs, h1, h2⟩ := o
  rw [h1.ln, List.length_map, List.length_range]
theorem RowsG.el (o : RowsG h v gs) {i : Nat} (hi : i < gs.length) : ∃ x, iaV h 2 v (.int .i64 (i : Int)) = some (elemP v 2 i 0) ∧ (∀ o k, faV h (elemP v 2 i o) k = some (elemP v 2 i (o + k))) ∧ ldC h (elemP v 2 i 0) 2 = some [x, .int .i64 (gs.getD i g0).z] ∧
    ldC h (elemP v 2 i 0) 1 = some [x] ∧ ldC h (elemP v 2 i 1) 1 = some [.int .i64 (gs.getD i g0).z] ∧ Rows h 1 x (ints (gs.getD i g0).ms) := by
  obtain ⟨vs, h1, h2⟩ := o
  have hr : i < (List.range gs.length).length := by simpa using hi
  have e := h1.el (f := gRow vs gs) 0 hr
  have c0 := h1.cell (f := gRow vs gs) 0 hr (o := 0) (by omega)
  have c1 := h1.cell (f := gRow vs gs) 0 hr (o := 1) (by omega)
  rw [range_getD hi] at e c0 c1
  exact ⟨vs.getD i nilV, e.1, e.2.1, e.2.2, c0, c1, h2 i hi⟩
theorem OwnG.rows (o : OwnG h lo hi ty v gs) : RowsG h v gs := by
  obtain ⟨vs, h1, h2, _, _⟩ := o
  exact ⟨vs, h1.rows, fun i hi => (h2 i hi).rows⟩
theorem OwnG.up (o : OwnG h lo hi ty v gs) (hp : h <+: h') : OwnG h' lo hi ty v gs := by
  obtain ⟨vs, h1, h2, h3, h4⟩ := o
  exact ⟨vs, h1.up hp, fun i hi => (h2 i hi).up hp, h3, h4⟩
theorem OwnG.wide (o : OwnG h lo hi ty v gs) (k1 : lo' ≤ lo) (k2 : hi ≤ hi') : OwnG h lo' hi' ty v gs := by
  obtain ⟨vs, h1, h2, h3, h4⟩ := o
  exact ⟨vs, h1.wide k1 k2, fun i hi => (h2 i hi).wide k1 k2, h3, h4⟩
theorem OwnG.same (o : OwnG h lo hi ty v gs) (a : Same lo' hi' h h') (hd : hi ≤ lo' ∨ hi' ≤ lo) : OwnG h' lo hi ty v gs := by
  obtain ⟨vs, h1, h2, h3, h4⟩ := o
  exact ⟨vs, h1.same a hd, fun i hi => (h2 i hi).same a hd, h3, h4⟩
end
def proofV (yv gv : Value) : Value := .agg ⟨[yv, gv]⟩
def PfBnd (ys : List Int) (gs : List Gp) : Prop := ys.length ≤ 1048576 ∧ gs.length ≤ 1048576 ∧ ∀ g ∈ gs, g.ms.length ≤ 1048576
/-- A group is right. -/
def GrOk (size : Int) (g : Gp) : Prop := (3 ≤ g.ms.length ∧ g.ms.length % 2 = 1 ∧ 1 ≤ g.z ∧ g.z ≤ 1000000000) ∧ ∀ j, j < g.ms.length → (0 ≤ g.ms.getD j 0 ∧ g.ms.getD j 0 ≤ size - 1) ∧ (0 < j → g.ms.getD (j - 1) 0 < g.ms.getD j 0)
/-- One has all of the other one, or they have none in common. -/
def Nest (a b : List Int) : Prop := (∀ x ∈ b, x ∈ a) ∨ (∀ x ∈ b, ¬ x ∈ a) ∨ ∀ x ∈ a, x ∈ b
def scalar (w1 w2 w3 : Int) : Int := 90000 * w1 + 300 * w2 + w3
end Go.Proofs.YtgmljppiiighmaaGreatDoor.Ab
