/- Joined: H0, K0, K3, H5, H10, K50, K51, K52, P15. No conditions. -/
import Derived.Test.YtgmljppiiighmaaGreatDoorFT
import Derived.Test.YtgmljppiiighmaaGreatDoorM4
import Derived.Test.YtgmljppiiighmaaGreatDoorM12
import Derived.Test.YtgmljppiiighmaaGreatDoorM5
set_option linter.unusedSimpArgs false
set_option linter.unusedVariables false
set_option linter.unnecessarySimpa false
set_option maxHeartbeats 4000000
namespace Go.Proofs.YtgmljppiiighmaaGreatDoor.Ab
open Go.RowKit
section
variable {X : CallF} {h : Heap}
end
section
variable {X : CallF} {h : Heap} {a b : Value} {l : List E} {rws : List (List Value)} {k : Nat}
end
section
variable {X : CallF} {h : Heap} {a b : Value} {l : List Cp} {rws : List (List Value)} {k : Nat}
end
section
variable {X : CallF} {h : Heap} {a b : Value} {l : List Pr} {rws : List (List Value)} {k : Nat}
theorem k_toPair {l : Pr} : C T X n_laws_toPair [.agg ⟨prR l⟩] h = some (.agg ⟨prR l⟩, h) := by
  refine C_go t_laws_toPair rfl ?_
  unfold F_laws_toPair prR
  simp only [go_sem]
  try rfl
theorem k_eqPair {l : Pr} : C T X n_laws_eqPair [.agg ⟨prR l⟩, .agg ⟨prR l⟩] h = some (.bool true, h) := by
  refine C_go t_laws_eqPair rfl ?_
  unfold F_laws_eqPair prR
  simp only [BEq.rfl, go_sem]
  try rfl
theorem k_toPairS (ha : Rows h 2 a (prsL l)) (hl : l.length ≤ lim) : C T X n_laws_toPairS [a] h = some (.slice (some ⟨h.length, 0, none⟩) l.length l.length, h ++ [⟨(prsL l).flatten, 2, y_Pair, true⟩]) := by
  have hl2 := hl
  unfold lim at hl2
  refine C_go t_laws_toPairS rfl ?_
  unfold F_laws_toPairS
  simp only [Rows.lnm (f := prR) ha, mkW_ok hl, go_sem]
  rw [fill_start (rows := prsL l)]
  refine w_for l.length (fun i t loc h' => h' = h ++ [⟨fillC [.string noT, .string noT] (prsL l) l.length i, 2, y_Pair, true⟩] ∧ t 0 = a ∧ t 3 = .slice (some ⟨h.length, 0, none⟩) l.length l.length ∧ t 4 = .int .i64 i) ⟨rfl, rfl, rfl, rfl⟩ ?_
  rintro i t loc h' hi ⟨rfl, t0, t3, t4⟩
  have hu := ha.up (List.prefix_append h [⟨fillC [.string noT, .string noT] (prsL l) l.length i, 2, y_Pair, true⟩])
  simp only [t0, t3, t4, Rows.lnm (f := prR) hu, go_sem]
  refine w_open (by simp only [go_sem]; rfl) ?_ ?_ <;> intro hc
  · have hi1 : i < l.length := by omega
    have hrow : ∀ r ∈ (prsL l), r.length = 2 := map_row prR_len
    have hlen : (prsL l).length = l.length := List.length_map ..
    have hi2 : i < (prsL l).length := by omega
    have hst := fill_st (h := h) (ext := []) (z := [.string noT, .string noT]) (ty := y_Pair) hrow rfl hlen hi2
    have hgt : (prsL l)[i] = prR (l.getD i p0) := map_at (d := p0) hi1
    rw [hgt] at hst
    have hia := fill_ia (h := h) (ext := []) (z := [.string noT, .string noT]) (ty := y_Pair) hrow rfl hlen (i := i) (by omega) (k := .i64) (j := (i : Int)) (by omega) (by omega)
    rw [Int.toNat_natCast] at hia
    have hw : IntKind.i64.wrap ((i : Int) + 1) = ((i + 1 : Nat) : Int) := w64 (by omega) (by omega)
    have hel := hu.el (f := prR) p0 hi1
    have hl2 : ofCells true (prR (l.getD i p0)) = some (.agg ⟨prR (l.getD i p0)⟩) := rfl
    have hl3 : cellsOf (.agg ⟨prR (l.getD i p0)⟩) = some (prR (l.getD i p0)) := rfl
    have hl4 := prR_len (l.getD i p0)
    skip
    simp only [t0, t3, t4, hel.1, hel.2.2, k_toPair, hia, hw, hl2, hl3, hl4, Option.bind_some, hst, go_sem]
    exact hi1
  · have hil : i = l.length := by omega
    subst hil
    simp only [t3, go_sem]
    rw [finish_deep rfl, fill_end (by simp [ints])]
theorem k_eqPairS (ha : Rows h 2 a (prsL l)) (hb : Rows h 2 b (prsL l)) (hl : l.length ≤ lim) : C T X n_laws_eqPairS [a, b] h = some (.bool true, h) := by
  unfold lim at hl
  refine C_go t_laws_eqPairS rfl ?_
  unfold F_laws_eqPairS
  simp only [Rows.lnm (f := prR) ha, Rows.lnm (f := prR) hb, go_sem]
  refine w_for l.length (fun i t loc h' => h' = h ∧ t 0 = a ∧ t 1 = b ∧ t 5 = .int .i64 i) ⟨rfl, rfl, rfl, rfl⟩ ?_
  rintro i t loc h' hi ⟨rfl, t0, t1, t5⟩
  simp only [t0, t5, Rows.lnm (f := prR) ha, go_sem]
  refine w_open (by simp only [go_sem]; rfl) ?_ ?_ <;> intro hc
  · have hi1 : i < l.length := by omega
    have hw : IntKind.i64.wrap ((i : Int) + 1) = ((i + 1 : Nat) : Int) := w64 (by omega) (by omega)
    have hel := ha.el (f := prR) p0 hi1
    have hel2 := hb.el (f := prR) p0 hi1
    have hl2 : ofCells true (prR (l.getD i p0)) = some (.agg ⟨prR (l.getD i p0)⟩) := rfl
    skip
    simp only [t0, t1, t5, hel.1, hel.2.2, hel2.1, hel2.2.2, k_eqPair, hw, hl2, Option.bind_some, BEq.rfl, List.prefix_refl, go_sem]
    exact hi1
  · simp only [go_sem]
end
section
variable {X : CallF} {h : Heap} {a b : Value} {l : List Aq} {rws : List (List Value)} {k : Nat}
end
section
variable {X : CallF} {h : Heap} {a b : Value} {l : List Int} {rws : List (List Value)} {k : Nat}
end
section
variable {X : CallF} {h : Heap} {a b : Value} {l : List ByteArray} {rws : List (List Value)} {k : Nat}
end
end Go.Proofs.YtgmljppiiighmaaGreatDoor.Ab
set_option linter.unusedSimpArgs false
set_option linter.unusedVariables false
set_option linter.unnecessarySimpa false
set_option maxHeartbeats 4000000
namespace Go.Proofs.YtgmljppiiighmaaGreatDoor.Ab
open Go.RowKit
section
variable {X : CallF}
theorem k_impl_in {h : Heap} {n lo hi : Int} : C T X n_impl_in [.int .i64 n, .int .i64 lo, .int .i64 hi] h = some (.bool (decide (lo ≤ n) && decide (n ≤ hi)), h) := by
  refine C_intro T X t_impl_in rfl ?_
  unfold F_impl_in start
  simp only [go_sem]
  repeat (first | (refine w_any (by simp only [*, go_sem]; rfl) ?_ ?_ <;> intro hc <;> (try simp only [decide_eq_true_eq, decide_eq_false_iff_not, Decidable.not_not] at hc) <;> simp only [hc, go_sem]) | (refine so_any (by simp only [*, go_sem]; rfl) ?_ ?_ <;> intro hc <;> (try simp only [decide_eq_true_eq, decide_eq_false_iff_not, Decidable.not_not] at hc) <;> simp only [hc, go_sem]) | (refine so_any' (by simp only [*, go_sem]; rfl) ?_ ?_ <;> intro hc <;> (try simp only [decide_eq_true_eq, decide_eq_false_iff_not, Decidable.not_not] at hc) <;> simp only [hc, go_sem]) | (refine sf_any (by simp only [*, go_sem]; rfl) ?_ ?_ <;> intro hc <;> (try simp only [decide_eq_true_eq, decide_eq_false_iff_not, Decidable.not_not] at hc) <;> simp only [hc, go_sem]) | (refine sf_any' (by simp only [*, go_sem]; rfl) ?_ ?_ <;> intro hc <;> (try simp only [decide_eq_true_eq, decide_eq_false_iff_not, Decidable.not_not] at hc) <;> simp only [hc, go_sem]))
  all_goals (refine rets_slot rfl (.inl rfl) rfl ?_; simp only [*, go_sem, finish_same])
theorem k_spec_l01In {h : Heap} {n lo hi : Int} : C T X n_spec_l01In [.int .i64 n, .int .i64 lo, .int .i64 hi] h = some (.bool (decide (lo ≤ n) && decide (n ≤ hi)), h) := by
  refine C_intro T X t_spec_l01In rfl ?_
  unfold F_spec_l01In start
  simp only [go_sem]
  repeat (first | (refine w_any (by simp only [*, go_sem]; rfl) ?_ ?_ <;> intro hc <;> (try simp only [decide_eq_true_eq, decide_eq_false_iff_not, Decidable.not_not] at hc) <;> simp only [hc, go_sem]) | (refine so_any (by simp only [*, go_sem]; rfl) ?_ ?_ <;> intro hc <;> (try simp only [decide_eq_true_eq, decide_eq_false_iff_not, Decidable.not_not] at hc) <;> simp only [hc, go_sem]) | (refine so_any' (by simp only [*, go_sem]; rfl) ?_ ?_ <;> intro hc <;> (try simp only [decide_eq_true_eq, decide_eq_false_iff_not, Decidable.not_not] at hc) <;> simp only [hc, go_sem]) | (refine sf_any (by simp only [*, go_sem]; rfl) ?_ ?_ <;> intro hc <;> (try simp only [decide_eq_true_eq, decide_eq_false_iff_not, Decidable.not_not] at hc) <;> simp only [hc, go_sem]) | (refine sf_any' (by simp only [*, go_sem]; rfl) ?_ ?_ <;> intro hc <;> (try simp only [decide_eq_true_eq, decide_eq_false_iff_not, Decidable.not_not] at hc) <;> simp only [hc, go_sem]))
  all_goals (refine rets_slot rfl (.inl rfl) rfl ?_; simp only [*, go_sem, finish_same])
end
end Go.Proofs.YtgmljppiiighmaaGreatDoor.Ab
set_option linter.unusedSimpArgs false
set_option linter.unusedVariables false
set_option linter.unnecessarySimpa false
set_option maxHeartbeats 4000000
namespace Go.Proofs.YtgmljppiiighmaaGreatDoor.Ab
open Go.RowKit
/-- An edge is right. -/
def EOk (size : Int) (e : E) : Prop := 0 ≤ e.a ∧ e.a < e.b ∧ e.b < size ∧ 0 ≤ e.w1 ∧ e.w1 ≤ 50 ∧ 0 ≤ e.w2 ∧ e.w2 ≤ 50 ∧ 0 ≤ e.w3 ∧ e.w3 ≤ 50
/-- One edge stands ahead of another. -/
def ELt (p e : E) : Prop := p.a < e.a ∨ p.a = e.a ∧ p.b < e.b
/-- A graph is right. -/
def GOk (size : Int) (l : List E) : Prop := (0 ≤ size ∧ size ≤ 9) ∧ ∀ i, i < l.length → EOk size (l.getD i e0) ∧ (0 < i → ELt (l.getD (i - 1) e0) (l.getD i e0))
def graphV (size : Int) (ev : Value) : Value := .agg ⟨[.int .i64 size, ev]⟩
section
variable {X : CallF} {h : Heap} {size : Int} {ev : Value} {l : List E}
theorem k_spec_l08Worth {n : Int} : C T X n_spec_l08Worth [.int .i64 n] h = some (.bool (decide (0 ≤ n) && decide (n ≤ 50)), h) := by
  refine C_go t_spec_l08Worth rfl ?_
  unfold F_spec_l08Worth
  simp only [k_spec_l01In, go_sem]
set_option maxHeartbeats 4000000 in
open Classical in
theorem k_spec_GraphOk (he : Rows h 5 ev (edges l)) (hl : l.length ≤ lim) : C T X n_spec_GraphOk [graphV size ev] h = some (.bool (decide (GOk size l)), h) := by
  unfold lim at hl
  refine C_go t_spec_GraphOk rfl ?_
  unfold F_spec_GraphOk graphV
  simp only [k_spec_l01In, go_sem]
  refine w_any (by simp only [go_sem]; rfl) ?_ ?_ <;> intro hc <;> simp only [go_sem]
  · have : ¬ GOk size l := fun g => by
      have := g.1
      simp at hc
      omega
    simp only [this, go_sem]
  have hs : 0 ≤ size ∧ size ≤ 9 := by simpa using hc
  refine w_for l.length (fun i t loc h' => h' = h ∧ loc 1 = some [.int .i64 size, ev] ∧ t 3 = .int .i64 i ∧ ∀ j, j < i → EOk size (l.getD j e0) ∧ (0 < j → ELt (l.getD (j - 1) e0) (l.getD j e0)))
    ⟨rfl, rfl, rfl, fun j hj => by omega⟩ ?_
  rintro i t loc h' hi ⟨rfl, l1, t3, hall⟩
  simp only [l1, t3, he.lnm, go_sem]
  refine w_open (by simp only [l1, t3, go_sem]; rfl) ?_ ?_ <;> intro hc
  · have hi1 : i < l.length := by omega
    have hneg : ¬ (EOk size (l.getD i e0) ∧ (0 < i → ELt (l.getD (i - 1) e0) (l.getD i e0))) → ¬ GOk size l := fun hn g => hn (g.2 i hi1)
    have hnext : (EOk size (l.getD i e0) ∧ (0 < i → ELt (l.getD (i - 1) e0) (l.getD i e0))) → ∀ j, j < i + 1 → EOk size (l.getD j e0) ∧ (0 < j → ELt (l.getD (j - 1) e0) (l.getD j e0)) := fun hy j hj => by
      by_cases e : j = i
      · subst e; exact hy
      · exact hall j (by omega)
    have hw : IntKind.i64.wrap ((i : Int) + 1) = ((i + 1 : Nat) : Int) := w64 (by omega) (by omega)
    by_cases hE : EOk size (l.getD i e0)
    · obtain ⟨q1, q2, q3, q4, q5, q6, q7, q8, q9⟩ := hE
      have p1 : ¬ (l.getD i e0).a < 0 := by omega
      have p2 : ¬ (l.getD i e0).b ≤ (l.getD i e0).a := by omega
      have p3 : ¬ size ≤ (l.getD i e0).b := by omega
      have hE : EOk size (l.getD i e0) := ⟨q1, q2, q3, q4, q5, q6, q7, q8, q9⟩
      rcases Nat.eq_zero_or_pos i with hz | hp
      · have hz' : ¬ (0 : Int) < i := by omega
        simp only [l1, t3, edge_el he hi1, k_spec_l01In, k_spec_l08Worth, p1, p2, p3, q4, q5, q6, q7, q8, q9, hz', hw, go_sem]
        exact ⟨hi1, hnext ⟨hE, fun hp => by omega⟩⟩
      · have hp' : (0 : Int) < i := by omega
        have hw1 : IntKind.i64.wrap ((i : Int) - 1) = ((i - 1 : Nat) : Int) := by rw [w64 (by omega) (by omega)]; omega
        have hi2 : i - 1 < l.length := by omega
        simp only [l1, t3, edge_el he hi1, k_spec_l01In, k_spec_l08Worth, p1, p2, p3, q4, q5, q6, q7, q8, q9, hp', hw, hw1, edge_el he hi2, go_sem]
        repeat' (first | (refine w_any (by simp only [l1, t3, hp', hw, hw1, edge_el he hi2, go_sem]; rfl) ?_ ?_ <;> intro hc <;> (try simp only [decide_eq_true_eq, decide_eq_false_iff_not, Decidable.not_not, Bool.not_eq_true', Bool.not_eq_false'] at hc) <;> simp only [hc, l1, t3, hp', hw, hw1, edge_el he hi2, go_sem]) | (refine so_any (by simp only [l1, t3, hp', hw, hw1, edge_el he hi2, go_sem]; rfl) ?_ ?_ <;> intro hc <;> (try simp only [decide_eq_true_eq, decide_eq_false_iff_not, Decidable.not_not, Bool.not_eq_true', Bool.not_eq_false'] at hc) <;> simp only [hc, l1, t3, hp', hw, hw1, edge_el he hi2, go_sem]) | (refine so_any' (by simp only [l1, t3, hp', hw, hw1, edge_el he hi2, go_sem]; rfl) ?_ ?_ <;> intro hc <;> (try simp only [decide_eq_true_eq, decide_eq_false_iff_not, Decidable.not_not, Bool.not_eq_true', Bool.not_eq_false'] at hc) <;> simp only [hc, l1, t3, hp', hw, hw1, edge_el he hi2, go_sem]) | (refine sf_any (by simp only [l1, t3, hp', hw, hw1, edge_el he hi2, go_sem]; rfl) ?_ ?_ <;> intro hc <;> (try simp only [decide_eq_true_eq, decide_eq_false_iff_not, Decidable.not_not, Bool.not_eq_true', Bool.not_eq_false'] at hc) <;> simp only [hc, l1, t3, hp', hw, hw1, edge_el he hi2, go_sem]) | (refine sf_any' (by simp only [l1, t3, hp', hw, hw1, edge_el he hi2, go_sem]; rfl) ?_ ?_ <;> intro hc <;> (try simp only [decide_eq_true_eq, decide_eq_false_iff_not, Decidable.not_not, Bool.not_eq_true', Bool.not_eq_false'] at hc) <;> simp only [hc, l1, t3, hp', hw, hw1, edge_el he hi2, go_sem]))
        all_goals first
          | exact (decide_eq_false (hneg (fun hx => by have := hx.2 hp; simp only [ELt] at this; omega))).symm
          | exact ⟨hi1, hnext ⟨hE, fun _ => by simp only [ELt]; omega⟩⟩
    · have hneg' := hneg (fun hx => hE hx.1)
      have hr : false = decide (GOk size l) := (decide_eq_false hneg').symm
      simp only [l1, t3, edge_el he hi1, k_spec_l01In, k_spec_l08Worth, go_sem]
      repeat' (first | (refine w_any (by simp only [l1, t3, k_spec_l08Worth, go_sem]; rfl) ?_ ?_ <;> intro hc <;> (try simp only [decide_eq_true_eq, decide_eq_false_iff_not, Decidable.not_not, Bool.not_eq_true', Bool.not_eq_false'] at hc) <;> simp only [hc, l1, t3, k_spec_l08Worth, go_sem]) | (refine so_any (by simp only [l1, t3, k_spec_l08Worth, go_sem]; rfl) ?_ ?_ <;> intro hc <;> (try simp only [decide_eq_true_eq, decide_eq_false_iff_not, Decidable.not_not, Bool.not_eq_true', Bool.not_eq_false'] at hc) <;> simp only [hc, l1, t3, k_spec_l08Worth, go_sem]) | (refine so_any' (by simp only [l1, t3, k_spec_l08Worth, go_sem]; rfl) ?_ ?_ <;> intro hc <;> (try simp only [decide_eq_true_eq, decide_eq_false_iff_not, Decidable.not_not, Bool.not_eq_true', Bool.not_eq_false'] at hc) <;> simp only [hc, l1, t3, k_spec_l08Worth, go_sem]) | (refine sf_any (by simp only [l1, t3, k_spec_l08Worth, go_sem]; rfl) ?_ ?_ <;> intro hc <;> (try simp only [decide_eq_true_eq, decide_eq_false_iff_not, Decidable.not_not, Bool.not_eq_true', Bool.not_eq_false'] at hc) <;> simp only [hc, l1, t3, k_spec_l08Worth, go_sem]) | (refine sf_any' (by simp only [l1, t3, k_spec_l08Worth, go_sem]; rfl) ?_ ?_ <;> intro hc <;> (try simp only [decide_eq_true_eq, decide_eq_false_iff_not, Decidable.not_not, Bool.not_eq_true', Bool.not_eq_false'] at hc) <;> simp only [hc, l1, t3, k_spec_l08Worth, go_sem]))
      all_goals first
        | exact hr
        | exact absurd (by simp only [Bool.and_eq_true, decide_eq_true_eq] at *; simp only [EOk]; omega) hE
  · have : GOk size l := ⟨hs, fun j hj => hall j (by omega)⟩
    simp only [this, go_sem]
end
end Go.Proofs.YtgmljppiiighmaaGreatDoor.Ab
set_option linter.unusedSimpArgs false
set_option linter.unusedVariables false
set_option linter.unnecessarySimpa false
set_option maxHeartbeats 4000000
namespace Go.Proofs.YtgmljppiiighmaaGreatDoor.Ab
open Go.RowKit
section
variable {X : CallF} {h : Heap} {v : Value} {es : List E} {il : List Int} {cl : List Cp} {size n : Int}
theorem Own.all {rws : List (List Value)} {sz : Nat} {ty : TypeId} (hl : ∀ r ∈ rws, r.length = sz) : Own (h ++ [⟨rws.flatten, sz, ty, true⟩]) h.length (List.length (h ++ [(⟨rws.flatten, sz, ty, true⟩ : Blk)])) sz ty (.slice (some ⟨h.length, 0, none⟩) rws.length rws.length) rws := (Own.made hl).wide (Nat.le_refl _) (by simp)
end
end Go.Proofs.YtgmljppiiighmaaGreatDoor.Ab
set_option linter.unusedSimpArgs false
set_option linter.unusedVariables false
set_option linter.unnecessarySimpa false
set_option maxHeartbeats 4000000
namespace Go.Proofs.YtgmljppiiighmaaGreatDoor.Ab
open Go.RowKit
section
variable {X : CallF} {h : Heap} {v : Value} {l : List Pr} {n : Int}
def PrMax (l : List Pr) : Prop := l.length ≤ maxLen ∧ ∀ p ∈ l, p.k.size ≤ maxLen ∧ p.v.size ≤ maxLen
def PrBnd (l : List Pr) : Prop := l.length ≤ 1048576 ∧ True
theorem z_szPair {p : Pr} (hp : p.k.size ≤ maxLen ∧ p.v.size ≤ maxLen) (h0 : 0 ≤ n) (h1 : n ≤ 1048576) : ∃ m, C T X n_laws_szPair [.agg ⟨[.string p.k, .string p.v]⟩, .int .i64 n] h = some (.int .i64 m, h) ∧ m ≤ n ∧ (m < 0 → m = -1) := by
  obtain ⟨k1, k2⟩ := hp
  unfold maxLen at k1 k2
  have w1 : IntKind.i64.wrap (n - (p.k.size : Int)) = n - (p.k.size : Int) := w64 (by omega) (by omega)
  by_cases c1 : n - (p.k.size : Int) < 0
  · refine ⟨-1, C_go t_laws_szPair rfl ?_, by omega, fun _ => rfl⟩
    unfold F_laws_szPair
    simp only [w1, c1, go_sem]
  have w2 : IntKind.i64.wrap (n - (p.k.size : Int) - (p.v.size : Int)) = n - (p.k.size : Int) - (p.v.size : Int) := w64 (by omega) (by omega)
  by_cases c2 : n - (p.k.size : Int) - (p.v.size : Int) < 0
  · refine ⟨-1, C_go t_laws_szPair rfl ?_, by omega, fun _ => rfl⟩
    unfold F_laws_szPair
    simp only [w1, w2, c1, c2, go_sem]
  · refine ⟨n - (p.k.size : Int) - (p.v.size : Int), C_go t_laws_szPair rfl ?_, by omega, fun _ => by omega⟩
    unfold F_laws_szPair
    simp only [w1, w2, c1, c2, go_sem]
theorem z_szPairS (hm : Rows h 2 v (prsL l)) (hx : PrMax l) (h0 : 0 ≤ n) (h1 : n ≤ 1048576) : ∃ m, C T X n_laws_szPairS [v, .int .i64 n] h = some (.int .i64 m, h) ∧ m ≤ 1048576 ∧ (0 ≤ m → PrBnd l) := by
  have hl := hx.1
  unfold maxLen at hl
  have w1 : IntKind.i64.wrap (n - (l.length : Int)) = n - (l.length : Int) := w64 (by omega) (by omega)
  suffices hs : ∃ w hh, C T X n_laws_szPairS [v, .int .i64 n] h = some (w, hh) ∧ hh = h ∧ ∃ m, w = .int .i64 m ∧ m ≤ 1048576 ∧ (0 ≤ m → PrBnd l) by
    obtain ⟨w, hh, c, rfl, m, rfl, k⟩ := hs
    exact ⟨m, c, k⟩
  refine C_ex t_laws_szPairS rfl ?_
  unfold F_laws_szPairS
  by_cases c1 : n - (l.length : Int) < 0
  · simp only [hm.lnm, w1, c1, go_sem]
    exact ⟨-1, rfl, by omega, fun k => by omega⟩
  have hb : PrBnd l := ⟨by omega, trivial⟩
  simp only [hm.lnm, w1, c1, go_sem]
  refine w_for l.length (fun i t loc h' => h' = h ∧ t 0 = v ∧ t 5 = .int .i64 (i : Int) ∧ ∃ k : Int, t 1 = .int .i64 k ∧ 0 ≤ k ∧ k ≤ n) ⟨rfl, rfl, rfl, _, rfl, by omega, by omega⟩ ?_
  rintro i t loc h' hi ⟨rfl, t0, t5, k, t1, hk0, hk1⟩
  simp only [t0, t1, t5, hm.lnm, go_sem]
  refine w_open (by simp only [go_sem]; rfl) ?_ ?_ <;> intro hc
  · have hi1 : i < l.length := by omega
    have hw : IntKind.i64.wrap ((i : Int) + 1) = ((i + 1 : Nat) : Int) := w64 (by omega) (by omega)
    have el := hm.el (f := prR) p0 hi1
    have hpm := hx.2 _ (getD_mem (d := p0) hi1)
    obtain ⟨q, hq⟩ : ∃ q, q = l.getD i p0 := ⟨_, rfl⟩
    rw [← hq] at el hpm
    obtain ⟨m, c2, hm1, hm2⟩ := z_szPair (X := X) (h := h') (p := q) hpm hk0 (by omega)
    by_cases c3 : m < 0
    · simp only [t0, t1, t5, el.1, el.2.1, el.2.2, prR, c2, c3, go_sem]
      exact ⟨-1, rfl, by omega, fun k => by omega⟩
    · simp only [t0, t1, t5, el.1, el.2.1, el.2.2, prR, c2, c3, hw, go_sem]
      exact ⟨hi1, m, rfl, by omega, by omega⟩
  · simp only [t1, go_sem]
    exact ⟨k, rfl, by omega, fun _ => hb⟩
theorem x_toPairS (he : Rows h 2 v (prsL l)) (hl : l.length ≤ lim) : ∃ w hh, C T X n_laws_toPairS [v] h = some (w, hh) ∧ h <+: hh ∧ Own hh h.length hh.length 2 y_Pair w (prsL l) :=
  ⟨_, _, k_toPairS he hl, List.prefix_append _ _, by have := Own.all (h := h) (ty := y_Pair) (map_row (l := l) prR_len); rw [List.length_map] at this; exact this⟩
end
end Go.Proofs.YtgmljppiiighmaaGreatDoor.Ab
set_option linter.unusedSimpArgs false
set_option linter.unusedVariables false
set_option linter.unnecessarySimpa false
set_option maxHeartbeats 4000000
namespace Go.Proofs.YtgmljppiiighmaaGreatDoor.Ab
open Go.RowKit
theorem strOfNums_app {l m : List Int} : strOfNums l ++ strOfNums m = strOfNums (l ++ m) := by
  apply ByteArray.ext
  apply Array.toList_inj.1
  rw [ByteArray.data_append, Array.toList_append, strOfNums_data, strOfNums_data, strOfNums_data, List.map_append]
theorem mkD_dec : ∀ (k n : Nat) (s : ByteArray), n < k → 0 < n → mkD n s = strOfNums (decL n) ++ s
  | 0, n, s, h, _ => by omega
  | k + 1, n, s, h, hp => by
    rw [mkD_pos hp, decL]
    by_cases h1 : n < 10
    · rw [if_pos h1, show n / 10 = 0 by omega, mkD_zero, show n % 10 = n by omega]
    · rw [if_neg h1, mkD_dec k (n / 10) _ (by omega) (by omega), ← ByteArray.append_assoc, strOfNums_app]
theorem decT_size {n k : Nat} (h : n < 10 ^ k) (hk : 0 < k) : (decT n).size ≤ k := by
  unfold decT
  rw [strOfNums_size]
  exact decL_len k n h hk
theorem twoT_size {n : Nat} (h : n ≤ 1000000000) : (twoT n).size ≤ 10 := by
  unfold twoT twoL
  rw [strOfNums_size]
  split
  · simp
  · exact decL_len 10 n (by omega) (by omega)
theorem qK_app {n : Nat} : (⟨⟨[113]⟩⟩ : ByteArray) ++ twoT n = qK n := by
  rw [show (⟨⟨[113]⟩⟩ : ByteArray) = strOfNums [113] from rfl]; exact strOfNums_app
theorem vK_app {n : Nat} : (⟨⟨[118]⟩⟩ : ByteArray) ++ twoT n = vK n := by
  rw [show (⟨⟨[118]⟩⟩ : ByteArray) = strOfNums [118] from rfl]; exact strOfNums_app
theorem rK_app {r n : Nat} : (⟨⟨[114]⟩⟩ : ByteArray) ++ twoT r ++ twoT n = rK r n := by
  rw [show (⟨⟨[114]⟩⟩ : ByteArray) = strOfNums [114] from rfl]; unfold twoT; rw [strOfNums_app, strOfNums_app]; rfl
theorem lit_size {c : UInt8} : (⟨⟨[c]⟩⟩ : ByteArray).size = 1 := rfl
theorem asz {c : UInt8} : (⟨[c]⟩ : Array UInt8).size = 1 := rfl
theorem zero_app {n : Nat} : (⟨⟨[48]⟩⟩ : ByteArray) ++ decT n = strOfNums (48 :: decL n) := by
  rw [show (⟨⟨[48]⟩⟩ : ByteArray) = strOfNums [48] from rfl]; exact strOfNums_app
section
variable {X : CallF} {h : Heap} {m : List Pr} {mv : Value}
theorem k_spec_l01Figure {d : Nat} (hd : d < 10) : C T X n_spec_l01Figure [.int .i64 (d : Int)] h = some (.int .u8 ((48 + d : Nat) : Int), h) := by
  refine C_go t_spec_l01Figure rfl ?_
  unfold F_spec_l01Figure
  have h1 : (d : Int) < 10 := by omega
  have e : IntKind.u8.wrap (IntKind.i64.wrap (48 + (d : Int))) = ((48 + d : Nat) : Int) := by rw [w64 (by omega) (by omega), wu8 (by omega) (by omega)]; omega
  simp only [h1, e, go_sem]
theorem k_spec_Decimal {n : Nat} (hn : n ≤ 4611686018427387904) : C T X n_spec_Decimal [.int .i64 (n : Int)] h = some (.string (decT n), h) := by
  refine C_go t_spec_Decimal rfl ?_
  unfold F_spec_Decimal
  simp only [go_sem]
  refine w_open (by simp only [go_sem]; rfl) ?_ ?_ <;> intro hc
  · have : n = 0 := by omega
    subst this
    simp only [go_sem]
    unfold decT decL
    rfl
  have hneg : decide ((n : Int) < 0) = false := decide_eq_false (by omega)
  simp only [hneg, go_sem]
  refine w_meas n (fun m t loc h' => h' = h ∧ ∃ s : ByteArray, t 0 = .int .i64 (m : Nat) ∧ t 3 = .bool false ∧ t 4 = .string s ∧ m ≤ n ∧ mkD m s = mkD n noT ∧ (∃ c, m < 10 ^ c ∧ s.size + c ≤ 19)) ⟨rfl, noT, rfl, rfl, rfl, Nat.le_refl _, rfl, 19, by omega, by decide⟩ ?_
  rintro m t loc h' ⟨rfl, s, t0, t3, t4, hm, hd, c, hc1, hc2⟩
  simp only [t0, t3, t4, go_sem]
  refine w_open (by simp only [t0, t3, t4, go_sem]; rfl) ?_ ?_ <;> intro hc'
  · have hf := k_spec_l01Figure (X := X) (h := h') (d := m % 10) (Nat.mod_lt _ (by omega))
    have hq : IntKind.i64.wrap ((m / 10 : Nat) : Int) = ((m / 10 : Nat) : Int) := w64 (by omega) (by omega)
    have hr : ((m : Int).tmod 10) = ((m % 10 : Nat) : Int) := rfl
    have hv : ((m : Int).tdiv 10) = ((m / 10 : Nat) : Int) := rfl
    have hnn : ¬ ((m % 10 : Nat) : Int) < 0 := by omega
    have hcp : 0 < c := by
      cases c with
      | zero => simp at hc1; omega
      | succ c => omega
    have hm1 : 0 < m := by omega
    have hsz : (strOfNums [((48 + m % 10 : Nat) : Int)]).size + s.size ≤ 9223372036854775807 := by rw [strOfNums_size]; simp only [List.length_cons, List.length_nil]; omega
    simp only [t0, t3, t4, hr, hv, hf, hq, hnn, strLV, ints8, isInt8, Option.map_some, hsz, go_sem]
    refine ⟨m / 10, by omega, _, rfl, rfl, by omega, ?_, c - 1, ?_, ?_⟩
    · rw [← hd, mkD_pos (n := m) hm1]
    · have : 10 ^ c = 10 ^ (c - 1) * 10 := by rw [← Nat.pow_succ]; congr 1; omega
      omega
    · rw [ByteArray.size_append, strOfNums_size]; simp only [List.length_cons, List.length_nil]; omega
  · have : m = 0 := by omega
    subst this
    have hs : s = decT n := by
      rw [mkD_zero] at hd
      rw [hd, mkD_dec (n + 1) n noT (by omega) (by omega)]
      unfold decT noT
      exact ByteArray.append_empty
    simp only [t3, t4, hs, go_sem]
theorem k_spec_l13Two {n : Nat} (hn : n ≤ 1000000000) : C T X n_spec_l13Two [.int .i64 (n : Int)] h = some (.string (twoT n), h) := by
  refine C_go t_spec_l13Two rfl ?_
  unfold F_spec_l13Two
  have hd := k_spec_Decimal (X := X) (h := h) (n := n) (by omega)
  have hs := decT_size (n := n) (k := 10) (by omega) (by omega)
  have hz : (⟨[48]⟩ : Array UInt8).size + (decT n).size ≤ 9223372036854775807 := by rw [asz]; omega
  by_cases c : n < 10
  · have c1 : (n : Int) < 10 := by omega
    simp only [hd, hz, c1, zero_app, go_sem]
    unfold twoT twoL
    rw [if_pos c]
    rw [decL, if_pos c]
  · have c1 : ¬ (n : Int) < 10 := by omega
    simp only [hd, c1, go_sem]
    unfold twoT twoL
    rw [if_neg c]
    rfl
theorem k_impl_two [LibX X] {n : Nat} (hn : n ≤ 1000000000) : C T X n_impl_two [.int .i64 (n : Int)] h = some (.string (twoT n), h) := by
  refine C_go t_impl_two rfl ?_
  unfold F_impl_two
  have hd := k_impl_Decimal (X := X) (h := h) (n := n) (by omega)
  have hs := decT_size (n := n) (k := 10) (by omega) (by omega)
  have hz : (⟨[48]⟩ : Array UInt8).size + (decT n).size ≤ 9223372036854775807 := by rw [asz]; omega
  by_cases c : n < 10
  · have c1 : (n : Int) < 10 := by omega
    simp only [hd, hz, c1, zero_app, go_sem]
    unfold twoT twoL
    rw [if_pos c]
    rw [decL, if_pos c]
  · have c1 : ¬ (n : Int) < 10 := by omega
    simp only [hd, c1, go_sem]
    unfold twoT twoL
    rw [if_neg c]
    rfl
/-- Two figures, as both read them. -/
def twoV (s : ByteArray) : Value := .tuple ⟨[.int .i64 (((rdTwo s).getD 0 : Nat) : Int), .bool (rdTwo s).isSome]⟩
theorem k_impl_readTwo {s : ByteArray} : C T X n_impl_readTwo [.string s] h = some (twoV s, h) := by
  refine C_go t_impl_readTwo rfl ?_
  unfold F_impl_readTwo
  have no : (¬ (s.size = 2 ∧ (48 ≤ byt s 0 ∧ byt s 0 ≤ 57) ∧ (48 ≤ byt s 1 ∧ byt s 1 ≤ 57))) → twoV s = .tuple ⟨[.int .i64 0, .bool false]⟩ := fun hn => by
    unfold twoV rdTwo
    rw [if_neg hn]
    rfl
  by_cases h2 : (s.size : Int) = 2
  · have e0 : ixV (.string s) (.int .i64 0) = some (.int .u8 (byt s 0 : Nat)) := ix_byt (i := 0) (by omega)
    have e1 : ixV (.string s) (.int .i64 1) = some (.int .u8 (byt s 1 : Nat)) := ix_byt (i := 1) (by omega)
    have b0 := byt_lt (s := s) (i := 0)
    have b1 := byt_lt (s := s) (i := 1)
    by_cases c1 : ((byt s 0 : Nat) : Int) < 48
    · simp only [h2, e0, e1, c1, go_sem]
      exact (no (by omega)).symm
    by_cases c2 : ((byt s 0 : Nat) : Int) > 57
    · simp only [h2, e0, e1, c1, c2, go_sem]
      exact (no (by omega)).symm
    by_cases c3 : ((byt s 1 : Nat) : Int) < 48
    · simp only [h2, e0, e1, c1, c2, c3, go_sem]
      exact (no (by omega)).symm
    by_cases c4 : ((byt s 1 : Nat) : Int) > 57
    · simp only [h2, e0, e1, c1, c2, c3, c4, go_sem]
      exact (no (by omega)).symm
    · have w0 : IntKind.u8.wrap (((byt s 0 : Nat) : Int) - 48) = ((byt s 0 : Nat) : Int) - 48 := wu8 (by omega) (by omega)
      have w1 : IntKind.u8.wrap (((byt s 1 : Nat) : Int) - 48) = ((byt s 1 : Nat) : Int) - 48 := wu8 (by omega) (by omega)
      have w2 : IntKind.i64.wrap (((byt s 0 : Nat) : Int) - 48) = ((byt s 0 : Nat) : Int) - 48 := w64 (by omega) (by omega)
      have w3 : IntKind.i64.wrap (((byt s 1 : Nat) : Int) - 48) = ((byt s 1 : Nat) : Int) - 48 := w64 (by omega) (by omega)
      have w4 : IntKind.i64.wrap ((((byt s 0 : Nat) : Int) - 48) * 10) = (((byt s 0 : Nat) : Int) - 48) * 10 := w64 (by omega) (by omega)
      have w5 : IntKind.i64.wrap ((((byt s 0 : Nat) : Int) - 48) * 10 + (((byt s 1 : Nat) : Int) - 48)) = ((10 * (byt s 0 - 48) + (byt s 1 - 48) : Nat) : Int) := by rw [w64 (by omega) (by omega)]; omega
      simp only [h2, e0, e1, c1, c2, c3, c4, w0, w1, w2, w3, w4, w5, go_sem]
      unfold twoV rdTwo
      rw [if_pos (by omega)]
      rfl
  · simp only [h2, go_sem]
    exact (no (by omega)).symm
theorem k_spec_l13Num {s : ByteArray} : C T X n_spec_l13Num [.string s] h = some (twoV s, h) := by
  refine C_go t_spec_l13Num rfl ?_
  unfold F_spec_l13Num
  have no : (¬ (s.size = 2 ∧ (48 ≤ byt s 0 ∧ byt s 0 ≤ 57) ∧ (48 ≤ byt s 1 ∧ byt s 1 ≤ 57))) → twoV s = .tuple ⟨[.int .i64 0, .bool false]⟩ := fun hn => by
    unfold twoV rdTwo
    rw [if_neg hn]
    rfl
  by_cases h2 : (s.size : Int) = 2
  · have e0 : ixV (.string s) (.int .i64 0) = some (.int .u8 (byt s 0 : Nat)) := ix_byt (i := 0) (by omega)
    have e1 : ixV (.string s) (.int .i64 1) = some (.int .u8 (byt s 1 : Nat)) := ix_byt (i := 1) (by omega)
    have b0 := byt_lt (s := s) (i := 0)
    have b1 := byt_lt (s := s) (i := 1)
    by_cases c1 : ((byt s 0 : Nat) : Int) < 48
    · simp only [h2, e0, e1, c1, go_sem]
      exact (no (by omega)).symm
    by_cases c2 : ((byt s 0 : Nat) : Int) > 57
    · simp only [h2, e0, e1, c1, c2, go_sem]
      exact (no (by omega)).symm
    by_cases c3 : ((byt s 1 : Nat) : Int) < 48
    · simp only [h2, e0, e1, c1, c2, c3, go_sem]
      exact (no (by omega)).symm
    by_cases c4 : ((byt s 1 : Nat) : Int) > 57
    · simp only [h2, e0, e1, c1, c2, c3, c4, go_sem]
      exact (no (by omega)).symm
    · have w0 : IntKind.u8.wrap (((byt s 0 : Nat) : Int) - 48) = ((byt s 0 : Nat) : Int) - 48 := wu8 (by omega) (by omega)
      have w1 : IntKind.u8.wrap (((byt s 1 : Nat) : Int) - 48) = ((byt s 1 : Nat) : Int) - 48 := wu8 (by omega) (by omega)
      have w2 : IntKind.i64.wrap (((byt s 0 : Nat) : Int) - 48) = ((byt s 0 : Nat) : Int) - 48 := w64 (by omega) (by omega)
      have w3 : IntKind.i64.wrap (((byt s 1 : Nat) : Int) - 48) = ((byt s 1 : Nat) : Int) - 48 := w64 (by omega) (by omega)
      have w4 : IntKind.i64.wrap (10 * (((byt s 0 : Nat) : Int) - 48)) = 10 * (((byt s 0 : Nat) : Int) - 48) := w64 (by omega) (by omega)
      have w5 : IntKind.i64.wrap (10 * (((byt s 0 : Nat) : Int) - 48) + (((byt s 1 : Nat) : Int) - 48)) = ((10 * (byt s 0 - 48) + (byt s 1 - 48) : Nat) : Int) := by rw [w64 (by omega) (by omega)]; omega
      simp only [h2, e0, e1, c1, c2, c3, c4, w0, w1, w2, w3, w4, w5, go_sem]
      unfold twoV rdTwo
      rw [if_pos (by omega)]
      rfl
  · simp only [h2, go_sem]
    exact (no (by omega)).symm
/-- What a map holds at a key. -/
def getV (m : List Pr) (k : ByteArray) : Value := .tuple ⟨[.string ((getK m k).getD noT), .bool (getK m k).isSome]⟩
theorem k_impl_get {k : ByteArray} (hm : Rows h 2 mv (prsL m)) (hl : m.length ≤ lim) : C T X n_impl_get [mv, .string k] h = some (getV m k, h) := by
  unfold lim at hl
  refine C_go t_impl_get rfl ?_
  unfold F_impl_get
  simp only [hm.lnm, zeros, fillAt, go_sem]
  refine w_for m.length (fun i t loc h' => h' = h ∧ t 1 = .string k ∧ t 8 = mv ∧ t 9 = .int .i64 m.length ∧ t 10 = .int .i64 i ∧ ∀ j, j < i → ¬ (m.getD j p0).k = k) ⟨rfl, rfl, rfl, rfl, rfl, fun j hj => by omega⟩ ?_
  rintro i t loc h' hi ⟨rfl, t1, t8, t9, t10, hj⟩
  simp only [t9, t10, go_sem]
  refine w_open (by simp only [go_sem]; rfl) ?_ ?_ <;> intro hc
  · have hi1 : i < m.length := by omega
    have hw : IntKind.i64.wrap ((i : Int) + 1) = ((i + 1 : Nat) : Int) := w64 (by omega) (by omega)
    have el := hm.el (f := prR) p0 hi1
    obtain ⟨q, hq⟩ : ∃ q, q = m.getD i p0 := ⟨_, rfl⟩
    rw [← hq] at el
    by_cases c : q.k = k
    · have c' : (q.k.toList == k.toList) = true := by rw [str_eq]; exact decide_eq_true c
      have hg := getK_first hi1 (by rw [← hq]; exact c) hj
      rw [← hq] at hg
      simp only [t1, t8, t9, t10, el.1, el.2.1, el.2.2, prR, c', zeros, fillAt, go_sem]
      unfold getV
      rw [hg]
      rfl
    · have c' : (q.k.toList == k.toList) = false := by rw [str_eq]; exact decide_eq_false c
      simp only [t1, t8, t9, t10, el.1, el.2.1, el.2.2, prR, c', hw, zeros, fillAt, go_sem]
      refine ⟨hi1, fun j hj' => ?_⟩
      by_cases e : j = i
      · rw [e, ← hq]; exact c
      · exact hj j (by omega)
  · have hn : getK m k = none := by
      cases hg : getK m k with
      | none => rfl
      | some v =>
        obtain ⟨j, h1, h2, _⟩ := getK_some hg
        exact absurd h2 (hj j (by omega))
    simp only [go_sem]
    unfold getV
    rw [hn]
    rfl
theorem k_spec_l13Get {k : ByteArray} (hm : Rows h 2 mv (prsL m)) (hl : m.length ≤ lim) : C T X n_spec_l13Get [mv, .string k] h = some (getV m k, h) := by
  unfold lim at hl
  refine C_go t_spec_l13Get rfl ?_
  unfold F_spec_l13Get
  simp only [go_sem]
  refine w_for m.length (fun i t loc h' => h' = h ∧ t 1 = .string k ∧ t 0 = mv ∧ t 6 = .int .i64 i ∧ ∀ j, j < i → ¬ (m.getD j p0).k = k) ⟨rfl, rfl, rfl, rfl, fun j hj => by omega⟩ ?_
  rintro i t loc h' hi ⟨rfl, t1, t0, t6, hj⟩
  simp only [t0, t6, hm.lnm, go_sem]
  refine w_open (by simp only [go_sem]; rfl) ?_ ?_ <;> intro hc
  · have hi1 : i < m.length := by omega
    have hw : IntKind.i64.wrap ((i : Int) + 1) = ((i + 1 : Nat) : Int) := w64 (by omega) (by omega)
    have el := hm.el (f := prR) p0 hi1
    have cl0 := hm.cell (f := prR) p0 hi1 (o := 0) (by omega)
    have cl1 := hm.cell (f := prR) p0 hi1 (o := 1) (by omega)
    obtain ⟨q, hq⟩ : ∃ q, q = m.getD i p0 := ⟨_, rfl⟩
    rw [← hq] at el cl0 cl1
    have k0 : ldC h' (elemP mv 2 i 0) 1 = some [.string q.k] := cl0
    have k1 : ldC h' (elemP mv 2 i 1) 1 = some [.string q.v] := cl1
    by_cases c : q.k = k
    · have c' : (q.k.toList == k.toList) = true := by rw [str_eq]; exact decide_eq_true c
      have hg := getK_first hi1 (by rw [← hq]; exact c) hj
      rw [← hq] at hg
      simp only [t0, t1, t6, el.1, el.2.1, k0, k1, c', go_sem]
      unfold getV
      rw [hg]
      rfl
    · have c' : (q.k.toList == k.toList) = false := by rw [str_eq]; exact decide_eq_false c
      simp only [t0, t1, t6, el.1, el.2.1, k0, k1, c', hw, go_sem]
      refine ⟨hi1, fun j hj' => ?_⟩
      by_cases e : j = i
      · rw [e, ← hq]; exact c
      · exact hj j (by omega)
  · have hn : getK m k = none := by
      cases hg : getK m k with
      | none => rfl
      | some v =>
        obtain ⟨j, h1, h2, _⟩ := getK_some hg
        exact absurd h2 (hj j (by omega))
    simp only [go_sem]
    unfold getV
    rw [hn]
    rfl
end
end Go.Proofs.YtgmljppiiighmaaGreatDoor.Ab
set_option linter.unusedSimpArgs false
set_option linter.unusedVariables false
set_option linter.unnecessarySimpa false
set_option maxHeartbeats 4000000
namespace Go.Proofs.YtgmljppiiighmaaGreatDoor.Ab
open Go.RowKit
/-- Whether something is so. -/
noncomputable def tB (p : Prop) : Bool := @decide p (Classical.propDecidable p)
theorem tB_t {p : Prop} (h : p) : tB p = true := by unfold tB; exact @decide_eq_true p (Classical.propDecidable p) h
theorem tB_f {p : Prop} (h : ¬ p) : tB p = false := by unfold tB; exact @decide_eq_false p (Classical.propDecidable p) h
theorem tB_iff {p q : Prop} (h : p ↔ q) : tB p = tB q := by
  by_cases c : p
  · rw [tB_t c, tB_t (h.1 c)]
  · rw [tB_f c, tB_f fun k => c (h.2 k)]
def okAt (m : List Pr) (i : Nat) : Prop := ((1 ≤ (m.getD i p0).k.size ∧ (m.getD i p0).k.size ≤ 8) ∧ (m.getD i p0).v.size ≤ 40) ∧ (0 < i → kLt (m.getD (i - 1) p0).k (m.getD i p0).k)
section
variable {X : CallF} {h : Heap} {m : List Pr} {mv : Value}
theorem k_spec_MapOk (hm : Rows h 2 mv (prsL m)) (hl : m.length ≤ lim) : C T X n_spec_MapOk [mv] h = some (.bool (tB (MapIs m)), h) := by
  unfold lim at hl
  refine C_go t_spec_MapOk rfl ?_
  unfold F_spec_MapOk
  by_cases hn : (m.length : Int) > 120
  · simp only [hm.lnm, hn, go_sem]
    exact (tB_f fun k => by have := k.1; omega).symm
  simp only [hm.lnm, hn, go_sem]
  refine w_for m.length (fun i t loc h' => h' = h ∧ t 0 = mv ∧ t 3 = .int .i64 i ∧ ∀ j, j < i → okAt m j) ⟨rfl, rfl, rfl, fun j hj => by omega⟩ ?_
  rintro i t loc h' hi ⟨rfl, t0, t3, hj⟩
  simp only [t0, t3, hm.lnm, go_sem]
  refine w_open (by simp only [go_sem]; rfl) ?_ ?_ <;> intro hc
  · have hi1 : i < m.length := by omega
    have hw : IntKind.i64.wrap ((i : Int) + 1) = ((i + 1 : Nat) : Int) := w64 (by omega) (by omega)
    have bad : ¬ okAt m i → tB (MapIs m) = false := fun hb => tB_f fun k => hb (k.2 i hi1)
    have el := hm.el (f := prR) p0 hi1
    have cl0 := hm.cell (f := prR) p0 hi1 (o := 0) (by omega)
    have cl1 := hm.cell (f := prR) p0 hi1 (o := 1) (by omega)
    have hok : okAt m i = okAt m i := rfl
    conv at hok => rhs; unfold okAt
    obtain ⟨q, hq⟩ : ∃ q, q = m.getD i p0 := ⟨_, rfl⟩
    rw [← hq] at el cl0 cl1 hok
    have k0 : ldC h' (elemP mv 2 i 0) 1 = some [.string q.k] := cl0
    have k1 : ldC h' (elemP mv 2 i 1) 1 = some [.string q.v] := cl1
    have hin := k_spec_l01In (X := X) (h := h') (n := (q.k.size : Int)) (lo := 1) (hi := 8)
    by_cases c1 : (1 : Int) ≤ q.k.size
    rotate_left
    · simp only [t0, t3, el.1, el.2.1, k0, k1, hin, c1, go_sem]
      exact (bad (by rw [hok]; omega)).symm
    by_cases c2 : (q.k.size : Int) ≤ 8
    rotate_left
    · simp only [t0, t3, el.1, el.2.1, k0, k1, hin, c1, c2, go_sem]
      exact (bad (by rw [hok]; omega)).symm
    by_cases c3 : (q.v.size : Int) > 40
    · simp only [t0, t3, el.1, el.2.1, k0, k1, hin, c1, c2, c3, go_sem]
      exact (bad (by rw [hok]; omega)).symm
    by_cases c4 : (i : Int) > 0
    rotate_left
    · simp only [t0, t3, el.1, el.2.1, k0, k1, hin, c1, c2, c3, c4, hw, go_sem]
      refine ⟨hi1, fun j hj' => ?_⟩
      by_cases e : j = i
      · rw [e, hok]; exact ⟨by omega, fun hp => by omega⟩
      · exact hj j (by omega)
    have elp := hm.el (f := prR) p0 (i := i - 1) (by omega)
    have clp := hm.cell (f := prR) p0 (i := i - 1) (o := 0) (by omega) (by omega)
    obtain ⟨q', hq'⟩ : ∃ q', q' = m.getD (i - 1) p0 := ⟨_, rfl⟩
    rw [← hq'] at elp clp hok
    have kp : ldC h' (elemP mv 2 (i - 1) 0) 1 = some [.string q'.k] := clp
    have hw' : IntKind.i64.wrap ((i : Int) - 1) = ((i - 1 : Nat) : Int) := by rw [w64 (by omega) (by omega)]; omega
    cases c5 : Op.bytesLess q'.k.toList q.k.toList with
    | true =>
      simp only [t0, t3, el.1, el.2.1, elp.1, elp.2.1, k0, k1, kp, hin, c1, c2, c3, c4, c5, hw, hw', go_sem]
      refine ⟨hi1, fun j hj' => ?_⟩
      by_cases e : j = i
      · rw [e, hok]; exact ⟨by omega, fun hp => c5⟩
      · exact hj j (by omega)
    | false =>
      simp only [t0, t3, el.1, el.2.1, elp.1, elp.2.1, k0, k1, kp, hin, c1, c2, c3, c4, c5, hw', go_sem]
      refine (bad ?_).symm
      rw [hok]
      intro k
      have := k.2 (by omega)
      unfold kLt at this
      rw [c5] at this
      cases this
  · simp only [go_sem]
    exact (tB_t ⟨by omega, fun j hj' => hj j (by omega)⟩).symm
theorem k_impl_MapOk (hm : Rows h 2 mv (prsL m)) (hl : m.length ≤ lim) : C T X n_impl_MapOk [mv] h = some (.bool (tB (MapIs m)), h) := by
  unfold lim at hl
  refine C_go t_impl_MapOk rfl ?_
  unfold F_impl_MapOk
  simp only [hm.lnm, zeros, fillAt, go_sem]
  refine w_for m.length (fun i t loc h' => h' = h ∧ t 0 = mv ∧ t 5 = mv ∧ t 6 = .int .i64 m.length ∧ t 7 = .int .i64 i ∧ ∀ j, j < i → okAt m j) ⟨rfl, rfl, rfl, rfl, rfl, fun j hj => by omega⟩ ?_
  rintro i t loc h' hi ⟨rfl, t0, t5, t6, t7, hj⟩
  simp only [t6, t7, go_sem]
  refine w_open (by simp only [go_sem]; rfl) ?_ ?_ <;> intro hc
  · have hi1 : i < m.length := by omega
    have hw : IntKind.i64.wrap ((i : Int) + 1) = ((i + 1 : Nat) : Int) := w64 (by omega) (by omega)
    have bad : ¬ okAt m i → tB (MapIs m) = false := fun hb => tB_f fun k => hb (k.2 i hi1)
    have el := hm.el (f := prR) p0 hi1
    have hok : okAt m i = okAt m i := rfl
    conv at hok => rhs; unfold okAt
    obtain ⟨q, hq⟩ : ∃ q, q = m.getD i p0 := ⟨_, rfl⟩
    rw [← hq] at el hok
    have hin := k_impl_in (X := X) (h := h') (n := (q.k.size : Int)) (lo := 1) (hi := 8)
    by_cases c1 : (1 : Int) ≤ q.k.size
    rotate_left
    · simp only [t0, t5, t6, t7, el.1, el.2.1, el.2.2, prR, zeros, fillAt, hin, c1, go_sem]
      exact (bad (by rw [hok]; omega)).symm
    by_cases c2 : (q.k.size : Int) ≤ 8
    rotate_left
    · simp only [t0, t5, t6, t7, el.1, el.2.1, el.2.2, prR, zeros, fillAt, hin, c1, c2, go_sem]
      exact (bad (by rw [hok]; omega)).symm
    by_cases c3 : (q.v.size : Int) > 40
    · simp only [t0, t5, t6, t7, el.1, el.2.1, el.2.2, prR, zeros, fillAt, hin, c1, c2, c3, go_sem]
      exact (bad (by rw [hok]; omega)).symm
    by_cases c4 : (i : Int) > 0
    rotate_left
    · simp only [t0, t5, t6, t7, el.1, el.2.1, el.2.2, prR, zeros, fillAt, hin, c1, c2, c3, c4, hw, go_sem]
      refine ⟨hi1, fun j hj' => ?_⟩
      by_cases e : j = i
      · rw [e, hok]; exact ⟨by omega, fun hp => by omega⟩
      · exact hj j (by omega)
    have elp := hm.el (f := prR) p0 (i := i - 1) (by omega)
    have clp := hm.cell (f := prR) p0 (i := i - 1) (o := 0) (by omega) (by omega)
    obtain ⟨q', hq'⟩ : ∃ q', q' = m.getD (i - 1) p0 := ⟨_, rfl⟩
    rw [← hq'] at elp clp hok
    have kp : ldC h' (elemP mv 2 (i - 1) 0) 1 = some [.string q'.k] := clp
    have hw' : IntKind.i64.wrap ((i : Int) - 1) = ((i - 1 : Nat) : Int) := by rw [w64 (by omega) (by omega)]; omega
    cases c5 : Op.bytesLess q'.k.toList q.k.toList with
    | true =>
      simp only [t0, t5, t6, t7, el.1, el.2.1, el.2.2, elp.1, elp.2.1, kp, prR, zeros, fillAt, hin, c1, c2, c3, c4, c5, hw, hw', go_sem]
      refine ⟨hi1, fun j hj' => ?_⟩
      by_cases e : j = i
      · rw [e, hok]; exact ⟨by omega, fun hp => c5⟩
      · exact hj j (by omega)
    | false =>
      simp only [t0, t5, t6, t7, el.1, el.2.1, el.2.2, elp.1, elp.2.1, kp, prR, zeros, fillAt, hin, c1, c2, c3, c4, c5, hw', go_sem]
      refine (bad ?_).symm
      rw [hok]
      intro k
      have := k.2 (by omega)
      unfold kLt at this
      rw [c5] at this
      cases this
  · simp only [t0, hm.lnm, go_sem]
    by_cases c : (m.length : Int) ≤ 120
    · rw [tB_t ⟨by omega, fun j hj' => hj j (by omega)⟩]; simp [c]
    · rw [tB_f fun k => by have := k.1; omega]; simp [c]
theorem k_impl_roundsOf [LibX X] {R : Nat} (hm : Rows h 2 mv (prsL m)) (hl : m.length ≤ lim) (hR : IsRnd m R) : C T X n_impl_roundsOf [mv] h = some (.int .i64 ((min R 7 : Nat) : Int), h) := by
  refine C_go t_impl_roundsOf rfl ?_
  unfold F_impl_roundsOf
  simp only [go_sem]
  refine w_for 8 (fun i t loc h' => h' = h ∧ t 0 = mv ∧ t 3 = .int .i64 i ∧ i ≤ R ∧ i ≤ 7) ⟨rfl, rfl, rfl, Nat.zero_le _, by omega⟩ ?_
  rintro i t loc h' hi ⟨rfl, t0, t3, hj, hj7⟩
  simp only [t0, t3, go_sem]
  refine w_open (by simp only [go_sem]; rfl) ?_ ?_ <;> intro hc
  · have hw : IntKind.i64.wrap ((i : Int) + 1) = ((i + 1 : Nat) : Int) := w64 (by omega) (by omega)
    have hg := k_impl_get (X := X) (k := qK i) hm hl
    have h2 := k_impl_two (X := X) (h := h') (n := i) (by omega)
    have hz := twoT_size (n := i) (by omega)
    have hz1 : (⟨[113]⟩ : Array UInt8).size + (twoT i).size ≤ 9223372036854775807 := by rw [asz]; omega
    unfold getV at hg
    by_cases c : i = R
    · have e : (getK m (qK i)).isSome = false := by rw [c, hR.2]; rfl
      simp only [t0, t3, h2, qK_app, hz1, hg, e, go_sem]
      rw [show min R 7 = i by omega]
    · have e : (getK m (qK i)).isSome = true := hR.1 i (by omega)
      simp only [t0, t3, h2, qK_app, hz1, hg, e, hw, go_sem]
      omega
  · simp only [t3, go_sem]
    rw [show min R 7 = i by omega]
theorem k_spec_l13Rounds {R : Nat} (hm : Rows h 2 mv (prsL m)) (hl : m.length ≤ 1048576) (hR : IsRnd m R) : C T X n_spec_l13Rounds [mv] h = some (.int .i64 (R : Int), h) := by
  have hle := rounds_le hR.1
  have hll : m.length ≤ lim := by unfold lim; omega
  refine C_go t_spec_l13Rounds rfl ?_
  unfold F_spec_l13Rounds
  have hz0 := twoT_size (n := 0) (by omega)
  have hz1 : (⟨[113]⟩ : Array UInt8).size + (twoT 0).size ≤ 9223372036854775807 := by rw [asz]; omega
  have h20 : C T X n_spec_l13Two [.int .i64 0] h = some (.string (twoT 0), h) := k_spec_l13Two (X := X) (h := h) (n := 0) (by omega)
  have hg0 := k_spec_l13Get (X := X) (k := qK 0) hm hll
  unfold getV at hg0
  simp only [h20, qK_app, hz1, hg0, go_sem]
  refine w_for R (fun i t loc h' => h' = h ∧ t 0 = mv ∧ t 3 = .int .i64 i ∧ t 5 = .bool (getK m (qK i)).isSome ∧ i ≤ R) ⟨rfl, rfl, rfl, rfl, Nat.zero_le _⟩ ?_
  rintro i t loc h' hi ⟨rfl, t0, t3, t5, hj⟩
  by_cases c : i = R
  · have e : (getK m (qK i)).isSome = false := by rw [c, hR.2]; rfl
    simp only [t0, t3, t5, e, go_sem]
    rw [c]
  · have e : (getK m (qK i)).isSome = true := hR.1 i (by omega)
    have hw : IntKind.i64.wrap ((i : Int) + 1) = ((i + 1 : Nat) : Int) := w64 (by omega) (by omega)
    have hg := k_spec_l13Get (X := X) (k := qK (i + 1)) hm hll
    have h2 := k_spec_l13Two (X := X) (h := h') (n := i + 1) (by omega)
    have hz := twoT_size (n := i + 1) (by omega)
    have hz1 : (⟨[113]⟩ : Array UInt8).size + (twoT (i + 1)).size ≤ 9223372036854775807 := by rw [asz]; omega
    unfold getV at hg
    simp only [t0, t3, t5, e, hw, h2, qK_app, hz1, hg, go_sem]
    omega
theorem k_impl_joined [LibX X] {i : Nat} (hi : i ≤ 1000000000) (hm : Rows h 2 mv (prsL m)) (hl : m.length ≤ lim) : C T X n_impl_joined [mv, .int .i64 (i : Int)] h = some (.bool (tB (Jn m i)), h) := by
  refine C_go t_impl_joined rfl ?_
  unfold F_impl_joined
  have hg := k_impl_get (X := X) (k := vK i) hm hl
  have h2 := k_impl_two (X := X) (h := h) (n := i) (by omega)
  have hz := twoT_size (n := i) (by omega)
  have hz1 : (⟨[118]⟩ : Array UInt8).size + (twoT i).size ≤ 9223372036854775807 := by rw [asz]; omega
  have hin := k_impl_in (X := X) (h := h) (n := (i : Int)) (lo := 0) (hi := 11)
  unfold getV at hg
  have c1 : (0 : Int) ≤ i := by omega
  cases e : (getK m (vK i)).isSome with
  | false =>
    simp only [h2, vK_app, hz1, hg, e, hin, go_sem]
    exact (tB_f fun k => by have := k.2; rw [e] at this; cases this).symm
  | true =>
    by_cases c2 : (i : Int) ≤ 11
    · simp only [h2, vK_app, hz1, hg, e, hin, c1, c2, go_sem]
      exact (tB_t ⟨by omega, e⟩).symm
    · simp only [h2, vK_app, hz1, hg, e, hin, c1, c2, go_sem]
      exact (tB_f fun k => by have := k.1; omega).symm
end
end Go.Proofs.YtgmljppiiighmaaGreatDoor.Ab
set_option linter.unusedSimpArgs false
set_option linter.unusedVariables false
set_option linter.unnecessarySimpa false
set_option maxHeartbeats 4000000
namespace Go.Proofs.YtgmljppiiighmaaGreatDoor.Ab
open Go.RowKit
theorem catB_snoc {l : List ByteArray} {x : ByteArray} : catB (l ++ [x]) = catB l ++ x := by unfold catB; rw [List.foldl_append]; rfl
theorem partsL_snoc {m : List Pr} {r i : Nat} : partsL m r (i + 1) = partsL m r i ++ [partV m r i] := by unfold partsL; rw [List.range_succ, List.map_append]; rfl
theorem catB_size : ∀ {l : List ByteArray}, (∀ x ∈ l, x.size ≤ 40) → (catB l).size ≤ 40 * l.length
  | [], _ => by show noT.size ≤ _; exact Nat.zero_le _
  | x :: l, h => by
    rw [catB_cons, ByteArray.size_append, List.length_cons]
    have h1 := h x List.mem_cons_self
    have h2 := catB_size fun y hy => h y (List.mem_cons_of_mem _ hy)
    omega
theorem getK_size {m : List Pr} (hs : ∀ p ∈ m, p.v.size ≤ 40) {k : ByteArray} : ((getK m k).getD noT).size ≤ 40 := by
  cases hg : getK m k with
  | none => exact Nat.zero_le _
  | some v =>
    obtain ⟨i, h1, h2, h3⟩ := getK_some hg
    rw [Option.getD_some, ← h3]
    exact hs _ (getD_mem h1)
theorem partsL_size {m : List Pr} (hs : ∀ p ∈ m, p.v.size ≤ 40) {r n : Nat} : (catB (partsL m r n)).size ≤ 40 * n := by
  have := catB_size (l := partsL m r n) fun x hx => by
    obtain ⟨i, _, rfl⟩ := List.mem_map.1 hx
    exact getK_size hs
  simpa [partsL] using this
theorem textS_size {l : List Pr} (hs : ∀ p ∈ l, p.v.size ≤ 40) {f : Pr → Bool} : (catB ((l.filter f).map (·.v))).size ≤ 40 * l.length := by
  have := catB_size (l := (l.filter f).map (·.v)) fun x hx => by
    obtain ⟨p, hp, rfl⟩ := List.mem_map.1 hx
    exact hs p (List.mem_filter.1 hp).1
  have h2 := List.length_filter_le f l
  rw [List.length_map] at this
  omega
theorem r3_app {r : Nat} : (⟨⟨[114]⟩⟩ : ByteArray) ++ twoT r = strOfNums (114 :: twoL r) := by
  rw [show (⟨⟨[114]⟩⟩ : ByteArray) = strOfNums [114] from rfl]; exact strOfNums_app
theorem rK_app' {r n : Nat} : strOfNums (114 :: twoL r) ++ twoT n = rK r n := by rw [← r3_app]; exact rK_app
theorem r3_size {r : Nat} (h : r ≤ 1000000000) : (strOfNums (114 :: twoL r)).size ≤ 11 := by
  rw [← r3_app, ByteArray.size_append, lit_size]
  have := twoT_size h
  omega
theorem sl_from {s : ByteArray} {a : Nat} (h : a ≤ s.size) : slSV (.string s) (some (.int .i64 (a : Int))) none = some (.string (s.extract a s.size)) := by
  simp only [slSV, bnd]
  rw [if_pos ⟨by omega, by omega, by omega⟩]
  rfl
theorem sl_to {s : ByteArray} {b : Nat} (h : b ≤ s.size) : slSV (.string s) none (some (.int .i64 (b : Int))) = some (.string (s.extract 0 b)) := by
  simp only [slSV, bnd]
  rw [if_pos ⟨by omega, by omega, by omega⟩]
  rfl
theorem sl_mid {s : ByteArray} {a b : Nat} (h : a ≤ b) (hb : b ≤ s.size) : slSV (.string s) (some (.int .i64 (a : Int))) (some (.int .i64 (b : Int))) = some (.string (s.extract a b)) := by
  simp only [slSV, bnd]
  rw [if_pos ⟨by omega, by omega, by omega⟩]
  rfl
theorem cutF_fuel : ∀ (f g : Nat) (s : ByteArray), s.size < f → s.size < g → cutF f s = cutF g s
  | 0, g, s, h, _ => by omega
  | f + 1, 0, s, _, h => by omega
  | f + 1, g + 1, s, h1, h2 => by
    unfold cutF
    split
    · rw [cutF_fuel f g _ (by rw [ByteArray.size_extract]; omega) (by rw [ByteArray.size_extract]; omega)]
    · rfl
theorem cut_big {s : ByteArray} (h : 40 < s.size) : cut s = s.extract 0 40 :: cut (s.extract 40 s.size) := by
  unfold cut
  rw [cutF, if_pos h, cutF_fuel s.size ((s.extract 40 s.size).size + 1) _ (by rw [ByteArray.size_extract]; omega) (by omega)]
theorem cut_small {s : ByteArray} (h : ¬ 40 < s.size) (h0 : ¬ s.size = 0) : cut s = [s] := by
  unfold cut
  rw [cutF, if_neg h, if_neg h0]
theorem cut_none {s : ByteArray} (h0 : s.size = 0) : cut s = [] := by
  unfold cut
  rw [cutF, if_neg (by omega), if_pos h0]
theorem size_noT {s : ByteArray} : s.size = 0 ↔ s = noT := by
  constructor
  · intro h
    apply ByteArray.ext
    apply Array.toList_inj.1
    have : s.data.toList.length = 0 := by simpa using h
    rw [List.length_eq_zero_iff.1 this]
  · rintro rfl; rfl
/-- The bytes of a text. -/
def bytL (s : ByteArray) : List Int := (List.range s.size).map fun i => ((byt s i : Nat) : Int)
theorem bytL_len {s : ByteArray} : (bytL s).length = s.size := by simp [bytL]
theorem take_snocD' {α : Type} {d : α} {l : List α} {i : Nat} (hi : i < l.length) : l.take (i + 1) = l.take i ++ [l.getD i d] := by
  rw [List.take_add_one, List.getElem?_eq_getElem hi, List.getD_eq_getElem?_getD, List.getElem?_eq_getElem hi]
  rfl
def valN (s : ByteArray) : Nat → Nat
  | 0 => 0
  | i + 1 => 10 * valN s i + (byt s i - 48)
theorem valN_lt {s : ByteArray} : ∀ i, (∀ j, j < i → byt s j ≤ 57) → valN s i < 10 ^ i
  | 0, _ => by simp [valN]
  | i + 1, h => by
    have h1 := valN_lt i fun j hj => h j (by omega)
    have h2 := h i (by omega)
    rw [valN, Nat.pow_succ]
    omega
theorem valN_dec {n : Nat} : ∀ i, i ≤ (decL n).length → ((valN (decT n) i : Nat) : Int) = valD ((decL n).take i)
  | 0, _ => by simp [valN, valD]
  | i + 1, h => by
    have h1 := valN_dec (n := n) i (by omega)
    have h2 := byt_nums (L := decL n) (fun x hx => by have := decL_rng (n + 1) n (by omega) x hx; omega) (i := i) (by omega)
    have h3 := decL_rng (n + 1) n (by omega) ((decL n).getD i 0) (getD_mem (l := decL n) (by omega))
    rw [take_snocD' (l := decL n) (d := (0 : Int)) (by omega), valD_snoc, ← h1, valN]
    unfold decT
    omega
section
variable {X : CallF} {h : Heap} {m : List Pr} {mv : Value}
theorem k_impl_certOf [LibX X] {r n : Nat} (hr : r ≤ 1000000000) (hp : IsParts m r n) (hs : ∀ p ∈ m, p.v.size ≤ 40) (hm : Rows h 2 mv (prsL m)) (hl : m.length ≤ lim) : C T X n_impl_certOf [mv, .int .i64 (r : Int)] h = some (.tuple ⟨[.string (catB (partsL m r n)), .int .i64 (n : Int)]⟩, h) := by
  refine C_go t_impl_certOf rfl ?_
  unfold F_impl_certOf
  simp only [go_sem]
  have hn := hp.1
  refine w_for n (fun i t loc h' => h' = h ∧ t 0 = mv ∧ t 1 = .int .i64 (r : Int) ∧ t 6 = .string (catB (partsL m r i)) ∧ t 7 = .int .i64 (i : Int) ∧ i ≤ n) ⟨rfl, rfl, rfl, rfl, rfl, Nat.zero_le _⟩ ?_
  rintro i t loc h' hi ⟨rfl, t0, t1, t6, t7, hi2⟩
  have hw : IntKind.i64.wrap ((i : Int) + 1) = ((i + 1 : Nat) : Int) := w64 (by omega) (by omega)
  have h2 := k_impl_two (X := X) (h := h') (n := r) (by omega)
  have h3 := k_impl_two (X := X) (h := h') (n := i) (by omega)
  have hz := twoT_size (n := r) (by omega)
  have hz' := twoT_size (n := i) (by omega)
  have hz1 : (⟨[114]⟩ : Array UInt8).size + (twoT r).size ≤ 9223372036854775807 := by rw [asz]; omega
  have hz2 := r3_size (r := r) (by omega)
  have hz3 : (strOfNums (114 :: twoL r)).size + (twoT i).size ≤ 9223372036854775807 := by omega
  have hg := k_impl_get (X := X) (k := rK r i) hm hl
  unfold getV at hg
  by_cases c : i = n
  · rcases hp.2.2 with e | e
    · cases e2 : (getK m (rK r i)).isSome with
      | true =>
        have c9 : (i : Int) > 99 := by omega
        simp only [t0, t1, t6, t7, h2, h3, hz1, r3_app, hz3, rK_app', hg, e2, c9, go_sem]
        rw [c]
      | false =>
        simp only [t0, t1, t6, t7, h2, h3, hz1, r3_app, hz3, rK_app', hg, e2, go_sem]
        rw [c]
    · have e2 : (getK m (rK r i)).isSome = false := by rw [c, e]; rfl
      simp only [t0, t1, t6, t7, h2, h3, hz1, r3_app, hz3, rK_app', hg, e2, go_sem]
      rw [c]
  · have e2 : (getK m (rK r i)).isSome = true := hp.2.1 i (by omega)
    have c9 : ¬ (i : Int) > 99 := by omega
    have s1 := partsL_size hs (r := r) (n := i)
    have s2 := getK_size hs (k := rK r i)
    have s3 : (catB (partsL m r i)).size + ((getK m (rK r i)).getD noT).size ≤ 9223372036854775807 := by omega
    simp only [t0, t1, t6, t7, h2, h3, hz1, r3_app, hz3, rK_app', hg, e2, c9, s3, hw, go_sem]
    refine ⟨by omega, ?_, by omega⟩
    rw [partsL_snoc, catB_snoc]
    rfl
theorem k_spec_l13Text {r : Nat} (hr : r ≤ 1000000000) (hs : ∀ p ∈ m, p.v.size ≤ 40) (hm : Rows h 2 mv (prsL m)) (hl : m.length ≤ 1048576) : C T X n_spec_l13Text [mv, .int .i64 (r : Int)] h = some (.string (textS m r), h) := by
  refine C_go t_spec_l13Text rfl ?_
  unfold F_spec_l13Text
  simp only [go_sem]
  refine w_for m.length (fun i t loc h' => h' = h ∧ t 0 = mv ∧ t 1 = .int .i64 (r : Int) ∧ t 5 = .string (catB (((m.take i).filter (isR r)).map (·.v))) ∧ t 6 = .int .i64 (i : Int)) ⟨rfl, rfl, rfl, by rw [List.take_zero]; rfl, rfl⟩ ?_
  rintro i t loc h' hi ⟨rfl, t0, t1, t5, t6⟩
  simp only [t0, t6, hm.lnm, go_sem]
  refine w_open (by simp only [go_sem]; rfl) ?_ ?_ <;> intro hc
  · have hi1 : i < m.length := by omega
    have hw : IntKind.i64.wrap ((i : Int) + 1) = ((i + 1 : Nat) : Int) := w64 (by omega) (by omega)
    have el := hm.el (f := prR) p0 hi1
    have cl0 := hm.cell (f := prR) p0 hi1 (o := 0) (by omega)
    have cl1 := hm.cell (f := prR) p0 hi1 (o := 1) (by omega)
    have tk := take_snocD' (d := p0) hi1
    have hsq := hs _ (getD_mem (d := p0) hi1)
    obtain ⟨q, hq⟩ : ∃ q, q = m.getD i p0 := ⟨_, rfl⟩
    rw [← hq] at el cl0 cl1 tk hsq
    have k0 : ldC h' (elemP mv 2 i 0) 1 = some [.string q.k] := cl0
    have k1 : ldC h' (elemP mv 2 i 1) 1 = some [.string q.v] := cl1
    have h2 := k_spec_l13Two (X := X) (h := h') (n := r) hr
    have hz := twoT_size (n := r) (by omega)
    have hz1 : (⟨[114]⟩ : Array UInt8).size + (twoT r).size ≤ 9223372036854775807 := by rw [asz]; omega
    have s1 := textS_size (l := m.take i) (fun p hp => hs p (List.mem_of_mem_take hp)) (f := isR r)
    rw [List.length_take] at s1
    have s3 : (catB (((m.take i).filter (isR r)).map (·.v))).size + q.v.size ≤ 9223372036854775807 := by omega
    have no : isR r q = false → catB (((m.take (i + 1)).filter (isR r)).map (·.v)) = catB (((m.take i).filter (isR r)).map (·.v)) := fun e => by
      rw [tk, List.filter_append, List.filter_cons_of_neg (by rw [e]; decide), List.filter_nil, List.append_nil]
    by_cases c1 : (q.k.size : Int) = 5
    · have hsl : slSV (.string q.k) none (some (.int .i64 3)) = some (.string (q.k.extract 0 3)) := sl_to (b := 3) (by omega)
      by_cases c2 : q.k.extract 0 3 = strOfNums (114 :: twoL r)
      · have c2' : ((q.k.extract 0 3).toList == (strOfNums (114 :: twoL r)).toList) = true := by rw [str_eq]; exact decide_eq_true c2
        simp only [t0, t1, t5, t6, el.1, el.2.1, k0, k1, c1, hsl, h2, hz1, r3_app, c2', s3, hw, go_sem]
        refine ⟨List.prefix_refl _, hi1, ?_⟩
        rw [tk, List.filter_append, List.filter_cons_of_pos (by unfold isR; simp [c2]; omega), List.filter_nil, List.map_append]
        exact congrArg _ catB_snoc.symm
      · have c2' : ((q.k.extract 0 3).toList == (strOfNums (114 :: twoL r)).toList) = false := by rw [str_eq]; exact decide_eq_false c2
        simp only [t0, t1, t5, t6, el.1, el.2.1, k0, k1, c1, hsl, h2, hz1, r3_app, c2', hw, go_sem]
        refine ⟨List.prefix_refl _, hi1, congrArg _ (no ?_).symm⟩
        unfold isR
        simp [c2]
    · simp only [t0, t1, t5, t6, el.1, el.2.1, k0, k1, c1, hw, go_sem]
      refine ⟨hi1, congrArg _ (no ?_).symm⟩
      unfold isR
      rw [decide_eq_false (by omega)]
      rfl
  · have hin : i = m.length := by omega
    subst hin
    rw [List.take_length] at t5
    simp only [t5, go_sem]
    rfl
theorem k_spec_l13Pool {r : Nat} (hr : r ≤ 1000000000) (hs : ∀ p ∈ m, p.v.size ≤ 40) (hm : Rows h 2 mv (prsL m)) (hl : m.length ≤ lim) : ∃ v hh, C T X n_spec_l13Pool [mv, .int .i64 (r : Int)] h = some (v, hh) ∧ h <+: hh ∧ Own hh h.length hh.length 1 y_int v (ints (bytL ((getK m (qK r)).getD noT))) := by
  refine C_ex t_spec_l13Pool rfl ?_
  unfold F_spec_l13Pool
  have h2 := k_spec_l13Two (X := X) (h := h) (n := r) hr
  have hz := twoT_size (n := r) (by omega)
  have hz1 : (⟨[113]⟩ : Array UInt8).size + (twoT r).size ≤ 9223372036854775807 := by rw [asz]; omega
  have hg := k_spec_l13Get (X := X) (k := qK r) hm hl
  unfold getV at hg
  have hsz := getK_size hs (k := qK r)
  obtain ⟨w, hw0⟩ : ∃ w, w = (getK m (qK r)).getD noT := ⟨_, rfl⟩
  rw [← hw0] at hg hsz ⊢
  simp only [h2, hz1, qK_app, hg, zeros, fillAt, go_sem]
  refine w_for w.size (fun i t loc h' => t 5 = .string w ∧ t 8 = .int .i64 i ∧ h <+: h' ∧ ∃ v, t 7 = v ∧ Own h' h.length h'.length 1 y_int v (ints ((List.range i).map fun i => ((byt w i : Nat) : Int)))) ⟨rfl, rfl, List.prefix_append _ _, _, rfl, Acc.new.own⟩ ?_
  rintro i t loc h' hi ⟨t5, t8, hp, v, t7, o⟩
  simp only [t5, t8, go_sem]
  refine w_open (by simp only [go_sem]; rfl) ?_ ?_ <;> intro hc
  · have hi1 : i < w.size := by omega
    have hw : IntKind.i64.wrap ((i : Int) + 1) = ((i + 1 : Nat) : Int) := w64 (by omega) (by omega)
    have e0 : ixV (.string w) (.int .i64 i) = some (.int .u8 (byt w i : Nat)) := ix_byt hi1
    have b0 := byt_lt (s := w) (i := i)
    have w0 : IntKind.i64.wrap ((byt w i : Nat) : Int) = ((byt w i : Nat) : Int) := w64 (by omega) (by omega)
    obtain ⟨v2, h2, c3, q1, q2, o2⟩ := o.push1 (pre_len hp) [.int .i64 ((byt w i : Nat) : Int)] rfl (by rw [ints_len]; unfold lim; simp; omega)
    rw [Nat.max_eq_right q1] at o2
    simp only [t5, t7, t8, e0, w0, zeros, fillAt, c3, hw, go_sem]
    exact ⟨hi1, pre_push hp (Nat.le_refl _) q1 q2, v2, rfl, by rw [List.map_append]; simpa [ints] using o2⟩
  · have hin : i = w.size := by omega
    subst hin
    simp only [t7, go_sem]
    refine ⟨o.live, ?_⟩
    obtain ⟨f1, f2⟩ := o.fin hp
    exact ⟨f1, f2⟩
theorem k_impl_CertParts {s0 : ByteArray} (hl0 : s0.size ≤ 1048576) : ∃ v hh, C T X n_impl_CertParts [.string s0] h = some (v, hh) ∧ h <+: hh ∧ Own hh h.length hh.length 1 y_string v (texts (cut s0)) := by
  refine C_ex t_impl_CertParts rfl ?_
  unfold F_impl_CertParts
  simp only [zeros, fillAt, go_sem]
  refine w_meas s0.size (fun n t loc h' => h <+: h' ∧ ∃ (s : ByteArray) (L : List ByteArray) (v : Value), t 0 = .string s ∧ t 3 = v ∧ s.size = n ∧ Own h' h.length h'.length 1 y_string v (texts L) ∧ L ++ cut s = cut s0 ∧ L.length + s.size ≤ s0.size) ⟨List.prefix_refl _, s0, [], _, rfl, rfl, rfl, Own.nil, rfl, by simp⟩ ?_
  rintro n t loc h' ⟨hp, s, L, v, t0, t3, hn, o, hc, hs⟩
  simp only [t0, t3, go_sem]
  refine w_open (by simp only [t0, t3, go_sem]; rfl) ?_ ?_ <;> intro hc'
  · have f1 : slSV (.string s) none (some (.int .i64 40)) = some (.string (s.extract 0 40)) := sl_to (b := 40) (by omega)
    have f2 : slSV (.string s) (some (.int .i64 40)) none = some (.string (s.extract 40 s.size)) := sl_from (a := 40) (by omega)
    obtain ⟨v2, h2, c3, q1, q2, o2⟩ := o.push1 (pre_len hp) [.string (s.extract 0 40)] rfl (by unfold texts lim; rw [List.length_map]; omega)
    rw [Nat.max_eq_right q1] at o2
    have e2 : (s.extract 40 s.size).size = s.size - 40 := by rw [ByteArray.size_extract]; omega
    simp only [t0, t3, f1, f2, zeros, fillAt, c3, go_sem]
    refine ⟨s.size - 40, by omega, pre_push hp (Nat.le_refl _) q1 q2, _, L ++ [s.extract 0 40], v2, rfl, rfl, e2, by simpa [texts, txR] using o2, ?_, by rw [e2]; simp; omega⟩
    rw [List.append_assoc, List.singleton_append, ← cut_big (by omega), hc]
  · by_cases c0 : s.size = 0
    · rw [cut_none c0, List.append_nil] at hc
      have c1 : (s.toList == ByteArray.toList ⟨⟨[]⟩⟩) = true := by rw [str_eq]; exact decide_eq_true (size_noT.1 c0)
      simp only [t0, t3, c1, go_sem]
      refine ⟨o.live, ?_⟩
      obtain ⟨f1, f2⟩ := o.fin hp
      exact ⟨f1, by rw [← hc]; exact f2⟩
    · rw [cut_small (by omega) c0] at hc
      obtain ⟨v2, h2, c3, q1, q2, o2⟩ := o.push1 (pre_len hp) [.string s] rfl (by unfold texts lim; rw [List.length_map]; omega)
      rw [Nat.max_eq_right q1] at o2
      have c1 : (s.toList == ByteArray.toList ⟨⟨[]⟩⟩) = false := by rw [str_eq]; exact decide_eq_false (fun e => c0 (size_noT.2 e))
      simp only [t0, t3, c1, zeros, fillAt, c3, go_sem]
      have o3 : Own h2 h.length h2.length 1 y_string v2 (texts (cut s0)) := by rw [← hc]; simpa [texts, txR] using o2
      refine ⟨o3.live, ?_⟩
      obtain ⟨f1, f2⟩ := o3.fin (pre_push hp (Nat.le_refl _) q1 q2)
      exact ⟨f1, f2⟩
theorem k_spec_CertParts {s0 : ByteArray} (hl0 : s0.size ≤ 1048576) : ∃ v hh, C T X n_spec_CertParts [.string s0] h = some (v, hh) ∧ h <+: hh ∧ Own hh h.length hh.length 1 y_string v (texts (cut s0)) := by
  refine C_ex t_spec_CertParts rfl ?_
  unfold F_spec_CertParts
  simp only [zeros, fillAt, go_sem]
  refine w_meas s0.size (fun n t loc h' => h <+: h' ∧ ∃ (s : ByteArray) (L : List ByteArray) (v : Value), t 0 = .string s ∧ t 3 = v ∧ s.size = n ∧ Own h' h.length h'.length 1 y_string v (texts L) ∧ L ++ cut s = cut s0 ∧ L.length + s.size ≤ s0.size) ⟨List.prefix_append _ _, s0, [], _, rfl, rfl, rfl, Acc.new.own, rfl, by simp⟩ ?_
  rintro n t loc h' ⟨hp, s, L, v, t0, t3, hn, o, hc, hs⟩
  simp only [t0, t3, go_sem]
  refine w_open (by simp only [t0, t3, go_sem]; rfl) ?_ ?_ <;> intro hc'
  · have f1 : slSV (.string s) none (some (.int .i64 40)) = some (.string (s.extract 0 40)) := sl_to (b := 40) (by omega)
    have f2 : slSV (.string s) (some (.int .i64 40)) none = some (.string (s.extract 40 s.size)) := sl_from (a := 40) (by omega)
    obtain ⟨v2, h2, c3, q1, q2, o2⟩ := o.push1 (pre_len hp) [.string (s.extract 0 40)] rfl (by unfold texts lim; rw [List.length_map]; omega)
    rw [Nat.max_eq_right q1] at o2
    have e2 : (s.extract 40 s.size).size = s.size - 40 := by rw [ByteArray.size_extract]; omega
    simp only [t0, t3, f1, f2, zeros, fillAt, c3, go_sem]
    refine ⟨s.size - 40, by omega, pre_push hp (Nat.le_refl _) q1 q2, _, L ++ [s.extract 0 40], v2, rfl, rfl, e2, by simpa [texts, txR] using o2, ?_, by rw [e2]; simp; omega⟩
    rw [List.append_assoc, List.singleton_append, ← cut_big (by omega), hc]
  · by_cases c0 : s.size = 0
    · rw [cut_none c0, List.append_nil] at hc
      have c1 : ¬ (s.size : Int) > 0 := by omega
      simp only [t0, t3, c1, go_sem]
      refine ⟨o.live, ?_⟩
      obtain ⟨f1, f2⟩ := o.fin hp
      exact ⟨f1, by rw [← hc]; exact f2⟩
    · rw [cut_small (by omega) c0] at hc
      obtain ⟨v2, h2, c3, q1, q2, o2⟩ := o.push1 (pre_len hp) [.string s] rfl (by unfold texts lim; rw [List.length_map]; omega)
      rw [Nat.max_eq_right q1] at o2
      have c1 : (s.size : Int) > 0 := by omega
      simp only [t0, t3, c1, zeros, fillAt, c3, go_sem]
      have o3 : Own h2 h.length h2.length 1 y_string v2 (texts (cut s0)) := by rw [← hc]; simpa [texts, txR] using o2
      refine ⟨o3.live, ?_⟩
      obtain ⟨f1, f2⟩ := o3.fin (pre_push hp (Nat.le_refl _) q1 q2)
      exact ⟨f1, f2⟩
theorem dec_bad {s : ByteArray} {i : Nat} (hi : i < s.size) (hb : byt s i < 48 ∨ 57 < byt s i) : rdDec s = none := by
  refine rdDec_none.2 fun n hn e => ?_
  subst e
  unfold decT at hi hb
  rw [strOfNums_size] at hi
  have h2 := byt_nums (L := decL n) (fun x hx => by have := decL_rng (n + 1) n (by omega) x hx; omega) hi
  have h3 := decL_rng (n + 1) n (by omega) ((decL n).getD i 0) (getD_mem hi)
  omega
theorem dec_val {s : ByteArray} {n : Nat} (h : rdDec s = some n) : valN s s.size = n := by
  obtain ⟨h1, h2⟩ := rdDec_some.1 h
  subst h2
  have e : (decT n).size = (decL n).length := by unfold decT; rw [strOfNums_size]
  have := valN_dec (n := n) (decL n).length (Nat.le_refl _)
  rw [List.take_length, decL_val (n + 1) n (by omega)] at this
  rw [e]
  omega
theorem k_spec_ReadDecimal {s : ByteArray} : C T X n_spec_ReadDecimal [.string s] h = some (.tuple #[.int .i64 (dcN s), .bool (dcB s)], h) := by
  have no : rdDec s = none → (Value.tuple ⟨[.int .i64 0, .bool false]⟩) = .tuple #[.int .i64 (dcN s), .bool (dcB s)] := fun e => by
    unfold dcN dcB
    rw [e]
    rfl
  refine C_go t_spec_ReadDecimal rfl ?_
  unfold F_spec_ReadDecimal
  by_cases c0 : (s.size : Int) > 10
  · simp only [c0, go_sem]
    refine no (rdDec_none.2 fun n hn e => ?_)
    subst e
    have := decT_size (n := n) (k := 10) (by omega) (by omega)
    omega
  simp only [c0, go_sem]
  refine w_for s.size (fun i t loc h' => h' = h ∧ t 0 = .string s ∧ t 4 = .int .i64 ((valN s i : Nat) : Int) ∧ t 5 = .int .i64 (i : Int) ∧ ∀ j, j < i → 48 ≤ byt s j ∧ byt s j ≤ 57) ⟨rfl, rfl, rfl, rfl, fun j hj => by omega⟩ ?_
  rintro i t loc h' hi ⟨rfl, t0, t4, t5, hj⟩
  simp only [t0, t5, go_sem]
  refine w_open (by simp only [go_sem]; rfl) ?_ ?_ <;> intro hc
  · have hi1 : i < s.size := by omega
    have hw : IntKind.i64.wrap ((i : Int) + 1) = ((i + 1 : Nat) : Int) := w64 (by omega) (by omega)
    have e0 : ixV (.string s) (.int .i64 i) = some (.int .u8 (byt s i : Nat)) := ix_byt hi1
    have b0 := byt_lt (s := s) (i := i)
    have hv := valN_lt (s := s) i fun j hj' => (hj j hj').2
    have h10 : 10 ^ i ≤ 10 ^ 10 := Nat.pow_le_pow_right (by omega) (by omega)
    by_cases c1 : ((byt s i : Nat) : Int) < 48
    · simp only [t0, t4, t5, e0, c1, go_sem]
      exact no (dec_bad hi1 (.inl (by omega)))
    by_cases c2 : ((byt s i : Nat) : Int) > 57
    · simp only [t0, t4, t5, e0, c1, c2, go_sem]
      exact no (dec_bad hi1 (.inr (by omega)))
    have w0 : IntKind.i64.wrap ((byt s i : Nat) : Int) = ((byt s i : Nat) : Int) := w64 (by omega) (by omega)
    have w1 : IntKind.i64.wrap (10 * ((valN s i : Nat) : Int)) = 10 * ((valN s i : Nat) : Int) := w64 (by omega) (by omega)
    have w2 : IntKind.i64.wrap (10 * ((valN s i : Nat) : Int) + ((byt s i : Nat) : Int)) = 10 * ((valN s i : Nat) : Int) + ((byt s i : Nat) : Int) := w64 (by omega) (by omega)
    have w3 : IntKind.i64.wrap (10 * ((valN s i : Nat) : Int) + ((byt s i : Nat) : Int) - 48) = ((valN s (i + 1) : Nat) : Int) := by rw [w64 (by omega) (by omega), valN]; omega
    simp only [t0, t4, t5, e0, c1, c2, w0, w1, w2, w3, hw, go_sem]
    refine ⟨hi1, fun j hj' => ?_⟩
    by_cases e : j = i
    · subst e; omega
    · exact hj j (by omega)
  · have hin : i = s.size := by omega
    subst hin
    have hv := valN_lt (s := s) s.size fun j hj' => (hj j hj').2
    have h10 : 10 ^ s.size ≤ 10 ^ 10 := Nat.pow_le_pow_right (by omega) (by omega)
    by_cases c1 : ((valN s s.size : Nat) : Int) > 1000000000
    · simp only [t0, t4, c1, go_sem]
      refine no ?_
      cases e : rdDec s with
      | none => rfl
      | some n => have h1 := dec_val e; have h2 := (rdDec_some.1 e).1; omega
    have hd := k_spec_Decimal (X := X) (h := h') (n := valN s s.size) (by omega)
    by_cases c2 : decT (valN s s.size) = s
    · have c2' : ((decT (valN s s.size)).toList == s.toList) = true := by rw [str_eq]; exact decide_eq_true c2
      have e : rdDec s = some (valN s s.size) := rdDec_some.2 ⟨by omega, c2.symm⟩
      simp only [t0, t4, c1, hd, c2', go_sem]
      unfold dcN dcB
      rw [e]
      rfl
    · have c2' : ((decT (valN s s.size)).toList == s.toList) = false := by rw [str_eq]; exact decide_eq_false c2
      simp only [t0, t4, c1, hd, c2', go_sem]
      refine no ?_
      cases e : rdDec s with
      | none => rfl
      | some n => have h1 := dec_val e; have h2 := (rdDec_some.1 e).2; rw [h1] at c2; exact absurd h2.symm c2
end
end Go.Proofs.YtgmljppiiighmaaGreatDoor.Ab
set_option linter.unusedSimpArgs false
set_option linter.unusedVariables false
set_option linter.unnecessarySimpa false
set_option maxHeartbeats 4000000
namespace Go.Proofs.YtgmljppiiighmaaGreatDoor.Ab
open Go.RowKit
theorem strOfNums_app' {l m : List Int} : strOfNums l ++ strOfNums m = strOfNums (l ++ m) := by
  apply ByteArray.ext
  apply Array.toList_inj.1
  rw [ByteArray.data_append, Array.toList_append, strOfNums_data, strOfNums_data, strOfNums_data, List.map_append]
theorem ext_tail {c : Int} {L : List Int} : (strOfNums (c :: L)).extract 1 (strOfNums (c :: L)).size = strOfNums L := by
  apply ByteArray.ext
  apply Array.toList_inj.1
  rw [ByteArray.data_extract, Array.toList_extract, strOfNums_data, strOfNums_data, strOfNums_size]
  simp
  exact List.take_of_length_le (by simp)
theorem head_one {s : ByteArray} (h : 1 ≤ s.size) : s.extract 0 1 = strOfNums [((byt s 0 : Nat) : Int)] := by
  have hs : (s.extract 0 1).size = 1 := by rw [ByteArray.size_extract]; omega
  have hb := byt_lt (s := s) (i := 0)
  refine bytes_ext (by rw [hs]; rfl) (fun x hx => ?_) fun i hi => ?_
  · simp at hx; omega
  · have : i = 0 := by simpa using hi
    subst this
    have := byt_ext (s := s) (a := 0) (b := 1) (i := 0) (by omega) h
    rw [this]
    rfl
theorem cons_iff {s : ByteArray} {c : Nat} {L : List Int} (hc : c < 256) (h : 1 ≤ s.size) : s = strOfNums ((c : Int) :: L) ↔ byt s 0 = c ∧ s.extract 1 s.size = strOfNums L := by
  constructor
  · intro e
    subst e
    exact ⟨by rw [k_byte (by omega)]; omega, ext_tail⟩
  · rintro ⟨h1, h2⟩
    rw [← ext_cat h, head_one h, h1, h2, strOfNums_app']
    rfl
theorem pT_iff {v : ByteArray} {R : Nat} (hR : R ≤ 6) (h : 1 ≤ v.size) : (∃ r, r < R ∧ v = pT r) ↔ byt v 0 = 112 ∧ ∃ n, rdDec (v.extract 1 v.size) = some n ∧ n < R := by
  have key : ∀ r, v = pT r ↔ byt v 0 = 112 ∧ v.extract 1 v.size = decT r := fun r => cons_iff (c := 112) (by omega) h
  constructor
  · rintro ⟨r, h1, h2⟩
    obtain ⟨h3, h4⟩ := (key r).1 h2
    exact ⟨h3, r, rdDec_some.2 ⟨by omega, h4⟩, h1⟩
  · rintro ⟨h1, n, h2, h3⟩
    exact ⟨n, h3, (key n).2 ⟨h1, (rdDec_some.1 h2).2⟩⟩
theorem kv1 {k : ByteArray} {i : Nat} (hk : 1 ≤ k.size) (h0 : byt k 0 = 118) : rdTwo (k.extract 1 k.size) = some i ↔ k = vK i ∧ i < 100 := key1 (c := 118) (by omega) hk h0
theorem kq1 {k : ByteArray} {i : Nat} (hk : 1 ≤ k.size) (h0 : byt k 0 = 113) : rdTwo (k.extract 1 k.size) = some i ↔ k = qK i ∧ i < 100 := key1 (c := 113) (by omega) hk h0
theorem ke2 {k : ByteArray} {a b : Nat} (hk : k.size = 5) (h0 : byt k 0 = 101) : (rdTwo (k.extract 1 3) = some a ∧ rdTwo (k.extract 3 5) = some b) ↔ k = eK a b ∧ a < 100 ∧ b < 100 := key2 (c := 101) (by omega) hk h0
theorem kr2 {k : ByteArray} {a b : Nat} (hk : k.size = 5) (h0 : byt k 0 = 114) : (rdTwo (k.extract 1 3) = some a ∧ rdTwo (k.extract 3 5) = some b) ↔ k = rK a b ∧ a < 100 ∧ b < 100 := key2 (c := 114) (by omega) hk h0
theorem vK_inj {a b : Nat} (h : vK a = vK b) : a = b := by
  have := strOfNums_inj (byte_rng (by omega) twoL_rng) (byte_rng (by omega) twoL_rng) h
  have e : twoL a = twoL b := (List.cons.inj this).2
  have e1 := twoL_val (n := a)
  rw [e, twoL_val] at e1
  omega
theorem eK_inj {a b a' b' : Nat} (ha : a < 100) (ha' : a' < 100) (h : eK a b = eK a' b') : a = a' ∧ b = b' := by
  have := strOfNums_inj (byte_rng (by omega) two2_rng) (byte_rng (by omega) two2_rng) h
  have e : twoL a ++ twoL b = twoL a' ++ twoL b' := (List.cons.inj this).2
  obtain ⟨e1, e2⟩ := List.append_inj e (by rw [twoL_len ha, twoL_len ha'])
  have f1 := twoL_val (n := a)
  have f2 := twoL_val (n := b)
  rw [e1, twoL_val] at f1
  rw [e2, twoL_val] at f2
  omega
theorem eK_size {a b : Nat} (ha : a < 100) (hb : b < 100) : (eK a b).size = 5 := by
  unfold eK eL
  rw [strOfNums_size, List.length_cons, List.length_append, twoL_len ha, twoL_len hb]
theorem vK_size {a : Nat} (ha : a < 100) : (vK a).size = 3 := by
  unfold vK vL
  rw [strOfNums_size, List.length_cons, twoL_len ha]
theorem qK_size {a : Nat} (ha : a < 100) : (qK a).size = 3 := by
  unfold qK qL
  rw [strOfNums_size, List.length_cons, twoL_len ha]
section
variable {m : List Pr} {p : Pr} {R : Nat}
theorem id_none (hk : 1 ≤ p.k.size) (h0 : byt p.k 0 = 118) (e : rdTwo (p.k.extract 1 p.k.size) = none) : ¬ IdOk R p := by
  rintro ⟨i, h1, h2, _⟩
  rw [(kv1 hk h0).2 ⟨h2, by omega⟩] at e
  cases e
theorem id_some {i : Nat} (hk : 1 ≤ p.k.size) (h0 : byt p.k 0 = 118) (e : rdTwo (p.k.extract 1 p.k.size) = some i) : IdOk R p ↔ i < 12 ∧ (p.v = aT ∨ p.v = lT ∨ ∃ r, r < R ∧ p.v = pT r) := by
  have hi := (kv1 hk h0).1 e
  constructor
  · rintro ⟨j, h1, h2, h3⟩
    rw [vK_inj (hi.1.symm.trans h2)]
    exact ⟨h1, h3⟩
  · rintro ⟨h1, h2⟩
    exact ⟨i, h1, hi.1, h2⟩
theorem id_noT : (∃ r, r < R ∧ noT = pT r) → False := by
  rintro ⟨r, _, h⟩
  have : noT.size = (pT r).size := by rw [h]
  unfold pT at this
  rw [strOfNums_size] at this
  have h0 : noT.size = 0 := rfl
  simp [h0] at this
theorem link_size (h : LinkI m p) : p.k.size = 5 ∧ p.v.size = 3 := by
  obtain ⟨a, b, h1, h2, h3, h4, _⟩ := h
  exact ⟨by rw [h3]; exact eK_size (by omega) h2, h4.1⟩
theorem link_none (hk : p.k.size = 5) (h0 : byt p.k 0 = 101) (e : rdTwo (p.k.extract 1 3) = none ∨ rdTwo (p.k.extract 3 5) = none) : ¬ LinkI m p := by
  rintro ⟨a, b, h1, h2, h3, _⟩
  obtain ⟨k1, k2⟩ := (ke2 hk h0).2 ⟨h3, by omega, h2⟩
  rw [k1, k2] at e
  rcases e with e | e <;> cases e
theorem link_some {a b : Nat} (hk : p.k.size = 5) (h0 : byt p.k 0 = 101) (e1 : rdTwo (p.k.extract 1 3) = some a) (e2 : rdTwo (p.k.extract 3 5) = some b) : LinkI m p ↔ a < b ∧ Worths p.v ∧ Jn m a ∧ Jn m b := by
  obtain ⟨k1, k2, k3⟩ := (ke2 hk h0).1 ⟨e1, e2⟩
  constructor
  · rintro ⟨a', b', h1, h2, h3, h4, h5, h6⟩
    obtain ⟨f1, f2⟩ := eK_inj (by omega) (by omega) (k1.symm.trans h3)
    subst f1 f2
    exact ⟨h1, h4, h5, h6⟩
  · rintro ⟨h1, h2, h3, h4⟩
    exact ⟨a, b, h1, k3, k1, h2, h3, h4⟩
theorem linkS_none (hk : p.k.size = 5) (h0 : byt p.k 0 = 101) (e : rdTwo (p.k.extract 1 3) = none ∨ rdTwo (p.k.extract 3 5) = none) : ¬ LinkS m p := by
  rintro ⟨a, b, h1, h2, h3, _⟩
  obtain ⟨k1, k2⟩ := (ke2 hk h0).2 ⟨h3, by omega, h2⟩
  rw [k1, k2] at e
  rcases e with e | e <;> cases e
theorem linkS_some {a b : Nat} (hk : p.k.size = 5) (h0 : byt p.k 0 = 101) (e1 : rdTwo (p.k.extract 1 3) = some a) (e2 : rdTwo (p.k.extract 3 5) = some b) : LinkS m p ↔ a < b ∧ Worths p.v ∧ (getK m (vK a)).isSome = true ∧ (getK m (vK b)).isSome = true := by
  obtain ⟨k1, k2, k3⟩ := (ke2 hk h0).1 ⟨e1, e2⟩
  constructor
  · rintro ⟨a', b', h1, h2, h3, h4, h5, h6⟩
    obtain ⟨f1, f2⟩ := eK_inj (by omega) (by omega) (k1.symm.trans h3)
    subst f1 f2
    exact ⟨h1, h4, h5, h6⟩
  · rintro ⟨h1, h2, h3, h4⟩
    exact ⟨a, b, h1, k3, k1, h2, h3, h4⟩
theorem q_none {P : Nat → Prop} (hR : R ≤ 100) (hk : 1 ≤ p.k.size) (h0 : byt p.k 0 = 113) (e : rdTwo (p.k.extract 1 p.k.size) = none) : ¬ ∃ r, r < R ∧ p.k = qK r ∧ P r := by
  rintro ⟨i, h1, h2, _⟩
  rw [(kq1 hk h0).2 ⟨h2, by omega⟩] at e
  cases e
theorem q_some {P : Nat → Prop} {i : Nat} (hk : 1 ≤ p.k.size) (h0 : byt p.k 0 = 113) (e : rdTwo (p.k.extract 1 p.k.size) = some i) : (∃ r, r < R ∧ p.k = qK r ∧ P r) ↔ i < R ∧ P i := by
  have hi := (kq1 hk h0).1 e
  constructor
  · rintro ⟨j, h1, h2, h3⟩
    rw [qK_inj (hi.1.symm.trans h2)]
    exact ⟨h1, h3⟩
  · rintro ⟨h1, h2⟩
    exact ⟨i, h1, hi.1, h2⟩
theorem r_none {P : Nat → Nat → Prop} (hR : R ≤ 100) (hk : p.k.size = 5) (h0 : byt p.k 0 = 114) (e : rdTwo (p.k.extract 1 3) = none ∨ rdTwo (p.k.extract 3 5) = none) : ¬ ∃ r i, r < R ∧ i < 100 ∧ p.k = rK r i ∧ P r i := by
  rintro ⟨a, b, h1, h2, h3, _⟩
  obtain ⟨k1, k2⟩ := (kr2 hk h0).2 ⟨h3, by omega, h2⟩
  rw [k1, k2] at e
  rcases e with e | e <;> cases e
theorem r_some {P : Nat → Nat → Prop} {a b : Nat} (hR : R ≤ 100) (hk : p.k.size = 5) (h0 : byt p.k 0 = 114) (e1 : rdTwo (p.k.extract 1 3) = some a) (e2 : rdTwo (p.k.extract 3 5) = some b) : (∃ r i, r < R ∧ i < 100 ∧ p.k = rK r i ∧ P r i) ↔ a < R ∧ P a b := by
  obtain ⟨k1, k2, k3⟩ := (kr2 hk h0).1 ⟨e1, e2⟩
  constructor
  · rintro ⟨a', b', h1, h2, h3, h4⟩
    obtain ⟨f1, f2⟩ := rK_inj2 (by omega) (by omega) (k1.symm.trans h3)
    subst f1 f2
    exact ⟨h1, h4⟩
  · rintro ⟨h1, h2⟩
    exact ⟨a, b, h1, k3, k1, h2⟩
theorem r_size {P : Nat → Nat → Prop} (hR : R ≤ 100) (h : ∃ r i, r < R ∧ i < 100 ∧ p.k = rK r i ∧ P r i) : p.k.size = 5 := by
  obtain ⟨a, b, h1, h2, h3, _⟩ := h
  rw [h3]
  exact rK_size (by omega) h2
theorem parts_ex (m : List Pr) (r : Nat) : ∃ n, IsParts m r n := by
  have key : ∀ k, k ≤ 100 → (∀ i, i < k → (getK m (rK r i)).isSome = true) ∨ ∃ n, IsParts m r n := by
    intro k
    induction k with
    | zero => intro _; exact .inl fun i hi => by omega
    | succ k ih =>
      intro hk
      rcases ih (by omega) with h | h
      · cases e : getK m (rK r k) with
        | none => exact .inr ⟨k, by omega, h, .inr e⟩
        | some v =>
          refine .inl fun i hi => ?_
          by_cases c : i = k
          · rw [c, e]; rfl
          · exact h i (by omega)
      · exact .inr h
  rcases key 100 (Nat.le_refl _) with h | h
  · exact ⟨100, Nat.le_refl _, h, .inl rfl⟩
  · exact h
end
end Go.Proofs.YtgmljppiiighmaaGreatDoor.Ab
