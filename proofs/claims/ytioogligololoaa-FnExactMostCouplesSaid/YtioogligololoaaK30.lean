/- Contracts: the best of all pairings, by the reference; for edges that are worth one. No conditions. -/
import Derived.Test.YtioogligololoaaP4
import Derived.Test.YtioogligololoaaK14
set_option linter.unusedSimpArgs false
set_option linter.unusedVariables false
set_option linter.unnecessarySimpa false
set_option maxHeartbeats 4000000
namespace Go.Proofs.Ytioogligololoaa.Ab
open Go.RowKit
section
variable {X : CallF} {h : Heap} {ev : Value} {es : List E}

theorem k_spec_Better {a b : Int} : C T X n_spec_Better [.agg ⟨[.int .i64 a, .int .i64 0, .int .i64 0]⟩, .agg ⟨[.int .i64 b, .int .i64 0, .int .i64 0]⟩] h = some (.bool (decide (b < a)), h) := by
  refine C_go t_spec_Better rfl ?_
  unfold F_spec_Better
  simp only [go_sem, reduceIte, Nat.reduceEqDiff, Nat.reduceAdd, Nat.reduceMul, Nat.reduceLT, Nat.reduceLeDiff, reduceCtorEq, ne_eq, Int.reduceEq, Int.reduceLT, Int.reduceLE, Int.reduceNeg, Int.reduceToNat]
  by_cases c1 : a = b
  · subst c1
    simp only [go_sem, reduceIte, Nat.reduceEqDiff, Nat.reduceAdd, Nat.reduceMul, Nat.reduceLT, Nat.reduceLeDiff, reduceCtorEq, ne_eq, Int.reduceEq, Int.reduceLT, Int.reduceLE, Int.reduceNeg, Int.reduceToNat]
    simp
  · simp only [c1, go_sem, reduceIte, Nat.reduceEqDiff, Nat.reduceAdd, Nat.reduceMul, Nat.reduceLT, Nat.reduceLeDiff, reduceCtorEq, ne_eq, Int.reduceEq, Int.reduceLT, Int.reduceLE, Int.reduceNeg, Int.reduceToNat]

/-- What the best is, so many by one. -/
def bestV (w : Nat) (c : Int) : Value := .tuple ⟨[.agg ⟨[.int .i64 (w : Int), .int .i64 0, .int .i64 0]⟩, .int .i64 c]⟩

theorem most_skips {es : List E} {k : Int} {u : List Int} {w : Nat} : ∀ (d : Nat), (∀ j : Int, k ≤ j → j < k + d → j ∈ u) → Most es (Fr (k + d) u) w → Most es (Fr k u) w
  | 0, _, h => by simpa using h
  | d + 1, hu, h => by
    refine most_skips d (fun j a b => hu j a (by omega)) (most_skip (hu _ (by omega) (by omega)) ?_)
    have : k + (d : Int) + 1 = k + ((d + 1 : Nat) : Int) := by omega
    rw [this]
    exact h

theorem k_spec_l09Best {n : Nat} (hn : n ≤ 9) (hl : es.length ≤ lim) (hE : ∀ e ∈ es, EOk n e) (hW : ∀ e ∈ es, e.w1 = 1 ∧ e.w2 = 0 ∧ e.w3 = 0) : ∀ (m k : Nat) (u : List Int) (uv : Value) (h : Heap), n ≤ k + m → k ≤ n → u.length ≤ k → Rows h 5 ev (edges es) → Rows h 1 uv (ints u) →
    ∃ (w : Nat) (c : Int), C T X n_spec_l09Best [graphV n ev, .int .i64 (k : Int), uv] h = some (bestV w c, h) ∧ w ≤ n - k ∧ Most es (Fr k u) w := by
  intro m
  induction m using Nat.strongRecOn with
  | _ m ih =>
  intro k u uv h hm hk hul he hu
  suffices hs : ∃ v hh, C T X n_spec_l09Best [graphV n ev, .int .i64 (k : Int), uv] h = some (v, hh) ∧ hh = h ∧ ∃ (w : Nat) (c : Int), v = bestV w c ∧ w ≤ n - k ∧ Most es (Fr k u) w by
    obtain ⟨v, hh, c1, rfl, w, c, rfl, c2⟩ := hs
    exact ⟨w, c, c1, c2⟩
  refine C_ex t_spec_l09Best rfl ?_
  unfold F_spec_l09Best graphV
  simp only [go_sem, reduceIte, Nat.reduceEqDiff, Nat.reduceAdd, Nat.reduceMul, Nat.reduceLT, Nat.reduceLeDiff, reduceCtorEq, ne_eq, Int.reduceEq, Int.reduceLT, Int.reduceLE, Int.reduceNeg, Int.reduceToNat]
  refine w_meas (n - k) (fun r t loc h' => h' = h ∧ loc 3 = some [.int .i64 n, ev] ∧ loc 6 = some [.int .i64 0, .int .i64 0, .int .i64 0] ∧ t 2 = uv ∧ ∃ i : Nat, r + i = n - k ∧ t 1 = .int .i64 ((k + i : Nat) : Int) ∧ ∀ j : Int, (k : Int) ≤ j → j < k + i → j ∈ u) ⟨rfl, rfl, rfl, rfl, 0, rfl, rfl, fun j a b => by omega⟩ ?_
  rintro r t loc h' ⟨rfl, l3, l6, t2, i, hr, t1, hall⟩
  obtain ⟨K, hK⟩ : ∃ K, K = k + i := ⟨_, rfl⟩
  rw [← hK] at t1
  have ck := k_spec_l03In (X := X) (n := (K : Int)) hu (by unfold lim; omega)
  simp only [l3, t1, t2, go_sem, reduceIte, Nat.reduceEqDiff, Nat.reduceAdd, Nat.reduceMul, Nat.reduceLT, Nat.reduceLeDiff, reduceCtorEq, ne_eq, Int.reduceEq, Int.reduceLT, Int.reduceLE, Int.reduceNeg, Int.reduceToNat]
  by_cases s1 : (K : Int) < (n : Int)
  · by_cases s2 : (K : Int) ∈ u
    · have hw : IntKind.i64.wrap ((K : Int) + 1) = ((k + (i + 1) : Nat) : Int) := by
        rw [w64 (by omega) (by omega)]
        omega
      simp only [s1, s2, l3, t1, t2, ck, hw, go_sem, reduceIte, Nat.reduceEqDiff, Nat.reduceAdd, Nat.reduceMul, Nat.reduceLT, Nat.reduceLeDiff, reduceCtorEq, ne_eq, Int.reduceEq, Int.reduceLT, Int.reduceLE, Int.reduceNeg, Int.reduceToNat]
      refine ⟨r - 1, by omega, l6, i + 1, by omega, rfl, fun j a b => ?_⟩
      by_cases hj : j < (k : Int) + i
      · exact hall j a hj
      · have : j = (K : Int) := by omega
        rw [this]; exact s2
    · have hw : IntKind.i64.wrap ((K : Int) + 1) = ((K + 1 : Nat) : Int) := w64 (by omega) (by omega)
      have ih1 := ih (m - 1) (by omega)
      obtain ⟨w0, c0, b1, b2, b3⟩ := ih1 (K + 1) u uv h' (by omega) (by omega) (by omega) he hu
      unfold graphV bestV at b1
      have hge : ¬ ((K : Int) ≥ (n : Int)) := by omega
      simp only [s1, s2, hge, l3, l6, t1, t2, ck, hw, b1, go_sem, reduceIte, Nat.reduceEqDiff, Nat.reduceAdd, Nat.reduceMul, Nat.reduceLT, Nat.reduceLeDiff, reduceCtorEq, ne_eq, Int.reduceEq, Int.reduceLT, Int.reduceLE, Int.reduceNeg, Int.reduceToNat]
      have fin : ∀ (w : Nat), w ≤ n - K → MostTo es (K : Int) u (n : Int) w → w ≤ n - k ∧ Most es (Fr k u) w := fun w a b => by
        refine ⟨by omega, most_skips i (fun j p q => hall j p q) ?_⟩
        rw [show (k : Int) + (i : Int) = (K : Int) by omega]
        exact mostTo_end hE b
      refine w_meas (n - (K + 1)) (fun r t loc h2 => h' <+: h2 ∧ loc 3 = some [.int .i64 n, ev] ∧ loc 6 = some [.int .i64 0, .int .i64 0, .int .i64 0] ∧ t 1 = .int .i64 (K : Int) ∧ t 2 = uv ∧ ∃ (j w : Nat) (c : Int), r + j = n - (K + 1) ∧ loc 8 = some [.int .i64 (w : Int), .int .i64 0, .int .i64 0] ∧ t 9 = .int .i64 c ∧ t 10 = .int .i64 ((K + 1 + j : Nat) : Int) ∧ w ≤ n - K ∧ MostTo es (K : Int) u ((K + 1 + j : Nat) : Int) w)
        ⟨List.prefix_refl _, rfl, rfl, rfl, rfl, 0, w0, c0, rfl, rfl, rfl, rfl, by omega, mostTo_start hE b3⟩ ?_
      rintro r2 t loc h2 ⟨hp, l3, l6, t1, t2, j, w, c, hr2, l8, t9, t10, hwn, hmt⟩
      obtain ⟨B, hB⟩ : ∃ B, B = K + 1 + j := ⟨_, rfl⟩
      rw [← hB] at t10 hmt
      have he2 := he.up hp
      have hu2 := hu.up hp
      simp only [l3, t10, go_sem, reduceIte, Nat.reduceEqDiff, Nat.reduceAdd, Nat.reduceMul, Nat.reduceLT, Nat.reduceLeDiff, reduceCtorEq, ne_eq, Int.reduceEq, Int.reduceLT, Int.reduceLE, Int.reduceNeg, Int.reduceToNat]
      refine w_open (by simp only [go_sem, reduceIte, Nat.reduceEqDiff, Nat.reduceAdd, Nat.reduceMul, Nat.reduceLT, Nat.reduceLeDiff, reduceCtorEq, ne_eq, Int.reduceEq, Int.reduceLT, Int.reduceLE, Int.reduceNeg, Int.reduceToNat]; rfl) ?_ ?_ <;> intro hc
      · have hw2 : IntKind.i64.wrap ((B : Int) + 1) = ((K + 1 + (j + 1) : Nat) : Int) := by
          rw [w64 (by omega) (by omega)]
          omega
        have hnext : ((K + 1 + (j + 1) : Nat) : Int) = (B : Int) + 1 := by omega
        have cat := k_spec_l08At (X := X) (h := h2) (size := (n : Int)) (x := (K : Int)) (y := (B : Int)) he2 hl
        unfold graphV at cat
        have cin := k_spec_l03In (X := X) (n := (B : Int)) hu2 (by unfold lim; omega)
        by_cases c1 : edgeIx es (K : Int) (B : Int) < 0
        · simp only [l3, l6, l8, t1, t2, t9, t10, cat, c1, hw2, go_sem, reduceIte, Nat.reduceEqDiff, Nat.reduceAdd, Nat.reduceMul, Nat.reduceLT, Nat.reduceLeDiff, reduceCtorEq, ne_eq, Int.reduceEq, Int.reduceLT, Int.reduceLE, Int.reduceNeg, Int.reduceToNat]
          exact ⟨r2 - 1, by omega, hp, j + 1, w, c, by omega, rfl, rfl, rfl, hwn, by rw [hnext]; exact mostTo_no hE hmt (.inl c1)⟩
        by_cases c2 : (B : Int) ∈ u
        · simp only [l3, l6, l8, t1, t2, t9, t10, cat, cin, c1, c2, hw2, go_sem, reduceIte, Nat.reduceEqDiff, Nat.reduceAdd, Nat.reduceMul, Nat.reduceLT, Nat.reduceLeDiff, reduceCtorEq, ne_eq, Int.reduceEq, Int.reduceLT, Int.reduceLE, Int.reduceNeg, Int.reduceToNat]
          exact ⟨r2 - 1, by omega, hp, j + 1, w, c, by omega, rfl, rfl, rfl, hwn, by rw [hnext]; exact mostTo_no hE hmt (.inr c2)⟩
        have hin : ∃ i0 : Nat, edgeIx es (K : Int) (B : Int) = (i0 : Int) ∧ i0 < es.length := by
          rcases firstIx_cases (p := Join (K : Int) (B : Int)) e0 es with ⟨q1, _⟩ | ⟨i0, q1, q2, _⟩
          · unfold edgeIx at c1; omega
          · exact ⟨i0, q1, q2⟩
        obtain ⟨i0, hi0, hi1⟩ := hin
        have hwi := hW _ (getD_mem (d := e0) hi1)
        have c1' : ¬ ((i0 : Int) < 0) := by omega
        rw [hi0] at cat
        obtain ⟨g, hg⟩ : ∃ g : Heap, g = h2 ++ [⟨[], 1, y_int, true⟩] := ⟨_, rfl⟩
        have hgl : g.length = h2.length + 1 := by rw [hg]; simp
        have hpg : h2 <+: g := by rw [hg]; exact List.prefix_append _ _
        have og : Own g h2.length (h2.length + 1) 1 y_int (.slice (some ⟨h2.length, 0, none⟩) 0 0) [] := by rw [← hgl, hg]; exact Acc.new.own
        obtain ⟨v3, h3, c3, q1, q2, o3⟩ := og.app (by omega) (hu2.up hpg) (by rw [List.length_nil, ints_len]; unfold lim; omega)
        have hp3 : h2 <+: h3 := pre_push hpg (Nat.le_refl _) q1 q2
        rw [List.nil_append] at o3
        obtain ⟨v4, h4, c4, q3, q4, o4⟩ := o3.push1 (by omega) [.int .i64 (B : Int)] rfl (by rw [ints_len]; unfold lim; omega)
        have hp4 : h2 <+: h4 := pre_push hp3 (Nat.le_refl _) q3 q4
        have hr4 : Rows h4 1 v4 (ints (u ++ [(B : Int)])) := by simpa [ints] using o4.rows
        obtain ⟨w1, c1x, d1, d2, d3⟩ := ih1 (K + 1) (u ++ [(B : Int)]) v4 h4 (by omega) (by omega) (by simp; omega) (he2.up hp4) hr4
        unfold graphV bestV at d1
        have el := edge_el (he2.up hp4) hi1
        have hz : IntKind.i64.wrap (0 + 0) = 0 := by decide
        have hws : IntKind.i64.wrap ((w1 : Int) + 1) = ((w1 + 1 : Nat) : Int) := w64 (by omega) (by omega)
        have hwk : IntKind.i64.wrap ((K : Int) + 1) = ((K + 1 : Nat) : Int) := w64 (by omega) (by omega)
        have hmx := mostTo_yes hE hmt s2 (by omega) c1 c2 (by rw [show (K : Int) + 1 = ((K + 1 : Nat) : Int) by omega]; exact d3)
        by_cases c5 : (w : Int) < ((w1 + 1 : Nat) : Int)
        · simp only [zeros, fillAt, ← hg, l3, l6, l8, t1, t2, t9, t10, cat, cin, c1', c2, c3, c4, hp4, d1, el.1, el.2.2.1, hwi.1, hwi.2.1, hwi.2.2, hz, hws, hwk, k_spec_Better, c5, hw2, go_sem, reduceIte, Nat.reduceEqDiff, Nat.reduceAdd, Nat.reduceMul, Nat.reduceLT, Nat.reduceLeDiff, reduceCtorEq, ne_eq, Int.reduceEq, Int.reduceLT, Int.reduceLE, Int.reduceNeg, Int.reduceToNat]
          refine ⟨r2 - 1, by omega, hp.trans hp4, j + 1, w1 + 1, _, by omega, rfl, rfl, rfl, by omega, ?_⟩
          rw [hnext]
          rw [Nat.max_eq_right (by omega)] at hmx
          exact hmx
        · simp only [zeros, fillAt, ← hg, l3, l6, l8, t1, t2, t9, t10, cat, cin, c1', c2, c3, c4, hp4, d1, el.1, el.2.2.1, hwi.1, hwi.2.1, hwi.2.2, hz, hws, hwk, k_spec_Better, c5, hw2, go_sem, reduceIte, Nat.reduceEqDiff, Nat.reduceAdd, Nat.reduceMul, Nat.reduceLT, Nat.reduceLeDiff, reduceCtorEq, ne_eq, Int.reduceEq, Int.reduceLT, Int.reduceLE, Int.reduceNeg, Int.reduceToNat]
          refine ⟨r2 - 1, by omega, hp.trans hp4, j + 1, w, _, by omega, rfl, rfl, rfl, by omega, ?_⟩
          rw [hnext]
          rw [Nat.max_eq_left (by omega)] at hmx
          exact hmx
      · have hBn : B = n := by omega
        rw [hBn] at hmt
        simp only [l6, l8, t9, go_sem, reduceIte, Nat.reduceEqDiff, Nat.reduceAdd, Nat.reduceMul, Nat.reduceLT, Nat.reduceLeDiff, reduceCtorEq, ne_eq, Int.reduceEq, Int.reduceLT, Int.reduceLE, Int.reduceNeg, Int.reduceToNat]
        rw [finish_flat rfl hp]
        exact ⟨rfl, w, c, rfl, (fin w hwn hmt).1, (fin w hwn hmt).2⟩
  · have hge : ((K : Int) ≥ (n : Int)) := by omega
    simp only [s1, hge, l3, l6, t1, t2, go_sem, reduceIte, Nat.reduceEqDiff, Nat.reduceAdd, Nat.reduceMul, Nat.reduceLT, Nat.reduceLeDiff, reduceCtorEq, ne_eq, Int.reduceEq, Int.reduceLT, Int.reduceLE, Int.reduceNeg, Int.reduceToNat]
    exact ⟨0, 1, rfl, by omega, most_skips i (fun j p q => hall j p q) (by
      rw [show (k : Int) + (i : Int) = (K : Int) by omega]
      exact most_end hE hge)⟩
end
end Go.Proofs.Ytioogligololoaa.Ab
