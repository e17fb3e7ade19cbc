/- Contracts: a certificate is read, by the reference. No conditions. -/
import Derived.Test.YtioogligololoaaR10
set_option linter.unusedSimpArgs false
set_option linter.unusedVariables false
set_option linter.unnecessarySimpa false
set_option maxHeartbeats 4000000
namespace Go.Proofs.Ytioogligololoaa.Ab
open Go.RowKit
section
variable {X : CallF} {h : Heap} {b : Nat} {s : ByteArray} {p : Nat × Bool}

theorem cap_le (n : Int) : cap100 n ≤ 100 := by unfold cap100; omega
theorem cap_more {n : Int} {i m : Nat} (hm : m + i = cap100 n) (h1 : (i : Int) < n) (h2 : (i : Int) < 100) : 0 < m := by unfold cap100 at hm; omega
theorem cap_end1 {n : Int} {i m : Nat} (hm : m + i = cap100 n) (h1 : ¬ (i : Int) < n) : m = 0 := by unfold cap100 at hm; omega
theorem cap_end2 {n : Int} {i m : Nat} (hm : m + i = cap100 n) (h1 : ¬ (i : Int) < 100) : m = 0 := by unfold cap100 at hm; omega
theorem groups_100 {q : Nat × Bool} : ∀ {n : Nat} {p : Nat × Bool}, ∀ g ∈ (rdN (gStep cap100 s) n p).1, g.ms.length ≤ 100
  | 0, _, g, h => absurd h List.not_mem_nil
  | n + 1, p, g, h => by
    rw [rdN] at h
    split at h
    · exact absurd h List.not_mem_nil
    · cases List.mem_cons.1 h with
      | inl e => rw [e]; exact Nat.le_trans rdN_len (cap_le _)
      | inr e => exact groups_100 (q := q) g e

theorem k_spec_ReadCert (hs2 : s.size ≤ 1048576) : ∃ v hh, C T X n_spec_ReadCert [.string s] h = some (v, hh) ∧ h <+: hh ∧ ∃ ew mw yw gw, v = .tuple ⟨[certV (rdS s).size ew mw yw gw, .bool (rdS s).ok]⟩ ∧ Own hh h.length hh.length 5 y_Edge ew (edges (rdS s).es) ∧ Own hh h.length hh.length 2 y_Couple mw (cps (rdS s).m) ∧ Own hh h.length hh.length 1 y_int yw (ints (rdS s).ys) ∧ OwnG hh h.length hh.length y_Group gw (rdS s).gs := by
  have hs : s.size ≤ lim := by unfold lim; omega
  refine C_ex t_spec_ReadCert rfl ?_
  obtain ⟨g, hg⟩ : ∃ g : Heap, g = h ++ [rdB y_l12Cur s (0, false)] := ⟨_, rfl⟩
  have hbw : bxW h y_l12Cur 3 (.agg ⟨[.string s, .int .i64 0, .bool false]⟩) = some (pk h.length 0, g) := by rw [hg]; rfl
  obtain ⟨b, hb⟩ : ∃ b, b = h.length := ⟨_, rfl⟩
  rw [← hb] at hbw
  have hgb : g[b]? = some (rdB y_l12Cur s (0, false)) := by rw [hg, hb]; simp
  have hgl : g.length = b + 1 := by rw [hg, hb]; simp
  have hbl : b < g.length := by omega
  have hpg : h <+: g := by rw [hg]; exact List.prefix_append _ _
  have r0 : Rdr b y_l12Cur s g g (0, false) := Rdr.refl hgb (Nat.zero_le _)
  have c1 := num_s (X := X) r0 hs
  have c2 := num_sn (X := X) r0 hs 1
  have r2 := r0.nums 2
  obtain ⟨g2, hg2⟩ : ∃ g2, g2 = g.set b (rdB y_l12Cur s (sS s (0, false) 2)) := ⟨_, rfl⟩
  rw [← hg2] at c2 r2
  have hz : sV s (0, false) 0 = (rz s).1 := rfl
  have hne : sV s (0, false) 1 = (rne s).1 := rfl
  have hq2 : sS s (0, false) 2 = (rne s).2 := rfl
  rw [hz] at c1
  rw [hne] at c2
  rw [hq2] at r2
  obtain ⟨size, hsz⟩ : ∃ z, z = (rz s).1 := ⟨_, rfl⟩
  rw [← hsz] at c1
  have hszr : 0 ≤ size ∧ size ≤ 1000000000 := by rw [hsz]; exact num_rng (Nat.zero_le _)
  obtain ⟨NE, hNE⟩ : ∃ z, z = (rne s).1 := ⟨_, rfl⟩
  rw [← hNE] at c2
  have hre : re cap100 s = rdN (eStep s) (cap100 NE) (rne s).2 := by unfold re; rw [hNE]
  unfold F_spec_ReadCert
  simp only [hbw, c1, c2, go_sem, reduceIte, Nat.reduceEqDiff, Nat.reduceAdd, Nat.reduceMul, Nat.reduceLT, Nat.reduceLeDiff, reduceCtorEq, ne_eq, Int.reduceEq, Int.reduceLT, Int.reduceLE, Int.reduceNeg, Int.reduceToNat]
  have hb2 : b < g2.length := lt_of_get r2.at_
  -- the edges
  refine w_measX 0 (cap100 NE) (fun m t loc h' => t 0 = .string s ∧ t 4 = pk b 0 ∧ loc 2 = some [.int .i64 0, nilV, nilV, nilV, nilV] ∧ t 6 = .int .i64 NE ∧ ∃ (i : Nat), ∃ L q v, m + i = cap100 NE ∧ t 7 = .int .i64 (i : Nat) ∧ loc 5 = some [.int .i64 size, v, nilV, nilV, nilV] ∧ Rdr b y_l12Cur s g2 h' q ∧ Own h' g2.length h'.length 5 y_Edge v (edges L) ∧ RdTo (eStep s) (cap100 NE) (rne s).2 L m q)
    (fun t loc h' => t 0 = .string s ∧ t 4 = pk b 0 ∧ loc 2 = some [.int .i64 0, nilV, nilV, nilV, nilV] ∧ ∃ v, loc 5 = some [.int .i64 size, v, nilV, nilV, nilV] ∧ Rdr b y_l12Cur s g2 h' (re cap100 s).2 ∧ Own h' g2.length h'.length 5 y_Edge v (edges (re cap100 s).1))
    ⟨rfl, rfl, rfl, rfl, 0, [], _, _, rfl, rfl, rfl, Rdr.refl r2.at_ r2.le, Own.nil, RdTo.start⟩ ?_ ?_
  · rintro m t loc h' ⟨t0, t4, l2, t6, i, L, q, v, hmi, tcn, l5, hr, o, hto⟩
    have hpk : ∀ j, faV h' (pk b 0) j = some (pk b j) := fun j => rd_fa hr.at_
    have hcl := cap_le NE
    by_cases hk : (i : Int) < NE
    · cases hq : q.2 with
      | false =>
        by_cases hk2 : (i : Int) < 100
        · have hm0 := cap_more hmi hk hk2
          have hw : IntKind.i64.wrap ((i : Int) + 1) = ((i + 1 : Nat) : Int) := w64 (by omega) (by omega)
          have hkk : m = (m - 1) + 1 := by omega
          have hLN := hto.len
          have d0 := num_s (X := X) hr hs
          have d1 := num_sn (X := X) hr hs 1
          have d2 := num_sn (X := X) hr hs 2
          have d3 := num_sn (X := X) hr hs 3
          have d4 := num_sn (X := X) hr hs 4
          have hrn := hr.nums 5
          have o1 : Own (h'.set b (rdB y_l12Cur s (sS s q 5))) g2.length h'.length 5 y_Edge v (edges L) := o.num hb2
          obtain ⟨h2, hh2⟩ : ∃ h2, h2 = h'.set b (rdB y_l12Cur s (sS s q 5)) := ⟨_, rfl⟩
          rw [← hh2] at d4 hrn o1
          have hl2 : h2.length = h'.length := by rw [hh2, set_len]
          rw [← hl2] at o1
          obtain ⟨v3, h3, c3, q1, q2, o3⟩ := o1.push1 hrn.len (edgeR (eStep s q).1) rfl (by rw [List.length_map]; unfold lim; omega)
          unfold edgeR eStep at c3
          simp only [t0, t4, l2, t6, l5, tcn, hk, hk2, hpk, rd_chk hr.at_, rd_ld2 hr.at_, hq, d0, d1, d2, d3, d4, zeros, fillAt, c3, o3.cells, hw, go_sem, reduceIte, Nat.reduceEqDiff, Nat.reduceAdd, Nat.reduceMul, Nat.reduceLT, Nat.reduceLeDiff, reduceCtorEq, ne_eq, Int.reduceEq, Int.reduceLT, Int.reduceLE, Int.reduceNeg, Int.reduceToNat]
          rw [hkk] at hto
          refine ⟨m - 1, by omega, i + 1, L ++ [(eStep s q).1], sS s q 5, v3, by omega, rfl, rfl, hrn.push hb2 q1 (fun c hc => q2 c (.inl hc)), ?_, hto.next hq⟩
          rw [Nat.max_eq_right q1] at o3
          simpa using o3
        · have hd := hto.done (.inl (cap_end2 hmi hk2))
          simp only [t0, t4, l2, t6, l5, tcn, hk, hk2, hpk, rd_chk hr.at_, rd_ld2 hr.at_, hq, go_sem, reduceIte, Nat.reduceEqDiff, Nat.reduceAdd, Nat.reduceMul, Nat.reduceLT, Nat.reduceLeDiff, reduceCtorEq, ne_eq, Int.reduceEq, Int.reduceLT, Int.reduceLE, Int.reduceNeg, Int.reduceToNat]
          rw [hre, hd]
          exact ⟨v, rfl, hr, o⟩
      | true =>
        have hd := hto.done (.inr hq)
        simp only [t0, t4, l2, t6, l5, tcn, hk, hpk, rd_chk hr.at_, rd_ld2 hr.at_, hq, go_sem, reduceIte, Nat.reduceEqDiff, Nat.reduceAdd, Nat.reduceMul, Nat.reduceLT, Nat.reduceLeDiff, reduceCtorEq, ne_eq, Int.reduceEq, Int.reduceLT, Int.reduceLE, Int.reduceNeg, Int.reduceToNat]
        rw [hre, hd]
        exact ⟨v, rfl, hr, o⟩
    · have hd := hto.done (.inl (cap_end1 hmi hk))
      simp only [t0, t4, l2, t6, l5, tcn, hk, hpk, go_sem, reduceIte, Nat.reduceEqDiff, Nat.reduceAdd, Nat.reduceMul, Nat.reduceLT, Nat.reduceLeDiff, reduceCtorEq, ne_eq, Int.reduceEq, Int.reduceLT, Int.reduceLE, Int.reduceNeg, Int.reduceToNat]
      rw [hre, hd]
      exact ⟨v, rfl, hr, o⟩
  rintro t loc g3 ⟨t0, t4, l2, ev, l5, r3, oe⟩
  have hb3 : b < g3.length := lt_of_get r3.at_
  have n1 := num_s (X := X) r3 hs
  rw [show sV s (re cap100 s).2 0 = (rnm cap100 s).1 from rfl] at n1
  have r4' := r3.nums 1
  obtain ⟨g4, hg4⟩ : ∃ g4, g4 = g3.set b (rdB y_l12Cur s (sS s (re cap100 s).2 1)) := ⟨_, rfl⟩
  have oe4 : Own g4 g2.length g3.length 5 y_Edge ev (edges (re cap100 s).1) := by rw [hg4]; exact oe.num (lt_of_get r2.at_)
  rw [← hg4] at n1 r4'
  have hl4 : g4.length = g3.length := by rw [hg4, set_len]
  rw [show sS s (re cap100 s).2 1 = (rnm cap100 s).2 from rfl] at r4'
  have r4 : Rdr b y_l12Cur s g4 g4 (rnm cap100 s).2 := Rdr.refl r4'.at_ r4'.le
  obtain ⟨M, hM⟩ : ∃ M, M = (rnm cap100 s).1 := ⟨_, rfl⟩
  rw [← hM] at n1
  have hrm : rm cap100 s = rdN (cStep s) (cap100 M) (rnm cap100 s).2 := by unfold rm; rw [hM]
  simp only [t0, t4, l2, l5, n1, go_sem, reduceIte, Nat.reduceEqDiff, Nat.reduceAdd, Nat.reduceMul, Nat.reduceLT, Nat.reduceLeDiff, reduceCtorEq, ne_eq, Int.reduceEq, Int.reduceLT, Int.reduceLE, Int.reduceNeg, Int.reduceToNat]
  have hb4 : b < g4.length := by omega
  -- the couples
  refine w_measX 2 (cap100 M) (fun m t loc h' => t 0 = .string s ∧ t 4 = pk b 0 ∧ loc 2 = some [.int .i64 0, nilV, nilV, nilV, nilV] ∧ t 6 = .int .i64 M ∧ ∃ (i : Nat), ∃ L q v, m + i = cap100 M ∧ t 9 = .int .i64 (i : Nat) ∧ loc 5 = some [.int .i64 size, ev, v, nilV, nilV] ∧ Rdr b y_l12Cur s g4 h' q ∧ Own h' g4.length h'.length 2 y_Couple v (cps L) ∧ RdTo (cStep s) (cap100 M) (rnm cap100 s).2 L m q)
    (fun t loc h' => t 0 = .string s ∧ t 4 = pk b 0 ∧ loc 2 = some [.int .i64 0, nilV, nilV, nilV, nilV] ∧ ∃ v, loc 5 = some [.int .i64 size, ev, v, nilV, nilV] ∧ Rdr b y_l12Cur s g4 h' (rm cap100 s).2 ∧ Own h' g4.length h'.length 2 y_Couple v (cps (rm cap100 s).1))
    ⟨rfl, rfl, rfl, rfl, 0, [], _, _, rfl, rfl, rfl, r4, Own.nil, RdTo.start⟩ ?_ ?_
  · rintro m t loc h' ⟨t0, t4, l2, t6, i, L, q, v, hmi, tcn, l5, hr, o, hto⟩
    have hpk : ∀ j, faV h' (pk b 0) j = some (pk b j) := fun j => rd_fa hr.at_
    have hcl := cap_le M
    by_cases hk : (i : Int) < M
    · cases hq : q.2 with
      | false =>
        by_cases hk2 : (i : Int) < 100
        · have hm0 := cap_more hmi hk hk2
          have hw : IntKind.i64.wrap ((i : Int) + 1) = ((i + 1 : Nat) : Int) := w64 (by omega) (by omega)
          have hkk : m = (m - 1) + 1 := by omega
          have hLN := hto.len
          have d0 := num_s (X := X) hr hs
          have d1 := num_sn (X := X) hr hs 1
          have hrn := hr.nums 2
          have o1 : Own (h'.set b (rdB y_l12Cur s (sS s q 2))) g4.length h'.length 2 y_Couple v (cps L) := o.num hb4
          obtain ⟨h2, hh2⟩ : ∃ h2, h2 = h'.set b (rdB y_l12Cur s (sS s q 2)) := ⟨_, rfl⟩
          rw [← hh2] at d1 hrn o1
          have hl2 : h2.length = h'.length := by rw [hh2, set_len]
          rw [← hl2] at o1
          obtain ⟨v3, h3, c3, q1, q2, o3⟩ := o1.push1 hrn.len (cpR (cStep s q).1) rfl (by rw [List.length_map]; unfold lim; omega)
          unfold cpR cStep at c3
          simp only [t0, t4, l2, t6, l5, tcn, hk, hk2, hpk, rd_chk hr.at_, rd_ld2 hr.at_, hq, d0, d1, zeros, fillAt, c3, o3.cells, hw, go_sem, reduceIte, Nat.reduceEqDiff, Nat.reduceAdd, Nat.reduceMul, Nat.reduceLT, Nat.reduceLeDiff, reduceCtorEq, ne_eq, Int.reduceEq, Int.reduceLT, Int.reduceLE, Int.reduceNeg, Int.reduceToNat]
          rw [hkk] at hto
          refine ⟨m - 1, by omega, i + 1, L ++ [(cStep s q).1], sS s q 2, v3, by omega, rfl, rfl, hrn.push hb4 q1 (fun c hc => q2 c (.inl hc)), ?_, hto.next hq⟩
          rw [Nat.max_eq_right q1] at o3
          simpa using o3
        · have hd := hto.done (.inl (cap_end2 hmi hk2))
          simp only [t0, t4, l2, t6, l5, tcn, hk, hk2, hpk, rd_chk hr.at_, rd_ld2 hr.at_, hq, go_sem, reduceIte, Nat.reduceEqDiff, Nat.reduceAdd, Nat.reduceMul, Nat.reduceLT, Nat.reduceLeDiff, reduceCtorEq, ne_eq, Int.reduceEq, Int.reduceLT, Int.reduceLE, Int.reduceNeg, Int.reduceToNat]
          rw [hrm, hd]
          exact ⟨v, rfl, hr, o⟩
      | true =>
        have hd := hto.done (.inr hq)
        simp only [t0, t4, l2, t6, l5, tcn, hk, hpk, rd_chk hr.at_, rd_ld2 hr.at_, hq, go_sem, reduceIte, Nat.reduceEqDiff, Nat.reduceAdd, Nat.reduceMul, Nat.reduceLT, Nat.reduceLeDiff, reduceCtorEq, ne_eq, Int.reduceEq, Int.reduceLT, Int.reduceLE, Int.reduceNeg, Int.reduceToNat]
        rw [hrm, hd]
        exact ⟨v, rfl, hr, o⟩
    · have hd := hto.done (.inl (cap_end1 hmi hk))
      simp only [t0, t4, l2, t6, l5, tcn, hk, hpk, go_sem, reduceIte, Nat.reduceEqDiff, Nat.reduceAdd, Nat.reduceMul, Nat.reduceLT, Nat.reduceLeDiff, reduceCtorEq, ne_eq, Int.reduceEq, Int.reduceLT, Int.reduceLE, Int.reduceNeg, Int.reduceToNat]
      rw [hrm, hd]
      exact ⟨v, rfl, hr, o⟩
  rintro t loc g5 ⟨t0, t4, l2, mv, l5, r5, om⟩
  have hb5 : b < g5.length := lt_of_get r5.at_
  have r5s : Rdr b y_l12Cur s g5 g5 (rm cap100 s).2 := Rdr.refl r5.at_ r5.le
  have hry : ry cap100 s = rdN (numStep s) (cap100 size) (rm cap100 s).2 := by unfold ry; rw [← hsz]
  simp only [t0, t4, l2, l5, go_sem, reduceIte, Nat.reduceEqDiff, Nat.reduceAdd, Nat.reduceMul, Nat.reduceLT, Nat.reduceLeDiff, reduceCtorEq, ne_eq, Int.reduceEq, Int.reduceLT, Int.reduceLE, Int.reduceNeg, Int.reduceToNat]
  -- the numbers of the vertices
  refine w_measX 4 (cap100 size) (fun m t loc h' => t 0 = .string s ∧ t 4 = pk b 0 ∧ loc 2 = some [.int .i64 0, nilV, nilV, nilV, nilV] ∧ ∃ (i : Nat), ∃ L q v, m + i = cap100 size ∧ t 11 = .int .i64 (i : Nat) ∧ loc 5 = some [.int .i64 size, ev, mv, v, nilV] ∧ Rdr b y_l12Cur s g5 h' q ∧ Own h' g5.length h'.length 1 y_int v (ints L) ∧ RdTo (numStep s) (cap100 size) (rm cap100 s).2 L m q)
    (fun t loc h' => t 0 = .string s ∧ t 4 = pk b 0 ∧ loc 2 = some [.int .i64 0, nilV, nilV, nilV, nilV] ∧ ∃ v, loc 5 = some [.int .i64 size, ev, mv, v, nilV] ∧ Rdr b y_l12Cur s g5 h' (ry cap100 s).2 ∧ Own h' g5.length h'.length 1 y_int v (ints (ry cap100 s).1))
    ⟨rfl, rfl, rfl, 0, [], _, _, rfl, rfl, rfl, r5s, Own.nil, RdTo.start⟩ ?_ ?_
  · rintro m t loc h' ⟨t0, t4, l2, i, L, q, v, hmi, tcn, l5, hr, o, hto⟩
    have hpk : ∀ j, faV h' (pk b 0) j = some (pk b j) := fun j => rd_fa hr.at_
    have hcl := cap_le size
    by_cases hk : (i : Int) < size
    · cases hq : q.2 with
      | false =>
        by_cases hk2 : (i : Int) < 100
        · have hm0 := cap_more hmi hk hk2
          have hw : IntKind.i64.wrap ((i : Int) + 1) = ((i + 1 : Nat) : Int) := w64 (by omega) (by omega)
          have hkk : m = (m - 1) + 1 := by omega
          have hLN := hto.len
          have d0 := num_s (X := X) hr hs
          have hrn := hr.nums 1
          have o1 : Own (h'.set b (rdB y_l12Cur s (sS s q 1))) g5.length h'.length 1 y_int v (ints L) := o.num hb5
          obtain ⟨h2, hh2⟩ : ∃ h2, h2 = h'.set b (rdB y_l12Cur s (sS s q 1)) := ⟨_, rfl⟩
          rw [← hh2] at d0 hrn o1
          have hl2 : h2.length = h'.length := by rw [hh2, set_len]
          rw [← hl2] at o1
          obtain ⟨v3, h3, c3, q1, q2, o3⟩ := o1.push1 hrn.len ([.int .i64 (sV s q 0)]) rfl (by rw [ints_len]; unfold lim; omega)
          simp only [t0, t4, l2, l5, tcn, hk, hk2, hpk, rd_chk hr.at_, rd_ld2 hr.at_, hq, d0, zeros, fillAt, c3, o3.cells, hw, go_sem, reduceIte, Nat.reduceEqDiff, Nat.reduceAdd, Nat.reduceMul, Nat.reduceLT, Nat.reduceLeDiff, reduceCtorEq, ne_eq, Int.reduceEq, Int.reduceLT, Int.reduceLE, Int.reduceNeg, Int.reduceToNat]
          rw [hkk] at hto
          refine ⟨m - 1, by omega, i + 1, L ++ [sV s q 0], sS s q 1, v3, by omega, rfl, rfl, hrn.push hb5 q1 (fun c hc => q2 c (.inl hc)), ?_, hto.next hq⟩
          rw [Nat.max_eq_right q1] at o3
          simpa [ints] using o3
        · have hd := hto.done (.inl (cap_end2 hmi hk2))
          simp only [t0, t4, l2, l5, tcn, hk, hk2, hpk, rd_chk hr.at_, rd_ld2 hr.at_, hq, go_sem, reduceIte, Nat.reduceEqDiff, Nat.reduceAdd, Nat.reduceMul, Nat.reduceLT, Nat.reduceLeDiff, reduceCtorEq, ne_eq, Int.reduceEq, Int.reduceLT, Int.reduceLE, Int.reduceNeg, Int.reduceToNat]
          rw [hry, hd]
          exact ⟨v, rfl, hr, o⟩
      | true =>
        have hd := hto.done (.inr hq)
        simp only [t0, t4, l2, l5, tcn, hk, hpk, rd_chk hr.at_, rd_ld2 hr.at_, hq, go_sem, reduceIte, Nat.reduceEqDiff, Nat.reduceAdd, Nat.reduceMul, Nat.reduceLT, Nat.reduceLeDiff, reduceCtorEq, ne_eq, Int.reduceEq, Int.reduceLT, Int.reduceLE, Int.reduceNeg, Int.reduceToNat]
        rw [hry, hd]
        exact ⟨v, rfl, hr, o⟩
    · have hd := hto.done (.inl (cap_end1 hmi hk))
      simp only [t0, t4, l2, l5, tcn, hk, hpk, go_sem, reduceIte, Nat.reduceEqDiff, Nat.reduceAdd, Nat.reduceMul, Nat.reduceLT, Nat.reduceLeDiff, reduceCtorEq, ne_eq, Int.reduceEq, Int.reduceLT, Int.reduceLE, Int.reduceNeg, Int.reduceToNat]
      rw [hry, hd]
      exact ⟨v, rfl, hr, o⟩
  rintro t loc g6 ⟨t0, t4, l2, yv, l5, r6, oy⟩
  have hb6 : b < g6.length := lt_of_get r6.at_
  have n2 := num_s (X := X) r6 hs
  rw [show sV s (ry cap100 s).2 0 = (rgn cap100 s).1 from rfl] at n2
  have r7' := r6.nums 1
  obtain ⟨g7, hg7⟩ : ∃ g7, g7 = g6.set b (rdB y_l12Cur s (sS s (ry cap100 s).2 1)) := ⟨_, rfl⟩
  have oy7 : Own g7 g5.length g6.length 1 y_int yv (ints (ry cap100 s).1) := by rw [hg7]; exact oy.num hb5
  rw [← hg7] at n2 r7'
  have hl7 : g7.length = g6.length := by rw [hg7, set_len]
  have hb7 : b < g7.length := by omega
  rw [show sS s (ry cap100 s).2 1 = (rgn cap100 s).2 from rfl] at r7'
  have r7 : Rdr b y_l12Cur s g7 g7 (rgn cap100 s).2 := Rdr.refl r7'.at_ r7'.le
  obtain ⟨G, hG⟩ : ∃ G, G = (rgn cap100 s).1 := ⟨_, rfl⟩
  rw [← hG] at n2
  have hrgs : rg cap100 s = rdN (gStep cap100 s) (cap100 G) (rgn cap100 s).2 := by unfold rg; rw [hG]
  simp only [t0, t4, l2, l5, n2, go_sem, reduceIte, Nat.reduceEqDiff, Nat.reduceAdd, Nat.reduceMul, Nat.reduceLT, Nat.reduceLeDiff, reduceCtorEq, ne_eq, Int.reduceEq, Int.reduceLT, Int.reduceLE, Int.reduceNeg, Int.reduceToNat]
  -- the groups
  refine w_measX 6 (cap100 G) (fun m t loc h' => t 0 = .string s ∧ t 4 = pk b 0 ∧ loc 2 = some [.int .i64 0, nilV, nilV, nilV, nilV] ∧ t 6 = .int .i64 G ∧ ∃ (i : Nat), ∃ L q v, m + i = cap100 G ∧ t 12 = .int .i64 (i : Nat) ∧ loc 5 = some [.int .i64 size, ev, mv, yv, v] ∧ Rdr b y_l12Cur s g7 h' q ∧ OwnG h' g7.length h'.length y_Group v L ∧ RdTo (gStep cap100 s) (cap100 G) (rgn cap100 s).2 L m q)
    (fun t loc h' => t 0 = .string s ∧ t 4 = pk b 0 ∧ loc 2 = some [.int .i64 0, nilV, nilV, nilV, nilV] ∧ ∃ v, loc 5 = some [.int .i64 size, ev, mv, yv, v] ∧ Rdr b y_l12Cur s g7 h' (rg cap100 s).2 ∧ OwnG h' g7.length h'.length y_Group v (rg cap100 s).1)
    ⟨rfl, rfl, rfl, rfl, 0, [], _, _, rfl, rfl, rfl, r7, OwnG.nil, RdTo.start⟩ ?_ ?_
  · rintro m t loc h' ⟨t0, t4, l2, t6, i, L, q, v, hmi, tcn, l5, hr, o, hto⟩
    have hpk : ∀ j, faV h' (pk b 0) j = some (pk b j) := fun j => rd_fa hr.at_
    have hcl := cap_le G
    by_cases hk : (i : Int) < G
    · cases hq : q.2 with
      | false =>
        by_cases hk2 : (i : Int) < 100
        · have hm0 := cap_more hmi hk hk2
          have hw : IntKind.i64.wrap ((i : Int) + 1) = ((i + 1 : Nat) : Int) := w64 (by omega) (by omega)
          have hkk : m = (m - 1) + 1 := by omega
          have hLN := hto.len
          have d0 := num_s (X := X) hr hs
          have hrn := hr.nums 1
          have o1 : OwnG (h'.set b (rdB y_l12Cur s (sS s q 1))) g7.length h'.length y_Group v L := o.num hb7
          obtain ⟨h1, hh1⟩ : ∃ h1, h1 = h'.set b (rdB y_l12Cur s (sS s q 1)) := ⟨_, rfl⟩
          rw [← hh1] at d0 hrn o1
          have hl1 : h1.length = h'.length := by rw [hh1, set_len]
          have hb1 : b < h1.length := by have := hrn.len; omega
          have ri : Rdr b y_l12Cur s h1 h1 (sS s q 1) := Rdr.refl hrn.at_ hrn.le
          obtain ⟨n, hn⟩ : ∃ n, n = sV s q 0 := ⟨_, rfl⟩
          rw [← hn] at d0
          have hms : rdN (numStep s) (cap100 (numStep s q).1) (numStep s q).2 = rdN (numStep s) (cap100 n) (sS s q 1) := by rw [hn]; rfl
          simp only [t0, t4, l2, t6, l5, tcn, hk, hk2, hpk, rd_chk hr.at_, rd_ld2 hr.at_, hq, d0, go_sem, reduceIte, Nat.reduceEqDiff, Nat.reduceAdd, Nat.reduceMul, Nat.reduceLT, Nat.reduceLeDiff, reduceCtorEq, ne_eq, Int.reduceEq, Int.reduceLT, Int.reduceLE, Int.reduceNeg, Int.reduceToNat]
          -- its members
          refine w_measX 8 (cap100 n) (fun m t loc h' => t 0 = .string s ∧ t 4 = pk b 0 ∧ loc 2 = some [.int .i64 0, nilV, nilV, nilV, nilV] ∧ t 6 = .int .i64 G ∧ t 12 = .int .i64 i ∧ loc 5 = some [.int .i64 size, ev, mv, yv, v] ∧ t 14 = .int .i64 n ∧ ∃ (j : Nat), ∃ L q' x, m + j = cap100 n ∧ t 15 = .int .i64 (j : Nat) ∧ loc 13 = some [x, .int .i64 0] ∧ Rdr b y_l12Cur s h1 h' q' ∧ Own h' h1.length h'.length 1 y_int x (ints L) ∧ RdTo (numStep s) (cap100 n) (sS s q 1) L m q')
            (fun t loc h' => t 0 = .string s ∧ t 4 = pk b 0 ∧ loc 2 = some [.int .i64 0, nilV, nilV, nilV, nilV] ∧ t 6 = .int .i64 G ∧ t 12 = .int .i64 i ∧ loc 5 = some [.int .i64 size, ev, mv, yv, v] ∧ ∃ x, loc 13 = some [x, .int .i64 0] ∧ Rdr b y_l12Cur s h1 h' (rdN (numStep s) (cap100 n) (sS s q 1)).2 ∧ Own h' h1.length h'.length 1 y_int x (ints (rdN (numStep s) (cap100 n) (sS s q 1)).1))
            ⟨rfl, rfl, rfl, rfl, rfl, rfl, rfl, 0, [], _, _, rfl, rfl, rfl, ri, Own.nil, RdTo.start⟩ ?_ ?_
          · rintro m' t loc hx ⟨t0, t4, l2, t6, t12, l5, t14, j, L', q', x, hmj, t15, l13, hr', o', hto'⟩
            have hpk' : ∀ j, faV hx (pk b 0) j = some (pk b j) := fun j => rd_fa hr'.at_
            have hcl' := cap_le n
            by_cases jk : (j : Int) < n
            · cases jq : q'.2 with
              | false =>
                by_cases jk2 : (j : Int) < 100
                · have hm0' := cap_more hmj jk jk2
                  have hw' : IntKind.i64.wrap ((j : Int) + 1) = ((j + 1 : Nat) : Int) := w64 (by omega) (by omega)
                  have hkk' : m' = (m' - 1) + 1 := by omega
                  have hLN' := hto'.len
                  have e0 := num_s (X := X) hr' hs
                  have hrn' := hr'.nums 1
                  have o1' : Own (hx.set b (rdB y_l12Cur s (sS s q' 1))) h1.length hx.length 1 y_int x (ints L') := o'.num hb1
                  obtain ⟨h2, hh2⟩ : ∃ h2, h2 = hx.set b (rdB y_l12Cur s (sS s q' 1)) := ⟨_, rfl⟩
                  rw [← hh2] at e0 hrn' o1'
                  have hl2 : h2.length = hx.length := by rw [hh2, set_len]
                  rw [← hl2] at o1'
                  obtain ⟨v3, h3, c3, q1, q2, o3⟩ := o1'.push1 hrn'.len [.int .i64 (sV s q' 0)] rfl (by rw [ints_len]; unfold lim; omega)
                  simp only [t0, t4, l2, t6, t12, l5, t14, t15, l13, jk, jk2, hpk', rd_chk hr'.at_, rd_ld2 hr'.at_, jq, e0, zeros, fillAt, c3, o3.cells, hw', go_sem, reduceIte, Nat.reduceEqDiff, Nat.reduceAdd, Nat.reduceMul, Nat.reduceLT, Nat.reduceLeDiff, reduceCtorEq, ne_eq, Int.reduceEq, Int.reduceLT, Int.reduceLE, Int.reduceNeg, Int.reduceToNat]
                  rw [hkk'] at hto'
                  refine ⟨m' - 1, by omega, j + 1, L' ++ [sV s q' 0], sS s q' 1, v3, by omega, rfl, rfl, hrn'.push hb1 q1 (fun c hc => q2 c (.inl hc)), ?_, hto'.next jq⟩
                  rw [Nat.max_eq_right q1] at o3
                  simpa [ints] using o3
                · have hd := hto'.done (.inl (cap_end2 hmj jk2))
                  simp only [t0, t4, l2, t6, t12, l5, t14, t15, l13, jk, jk2, hpk', rd_chk hr'.at_, rd_ld2 hr'.at_, jq, go_sem, reduceIte, Nat.reduceEqDiff, Nat.reduceAdd, Nat.reduceMul, Nat.reduceLT, Nat.reduceLeDiff, reduceCtorEq, ne_eq, Int.reduceEq, Int.reduceLT, Int.reduceLE, Int.reduceNeg, Int.reduceToNat]
                  rw [hd]
                  exact ⟨x, rfl, hr', o'⟩
              | true =>
                have hd := hto'.done (.inr jq)
                simp only [t0, t4, l2, t6, t12, l5, t14, t15, l13, jk, hpk', rd_chk hr'.at_, rd_ld2 hr'.at_, jq, go_sem, reduceIte, Nat.reduceEqDiff, Nat.reduceAdd, Nat.reduceMul, Nat.reduceLT, Nat.reduceLeDiff, reduceCtorEq, ne_eq, Int.reduceEq, Int.reduceLT, Int.reduceLE, Int.reduceNeg, Int.reduceToNat]
                rw [hd]
                exact ⟨x, rfl, hr', o'⟩
            · have hd := hto'.done (.inl (cap_end1 hmj jk))
              simp only [t0, t4, l2, t6, t12, l5, t14, t15, l13, jk, hpk', go_sem, reduceIte, Nat.reduceEqDiff, Nat.reduceAdd, Nat.reduceMul, Nat.reduceLT, Nat.reduceLeDiff, reduceCtorEq, ne_eq, Int.reduceEq, Int.reduceLT, Int.reduceLE, Int.reduceNeg, Int.reduceToNat]
              rw [hd]
              exact ⟨x, rfl, hr', o'⟩
          rintro t loc hy ⟨t0, t4, l2, t6, t12, l5, x, l13, rx, ox⟩
          have hgs : gStep cap100 s q = (⟨(rdN (numStep s) (cap100 n) (sS s q 1)).1, (numStep s (rdN (numStep s) (cap100 n) (sS s q 1)).2).1⟩, (numStep s (rdN (numStep s) (cap100 n) (sS s q 1)).2).2) := by unfold gStep; rw [hms]
          have o2 : OwnG hy g7.length h'.length y_Group v L := o1.rdr rx hb7 (by omega)
          have e0 := num_s (X := X) rx hs
          have rx1 := rx.nums 1
          have o2' : OwnG (hy.set b (rdB y_l12Cur s (sS s (rdN (numStep s) (cap100 n) (sS s q 1)).2 1))) g7.length h'.length y_Group v L := o2.num hb7
          have ox' : Own (hy.set b (rdB y_l12Cur s (sS s (rdN (numStep s) (cap100 n) (sS s q 1)).2 1))) h1.length hy.length 1 y_int x (ints (rdN (numStep s) (cap100 n) (sS s q 1)).1) := ox.num hb1
          obtain ⟨h5, hh5⟩ : ∃ h5, h5 = hy.set b (rdB y_l12Cur s (sS s (rdN (numStep s) (cap100 n) (sS s q 1)).2 1)) := ⟨_, rfl⟩
          rw [← hh5] at e0 rx1 o2' ox'
          have hl5 : h5.length = hy.length := by rw [hh5, set_len]
          have hlen7 := hrn.len
          have hlenx := rx.len
          obtain ⟨v3, h3, c3, q1, q2, o3⟩ := o2'.push (z := sV s (rdN (numStep s) (cap100 n) (sS s q 1)).2 0) (by omega) (by omega) ox' hlen7 (by omega) (by omega) (by unfold lim; omega)
          simp only [t0, t4, l2, t6, t12, l5, l13, e0, ox'.cells, zeros, fillAt, c3, o3.cells', hw, go_sem, reduceIte, Nat.reduceEqDiff, Nat.reduceAdd, Nat.reduceMul, Nat.reduceLT, Nat.reduceLeDiff, reduceCtorEq, ne_eq, Int.reduceEq, Int.reduceLT, Int.reduceLE, Int.reduceNeg, Int.reduceToNat]
          rw [hkk] at hto
          refine ⟨m - 1, by omega, i + 1, L ++ [(gStep cap100 s q).1], (gStep cap100 s q).2, v3, by omega, rfl, rfl, ?_, ?_, hto.next hq⟩
          · rw [hgs]
            exact (hrn.trans rx1).push hb7 q1 q2
          · rw [hgs]
            exact o3
        · have hd := hto.done (.inl (cap_end2 hmi hk2))
          simp only [t0, t4, l2, t6, l5, tcn, hk, hk2, hpk, rd_chk hr.at_, rd_ld2 hr.at_, hq, go_sem, reduceIte, Nat.reduceEqDiff, Nat.reduceAdd, Nat.reduceMul, Nat.reduceLT, Nat.reduceLeDiff, reduceCtorEq, ne_eq, Int.reduceEq, Int.reduceLT, Int.reduceLE, Int.reduceNeg, Int.reduceToNat]
          rw [hrgs, hd]
          exact ⟨v, rfl, hr, o⟩
      | true =>
        have hd := hto.done (.inr hq)
        simp only [t0, t4, l2, t6, l5, tcn, hk, hpk, rd_chk hr.at_, rd_ld2 hr.at_, hq, go_sem, reduceIte, Nat.reduceEqDiff, Nat.reduceAdd, Nat.reduceMul, Nat.reduceLT, Nat.reduceLeDiff, reduceCtorEq, ne_eq, Int.reduceEq, Int.reduceLT, Int.reduceLE, Int.reduceNeg, Int.reduceToNat]
        rw [hrgs, hd]
        exact ⟨v, rfl, hr, o⟩
    · have hd := hto.done (.inl (cap_end1 hmi hk))
      simp only [t0, t4, l2, t6, l5, tcn, hk, hpk, go_sem, reduceIte, Nat.reduceEqDiff, Nat.reduceAdd, Nat.reduceMul, Nat.reduceLT, Nat.reduceLeDiff, reduceCtorEq, ne_eq, Int.reduceEq, Int.reduceLT, Int.reduceLE, Int.reduceNeg, Int.reduceToNat]
      rw [hrgs, hd]
      exact ⟨v, rfl, hr, o⟩
  rintro t loc g8 ⟨t0, t4, l2, gv, l5, r8, og⟩
  have lenA : g.length ≤ g2.length := by rw [hg2, set_len]; exact Nat.le_refl _
  have len8 := r8.len
  have len6 := r6.len
  have len5 := r5.len
  have len3 := r3.len
  have hpg8 : h <+: g8 := by
    have k2 : ∀ c, c < h.length → g2[c]? = h[c]? := fun c hc => by
      rw [hg2, List.getElem?_set_ne (by omega), hg, List.getElem?_append_left hc]
    have k3 : ∀ c, c < h.length → g3[c]? = h[c]? := fun c hc => by rw [r3.old c (by omega) (by omega), k2 c hc]
    have k4 : ∀ c, c < h.length → g4[c]? = h[c]? := fun c hc => by rw [hg4, List.getElem?_set_ne (by omega), k3 c hc]
    have k5 : ∀ c, c < h.length → g5[c]? = h[c]? := fun c hc => by rw [r5.old c (by omega) (by omega), k4 c hc]
    have k6 : ∀ c, c < h.length → g6[c]? = h[c]? := fun c hc => by rw [r6.old c (by omega) (by omega), k5 c hc]
    have k7 : ∀ c, c < h.length → g7[c]? = h[c]? := fun c hc => by rw [hg7, List.getElem?_set_ne (by omega), k6 c hc]
    exact pre_of_get (by omega) fun c hc => by rw [r8.old c (by omega) (by omega), k7 c hc]
  have oe8 : Own g8 g2.length g3.length 5 y_Edge ev (edges (re cap100 s).1) := by
    have a5 := oe4.rdr r5 hb2 (by omega)
    have a6 := a5.rdr r6 hb2 (by omega)
    have a7 : Own g7 g2.length g3.length 5 y_Edge ev (edges (re cap100 s).1) := by rw [hg7]; exact a6.num hb2
    exact a7.rdr r8 hb2 (by omega)
  have om8 : Own g8 g4.length g5.length 2 y_Couple mv (cps (rm cap100 s).1) := by
    have a6 := om.rdr r6 hb4 (by omega)
    have a7 : Own g7 g4.length g5.length 2 y_Couple mv (cps (rm cap100 s).1) := by rw [hg7]; exact a6.num hb4
    exact a7.rdr r8 hb4 (by omega)
  have oy8 : Own g8 g5.length g6.length 1 y_int yv (ints (ry cap100 s).1) := oy7.rdr r8 hb5 (by omega)
  have l1 : (re cap100 s).1.length ≤ 100 := Nat.le_trans (by rw [hre]; exact rdN_len) (cap_le NE)
  have l2' : (rm cap100 s).1.length ≤ 100 := Nat.le_trans (by rw [hrm]; exact rdN_len) (cap_le M)
  have l3 : (ry cap100 s).1.length ≤ 100 := Nat.le_trans (by rw [hry]; exact rdN_len) (cap_le size)
  have l4 : (rg cap100 s).1.length ≤ 100 := Nat.le_trans (by rw [hrgs]; exact rdN_len) (cap_le G)
  have cc := k_spec_CertText (X := X) (size := size) oe8.rows om8.rows oy8.rows og.rows (by unfold lim; omega) (by omega) ⟨by omega, by omega, fun x hx => by have := groups_100 (q := (0, false)) x hx; omega⟩
  unfold certV at cc
  have hpk : ∀ j, faV g8 (pk b 0) j = some (pk b j) := fun j => rd_fa r8.at_
  by_cases ok : CokS s
  · have hR : rdS s = ⟨(rz s).1, (re cap100 s).1, (rm cap100 s).1, (ry cap100 s).1, (rg cap100 s).1, true⟩ := if_pos ok
    have e1 : (rg cap100 s).2.2 = false := ok.1
    have e2 : CertOk size (re cap100 s).1 (rm cap100 s).1 (ry cap100 s).1 (rg cap100 s).1 := by rw [hsz]; exact ok.2.1
    have e3 : certT size (re cap100 s).1 (rm cap100 s).1 (ry cap100 s).1 (rg cap100 s).1 = s := by rw [hsz]; exact ok.2.2
    rw [if_pos e2, e3] at cc
    simp only [t0, t4, l2, l5, cc, e2, hpk, rd_chk r8.at_, rd_ld2 r8.at_, e1, BEq.rfl, go_sem, reduceIte, Nat.reduceEqDiff, Nat.reduceAdd, Nat.reduceMul, Nat.reduceLT, Nat.reduceLeDiff, reduceCtorEq, ne_eq, Int.reduceEq, Int.reduceLT, Int.reduceLE, Int.reduceNeg, Int.reduceToNat]
    rw [hR]
    simp only
    rw [← hsz]
    obtain ⟨hh, e, p1, hc⟩ := finish_cases (v := .tuple ⟨[.agg ⟨[.int .i64 size, ev, mv, yv, gv]⟩, .bool true]⟩) hpg8
    rw [e]
    dsimp only
    rcases hc with rfl | ⟨hf, rfl⟩
    · exact ⟨p1, ev, mv, yv, gv, rfl, oe8.wide (by omega) (by omega), om8.wide (by omega) (by omega), oy8.wide (by omega) (by omega), og.wide (by omega) (Nat.le_refl _)⟩
    · have hf' : prim ev = true ∧ prim mv = true ∧ prim yv = true ∧ prim gv = true := by simpa [flat, flat1, prim] using hf
      exact ⟨p1, ev, mv, yv, gv, rfl, oe8.flatP hf'.1, om8.flatP hf'.2.1, oy8.flatP hf'.2.2.1, og.flatG hf'.2.2.2⟩
  · have hR : rdS s = ⟨0, [], [], [], [], false⟩ := if_neg ok
    have done : ∀ P : Prop, P = P := fun _ => rfl
    cases e1 : (rg cap100 s).2.2 with
    | true =>
      simp only [t0, t4, l2, l5, cc, hpk, rd_chk r8.at_, rd_ld2 r8.at_, e1, go_sem, reduceIte, Nat.reduceEqDiff, Nat.reduceAdd, Nat.reduceMul, Nat.reduceLT, Nat.reduceLeDiff, reduceCtorEq, ne_eq, Int.reduceEq, Int.reduceLT, Int.reduceLE, Int.reduceNeg, Int.reduceToNat]
      rw [finish_flat rfl hpg8, hR]
      exact ⟨List.prefix_refl _, nilV, nilV, nilV, nilV, rfl, Own.nil, Own.nil, Own.nil, OwnG.nil⟩
    | false =>
      by_cases e2 : CertOk size (re cap100 s).1 (rm cap100 s).1 (ry cap100 s).1 (rg cap100 s).1
      · rw [if_pos e2] at cc
        have e3 : ¬ certT size (re cap100 s).1 (rm cap100 s).1 (ry cap100 s).1 (rg cap100 s).1 = s := fun k => ok ⟨e1, by rw [← hsz]; exact e2, by rw [← hsz]; exact k⟩
        have e4 : ((certT size (re cap100 s).1 (rm cap100 s).1 (ry cap100 s).1 (rg cap100 s).1).toList == s.toList) = false := by rw [str_eq]; exact decide_eq_false e3
        simp only [t0, t4, l2, l5, cc, e2, hpk, rd_chk r8.at_, rd_ld2 r8.at_, e1, e4, e3, go_sem, reduceIte, Nat.reduceEqDiff, Nat.reduceAdd, Nat.reduceMul, Nat.reduceLT, Nat.reduceLeDiff, reduceCtorEq, ne_eq, Int.reduceEq, Int.reduceLT, Int.reduceLE, Int.reduceNeg, Int.reduceToNat]
        rw [finish_flat rfl hpg8, hR]
        exact ⟨List.prefix_refl _, nilV, nilV, nilV, nilV, rfl, Own.nil, Own.nil, Own.nil, OwnG.nil⟩
      · rw [if_neg e2] at cc
        simp only [t0, t4, l2, l5, cc, e2, hpk, rd_chk r8.at_, rd_ld2 r8.at_, e1, go_sem, reduceIte, Nat.reduceEqDiff, Nat.reduceAdd, Nat.reduceMul, Nat.reduceLT, Nat.reduceLeDiff, reduceCtorEq, ne_eq, Int.reduceEq, Int.reduceLT, Int.reduceLE, Int.reduceNeg, Int.reduceToNat]
        rw [finish_flat rfl hpg8, hR]
        exact ⟨List.prefix_refl _, nilV, nilV, nilV, nilV, rfl, Own.nil, Own.nil, Own.nil, OwnG.nil⟩
end
end Go.Proofs.Ytioogligololoaa.Ab
