/- Contracts: a certificate is read, by the program. No conditions. -/
import Derived.Test.YtioogligololoaaR10
set_option linter.unusedSimpArgs false
set_option linter.unusedVariables false
set_option linter.unnecessarySimpa false
set_option maxHeartbeats 4000000
namespace Go.Proofs.Ytioogligololoaa.Ab
open Go.RowKit
section
variable {X : CallF} {h : Heap} {b : Nat} {s : ByteArray} {p : Nat × Bool}

theorem fin_rdr {h2 : Heap} {ty : TypeId} {q : Nat × Bool} {v z : Value} {rws : List (List Value)} (hb : b < h.length) (a : Rdr b ty s h h2 q) (o : Own h2 h.length h2.length 1 y_int v rws) : ∃ hh, finish h (.agg ⟨[v, z]⟩, h2) = (.agg ⟨[v, z]⟩, hh) ∧ Rdr b ty s h hh q ∧ Own hh h.length hh.length 1 y_int v rws := by
  unfold finish
  split
  · rename_i hc
    refine ⟨h, rfl, ⟨Nat.le_refl _, fun _ _ _ => rfl, ?_, a.le⟩, ?_⟩
    · rw [← get_of_pre hc.2 hb]
      exact a.at_
    · have hf := hc.1
      rcases o.is with ⟨rfl, rfl⟩ | ⟨c, _, _, rfl, _⟩
      · exact Own.nil
      · simp [flat, prim] at hf
  · exact ⟨h2, rfl, a, o⟩

theorem k_impl_group (hb : h[b]? = some (rdB y_reader s p)) (hs : s.size ≤ lim) (hp : p.1 ≤ s.size) :
    ∃ v hh, C T X n_impl_reader_group [pk b 0] h = some (.agg ⟨[v, .int .i64 (gStep Int.toNat s p).1.z]⟩, hh) ∧ Rdr b y_reader s h hh (gStep Int.toNat s p).2 ∧ Own hh h.length hh.length 1 y_int v (ints (gStep Int.toNat s p).1.ms) := by
  suffices hx : ∃ w hh, C T X n_impl_reader_group [pk b 0] h = some (w, hh) ∧ ∃ v, w = .agg ⟨[v, .int .i64 (gStep Int.toNat s p).1.z]⟩ ∧ Rdr b y_reader s h hh (gStep Int.toNat s p).2 ∧ Own hh h.length hh.length 1 y_int v (ints (gStep Int.toNat s p).1.ms) by
    obtain ⟨w, hh, c, v, rfl, r⟩ := hx
    exact ⟨v, hh, c, r⟩
  refine C_ex t_impl_reader_group rfl ?_
  have hbl := lt_of_get hb
  have hr0 := Rdr.refl hb hp
  have c0 := num_i (X := X) hr0 hs
  have hr1 := hr0.nums 1
  obtain ⟨h1, hh1⟩ : ∃ h1, h1 = h.set b (rdB y_reader s (sS s p 1)) := ⟨_, rfl⟩
  rw [← hh1] at c0 hr1
  have hl1 : h1.length = h.length := by rw [hh1, set_len]
  unfold F_impl_reader_group
  simp only [c0, go_sem, reduceIte, Nat.reduceEqDiff, Nat.reduceAdd, Nat.reduceMul, Nat.reduceLT, Nat.reduceLeDiff, reduceCtorEq, ne_eq, Int.reduceEq, Int.reduceLT, Int.reduceLE, Int.reduceNeg, Int.reduceToNat]
  have hrg := num_rng hp
  obtain ⟨N, hN⟩ : ∃ N : Nat, (numStep s p).1 = N := ⟨(numStep s p).1.toNat, by omega⟩
  have hN9 : N ≤ 1000000000 := by omega
  have hv0 : sV s p 0 = N := hN
  rw [hv0]
  have hq1 : sS s p 1 = (numStep s p).2 := rfl
  refine w_meas N (fun m t loc h' => m ≤ N ∧ t 0 = pk b 0 ∧ loc 2 = some [nilV, .int .i64 0] ∧ ∃ L q v, t 4 = .int .i64 (m : Nat) ∧ loc 3 = some [v, .int .i64 0] ∧ Rdr b y_reader s h h' q ∧ Own h' h.length h'.length 1 y_int v (ints L) ∧ RdTo (numStep s) N (numStep s p).2 L m q)
    ⟨Nat.le_refl _, rfl, rfl, [], _, _, rfl, rfl, hr1, Own.nil, RdTo.start⟩ ?_
  rintro k t loc h' ⟨hkN, t0, l2, L, q, v, t4, l3, hr, o, hto⟩
  have hpk : ∀ j, faV h' (pk b 0) j = some (pk b j) := fun j => rd_fa hr.at_
  by_cases hk : (k : Int) > 0
  · cases hq : q.2 with
    | false =>
      have cn := num_i (X := X) hr hs
      have hrn := hr.nums 1
      have o1 : Own (h'.set b (rdB y_reader s (sS s q 1))) h.length h'.length 1 y_int v (ints L) := o.num hbl
      obtain ⟨h2, hh2⟩ : ∃ h2, h2 = h'.set b (rdB y_reader s (sS s q 1)) := ⟨_, rfl⟩
      rw [← hh2] at cn hrn o1
      have hl2 : h2.length = h'.length := by rw [hh2, set_len]
      have hLN := hto.len
      rw [← hl2] at o1
      obtain ⟨v3, h3, c3, q1, q2, o3⟩ := o1.push1 hrn.len [.int .i64 (sV s q 0)] rfl (by rw [ints_len]; unfold lim; omega)
      have hw : IntKind.i64.wrap ((k : Int) - 1) = ((k - 1 : Nat) : Int) := by
        rw [w64 (by omega) (by omega)]
        omega
      simp only [t0, l2, l3, t4, hk, hpk, rd_chk hr.at_, rd_ld2 hr.at_, hq, cn, zeros, fillAt, c3, o3.cells, hw, go_sem, reduceIte, Nat.reduceEqDiff, Nat.reduceAdd, Nat.reduceMul, Nat.reduceLT, Nat.reduceLeDiff, reduceCtorEq, ne_eq, Int.reduceEq, Int.reduceLT, Int.reduceLE, Int.reduceNeg, Int.reduceToNat]
      have hkk : k = (k - 1) + 1 := by omega
      rw [hkk] at hto
      refine ⟨k - 1, by omega, by omega, L ++ [sV s q 0], sS s q 1, v3, rfl, rfl, hrn.push hbl q1 (fun c hc => q2 c (.inl hc)), ?_, hto.next hq⟩
      rw [Nat.max_eq_right q1] at o3
      simpa [ints] using o3
    | true =>
      have hd := hto.done (.inr hq)
      have hg : gStep Int.toNat s p = (⟨L, sV s q 0⟩, sS s q 1) := by
        unfold gStep
        rw [hN, Int.toNat_natCast, hd]
        rfl
      have cn := num_i (X := X) hr hs
      have hrn := hr.nums 1
      have o1 : Own (h'.set b (rdB y_reader s (sS s q 1))) h.length h'.length 1 y_int v (ints L) := o.num hbl
      obtain ⟨h2, hh2⟩ : ∃ h2, h2 = h'.set b (rdB y_reader s (sS s q 1)) := ⟨_, rfl⟩
      rw [← hh2] at cn hrn o1
      have hl2 : h2.length = h'.length := by rw [hh2, set_len]
      rw [← hl2] at o1
      obtain ⟨hf, e, f1, f2⟩ := fin_rdr (z := .int .i64 (sV s q 0)) hbl hrn o1
      simp only [t0, l2, l3, t4, hk, hpk, rd_chk hr.at_, rd_ld2 hr.at_, hq, cn, go_sem, reduceIte, Nat.reduceEqDiff, Nat.reduceAdd, Nat.reduceMul, Nat.reduceLT, Nat.reduceLeDiff, reduceCtorEq, ne_eq, Int.reduceEq, Int.reduceLT, Int.reduceLE, Int.reduceNeg, Int.reduceToNat]
      rw [e, hg]
      exact ⟨v, rfl, f1, f2⟩
  · have hk0 : k = 0 := by omega
    have hd := hto.done (.inl hk0)
    have hq : True := trivial
    have hg : gStep Int.toNat s p = (⟨L, sV s q 0⟩, sS s q 1) := by
      unfold gStep
      rw [hN, Int.toNat_natCast, hd]
      rfl
    have cn := num_i (X := X) hr hs
    have hrn := hr.nums 1
    have o1 : Own (h'.set b (rdB y_reader s (sS s q 1))) h.length h'.length 1 y_int v (ints L) := o.num hbl
    obtain ⟨h2, hh2⟩ : ∃ h2, h2 = h'.set b (rdB y_reader s (sS s q 1)) := ⟨_, rfl⟩
    rw [← hh2] at cn hrn o1
    have hl2 : h2.length = h'.length := by rw [hh2, set_len]
    rw [← hl2] at o1
    obtain ⟨hf, e, f1, f2⟩ := fin_rdr (z := .int .i64 (sV s q 0)) hbl hrn o1
    simp only [t0, l2, l3, t4, hk, hpk, rd_chk hr.at_, rd_ld2 hr.at_, hq, cn, go_sem, reduceIte, Nat.reduceEqDiff, Nat.reduceAdd, Nat.reduceMul, Nat.reduceLT, Nat.reduceLeDiff, reduceCtorEq, ne_eq, Int.reduceEq, Int.reduceLT, Int.reduceLE, Int.reduceNeg, Int.reduceToNat]
    rw [e, hg]
    exact ⟨v, rfl, f1, f2⟩

theorem bx_new {ty : TypeId} : bxW h ty 3 (.agg ⟨[.string s, .int .i64 0, .bool false]⟩) = some (pk h.length 0, h ++ [rdB ty s (0, false)]) := rfl

theorem k_impl_ReadCert (hs2 : s.size ≤ 1048576) : ∃ v hh, C T X n_impl_ReadCert [.string s] h = some (v, hh) ∧ h <+: hh ∧ ∃ ew mw yw gw, v = .tuple ⟨[certV (rdI s).size ew mw yw gw, .bool (rdI s).ok]⟩ ∧ ∃ i1 i2 i3 i4, (h.length ≤ i1 ∧ i1 ≤ i2 ∧ i2 ≤ i3 ∧ i3 ≤ i4 ∧ i4 ≤ hh.length) ∧ Own hh i1 i2 5 y_Edge ew (edges (rdI s).es) ∧ Own hh i2 i3 2 y_Couple mw (cps (rdI s).m) ∧ Own hh i3 i4 1 y_int yw (ints (rdI s).ys) ∧ OwnG hh i4 hh.length y_Group gw (rdI s).gs := by
  have hs : s.size ≤ lim := by unfold lim; omega
  refine C_ex t_impl_ReadCert rfl ?_
  obtain ⟨g, hg⟩ : ∃ g : Heap, g = h ++ [rdB y_reader s (0, false)] := ⟨_, rfl⟩
  have hbw : bxW h y_reader 3 (.agg ⟨[.string s, .int .i64 0, .bool false]⟩) = some (pk h.length 0, g) := by rw [hg]; rfl
  obtain ⟨b, hb⟩ : ∃ b, b = h.length := ⟨_, rfl⟩
  rw [← hb] at hbw
  have hgb : g[b]? = some (rdB y_reader s (0, false)) := by rw [hg, hb]; simp
  have hgl : g.length = b + 1 := by rw [hg, hb]; simp
  have hbl : b < g.length := by omega
  have hpg : h <+: g := by rw [hg]; exact List.prefix_append _ _
  have r0 : Rdr b y_reader s g g (0, false) := Rdr.refl hgb (Nat.zero_le _)
  have c1 := num_i (X := X) r0 hs
  have c2 := num_in (X := X) r0 hs 1
  have r2 := r0.nums 2
  obtain ⟨g2, hg2⟩ : ∃ g2, g2 = g.set b (rdB y_reader s (sS s (0, false) 2)) := ⟨_, rfl⟩
  rw [← hg2] at c2 r2
  have hz : sV s (0, false) 0 = (rz s).1 := rfl
  have hne : sV s (0, false) 1 = (rne s).1 := rfl
  have hq2 : sS s (0, false) 2 = (rne s).2 := rfl
  rw [hz] at c1
  rw [hne] at c2
  rw [hq2] at r2
  obtain ⟨size, hsz⟩ : ∃ z, z = (rz s).1 := ⟨_, rfl⟩
  rw [← hsz] at c1
  have hszr : 0 ≤ size ∧ size ≤ 1000000000 := by rw [hsz]; exact num_rng (Nat.zero_le _)
  have hner := num_rng (s := s) (q := (rz s).2) (numStep_le (Nat.zero_le _))
  rw [show numStep s (rz s).2 = rne s from rfl] at hner
  obtain ⟨N, hN⟩ : ∃ N : Nat, (rne s).1 = N := ⟨(rne s).1.toNat, by omega⟩
  have hN9 : N ≤ 1000000000 := by omega
  rw [hN] at c2
  have hre : re Int.toNat s = rdN (eStep s) N (rne s).2 := by unfold re; rw [hN, Int.toNat_natCast]
  unfold F_impl_ReadCert
  simp only [hbw, c1, c2, go_sem, reduceIte, Nat.reduceEqDiff, Nat.reduceAdd, Nat.reduceMul, Nat.reduceLT, Nat.reduceLeDiff, reduceCtorEq, ne_eq, Int.reduceEq, Int.reduceLT, Int.reduceLE, Int.reduceNeg, Int.reduceToNat]
  -- the edges
  refine w_measX 0 N (fun m t loc h' => m ≤ N ∧ t 4 = pk b 0 ∧ loc 2 = some [.int .i64 0, nilV, nilV, nilV, nilV] ∧ ∃ L q v, t 6 = .int .i64 (m : Nat) ∧ loc 5 = some [.int .i64 size, v, nilV, nilV, nilV] ∧ Rdr b y_reader s g2 h' q ∧ Own h' g2.length h'.length 5 y_Edge v (edges L) ∧ RdTo (eStep s) N (rne s).2 L m q)
    (fun t loc h' => t 4 = pk b 0 ∧ loc 2 = some [.int .i64 0, nilV, nilV, nilV, nilV] ∧ ∃ v, loc 5 = some [.int .i64 size, v, nilV, nilV, nilV] ∧ Rdr b y_reader s g2 h' (re Int.toNat s).2 ∧ Own h' g2.length h'.length 5 y_Edge v (edges (re Int.toNat s).1))
    ⟨Nat.le_refl _, rfl, rfl, [], _, _, rfl, rfl, Rdr.refl r2.at_ r2.le, Own.nil, RdTo.start⟩ ?_ ?_
  · rintro k t loc h' ⟨hkN, t4, l2, L, q, v, t6, l5, hr, o, hto⟩
    have hpk : ∀ j, faV h' (pk b 0) j = some (pk b j) := fun j => rd_fa hr.at_
    by_cases hk : (k : Int) > 0
    · cases hq : q.2 with
      | false =>
        have d0 := num_i (X := X) hr hs
        have d1 := num_in (X := X) hr hs 1
        have d2 := num_in (X := X) hr hs 2
        have d3 := num_in (X := X) hr hs 3
        have d4 := num_in (X := X) hr hs 4
        have hrn := hr.nums 5
        have hb2 : b < g2.length := lt_of_get r2.at_
        have o1 : Own (h'.set b (rdB y_reader s (sS s q 5))) g2.length h'.length 5 y_Edge v (edges L) := o.num hb2
        obtain ⟨h2, hh2⟩ : ∃ h2, h2 = h'.set b (rdB y_reader s (sS s q 5)) := ⟨_, rfl⟩
        rw [← hh2] at d4 hrn o1
        have hl2 : h2.length = h'.length := by rw [hh2, set_len]
        have hLN := hto.len
        rw [← hl2] at o1
        obtain ⟨v3, h3, c3, q1, q2, o3⟩ := o1.push1 hrn.len (edgeR (eStep s q).1) rfl (by rw [List.length_map]; unfold lim; omega)
        have hw : IntKind.i64.wrap ((k : Int) - 1) = ((k - 1 : Nat) : Int) := by
          rw [w64 (by omega) (by omega)]
          omega
        unfold edgeR eStep at c3
        simp only [t4, l2, l5, t6, hk, hpk, rd_chk hr.at_, rd_ld2 hr.at_, hq, d0, d1, d2, d3, d4, zeros, fillAt, c3, o3.cells, hw, go_sem, reduceIte, Nat.reduceEqDiff, Nat.reduceAdd, Nat.reduceMul, Nat.reduceLT, Nat.reduceLeDiff, reduceCtorEq, ne_eq, Int.reduceEq, Int.reduceLT, Int.reduceLE, Int.reduceNeg, Int.reduceToNat]
        have hkk : k = (k - 1) + 1 := by omega
        rw [hkk] at hto
        refine ⟨k - 1, by omega, by omega, L ++ [(eStep s q).1], sS s q 5, v3, rfl, rfl, hrn.push hb2 q1 (fun c hc => q2 c (.inl hc)), ?_, hto.next hq⟩
        rw [Nat.max_eq_right q1] at o3
        simpa using o3
      | true =>
        have hd := hto.done (.inr hq)
        simp only [t4, l2, l5, t6, hk, hpk, rd_chk hr.at_, rd_ld2 hr.at_, hq, go_sem, reduceIte, Nat.reduceEqDiff, Nat.reduceAdd, Nat.reduceMul, Nat.reduceLT, Nat.reduceLeDiff, reduceCtorEq, ne_eq, Int.reduceEq, Int.reduceLT, Int.reduceLE, Int.reduceNeg, Int.reduceToNat]
        rw [hre, hd]
        exact ⟨v, rfl, hr, o⟩
    · have hd := hto.done (.inl (by omega))
      simp only [t4, l2, l5, t6, hk, hpk, go_sem, reduceIte, Nat.reduceEqDiff, Nat.reduceAdd, Nat.reduceMul, Nat.reduceLT, Nat.reduceLeDiff, reduceCtorEq, ne_eq, Int.reduceEq, Int.reduceLT, Int.reduceLE, Int.reduceNeg, Int.reduceToNat]
      rw [hre, hd]
      exact ⟨v, rfl, hr, o⟩
  rintro t loc g3 ⟨t4, l2, ev, l5, r3, oe⟩
  have hb3 : b < g3.length := lt_of_get r3.at_
  have n1 := num_i (X := X) r3 hs
  rw [show sV s (re Int.toNat s).2 0 = (rnm Int.toNat s).1 from rfl] at n1
  have r4' := r3.nums 1
  obtain ⟨g4, hg4⟩ : ∃ g4, g4 = g3.set b (rdB y_reader s (sS s (re Int.toNat s).2 1)) := ⟨_, rfl⟩
  have oe4 : Own g4 g2.length g3.length 5 y_Edge ev (edges (re Int.toNat s).1) := by rw [hg4]; exact oe.num (lt_of_get r2.at_)
  rw [← hg4] at n1 r4'
  have hl4 : g4.length = g3.length := by rw [hg4, set_len]
  rw [show sS s (re Int.toNat s).2 1 = (rnm Int.toNat s).2 from rfl] at r4'
  have r4 : Rdr b y_reader s g4 g4 (rnm Int.toNat s).2 := Rdr.refl r4'.at_ r4'.le
  have hmr := num_rng (s := s) (q := (re Int.toNat s).2) r3.le
  rw [show numStep s (re Int.toNat s).2 = rnm Int.toNat s from rfl] at hmr
  obtain ⟨M, hM⟩ : ∃ M : Nat, (rnm Int.toNat s).1 = M := ⟨(rnm Int.toNat s).1.toNat, by omega⟩
  have hM9 : M ≤ 1000000000 := by omega
  rw [hM] at n1
  have hrm : rm Int.toNat s = rdN (cStep s) M (rnm Int.toNat s).2 := by unfold rm; rw [hM, Int.toNat_natCast]
  simp only [t4, l2, l5, n1, go_sem, reduceIte, Nat.reduceEqDiff, Nat.reduceAdd, Nat.reduceMul, Nat.reduceLT, Nat.reduceLeDiff, reduceCtorEq, ne_eq, Int.reduceEq, Int.reduceLT, Int.reduceLE, Int.reduceNeg, Int.reduceToNat]
  -- the couples
  have hb4 : b < g4.length := by omega
  refine w_measX 2 M (fun m t loc h' => m ≤ M ∧ t 4 = pk b 0 ∧ loc 2 = some [.int .i64 0, nilV, nilV, nilV, nilV] ∧ ∃ L q v, t 6 = .int .i64 (m : Nat) ∧ loc 5 = some [.int .i64 size, ev, v, nilV, nilV] ∧ Rdr b y_reader s g4 h' q ∧ Own h' g4.length h'.length 2 y_Couple v (cps L) ∧ RdTo (cStep s) M (rnm Int.toNat s).2 L m q)
    (fun t loc h' => t 4 = pk b 0 ∧ loc 2 = some [.int .i64 0, nilV, nilV, nilV, nilV] ∧ ∃ v, loc 5 = some [.int .i64 size, ev, v, nilV, nilV] ∧ Rdr b y_reader s g4 h' (rm Int.toNat s).2 ∧ Own h' g4.length h'.length 2 y_Couple v (cps (rm Int.toNat s).1))
    ⟨Nat.le_refl _, rfl, rfl, [], _, _, rfl, rfl, r4, Own.nil, RdTo.start⟩ ?_ ?_
  · rintro k t loc h' ⟨hkN, t4, l2, L, q, v, t6, l5, hr, o, hto⟩
    have hpk : ∀ j, faV h' (pk b 0) j = some (pk b j) := fun j => rd_fa hr.at_
    by_cases hk : (k : Int) > 0
    · cases hq : q.2 with
      | false =>
        have d0 := num_i (X := X) hr hs
        have d1 := num_in (X := X) hr hs 1
        have hrn := hr.nums 2
        have o1 : Own (h'.set b (rdB y_reader s (sS s q 2))) g4.length h'.length 2 y_Couple v (cps L) := o.num hb4
        obtain ⟨h2, hh2⟩ : ∃ h2, h2 = h'.set b (rdB y_reader s (sS s q 2)) := ⟨_, rfl⟩
        rw [← hh2] at d1 hrn o1
        have hl2 : h2.length = h'.length := by rw [hh2, set_len]
        have hLN := hto.len
        rw [← hl2] at o1
        obtain ⟨v3, h3, c3, q1, q2, o3⟩ := o1.push1 hrn.len (cpR (cStep s q).1) rfl (by rw [List.length_map]; unfold lim; omega)
        have hw : IntKind.i64.wrap ((k : Int) - 1) = ((k - 1 : Nat) : Int) := by
          rw [w64 (by omega) (by omega)]
          omega
        unfold cpR cStep at c3
        simp only [t4, l2, l5, t6, hk, hpk, rd_chk hr.at_, rd_ld2 hr.at_, hq, d0, d1, zeros, fillAt, c3, o3.cells, hw, go_sem, reduceIte, Nat.reduceEqDiff, Nat.reduceAdd, Nat.reduceMul, Nat.reduceLT, Nat.reduceLeDiff, reduceCtorEq, ne_eq, Int.reduceEq, Int.reduceLT, Int.reduceLE, Int.reduceNeg, Int.reduceToNat]
        have hkk : k = (k - 1) + 1 := by omega
        rw [hkk] at hto
        refine ⟨k - 1, by omega, by omega, L ++ [(cStep s q).1], sS s q 2, v3, rfl, rfl, hrn.push hb4 q1 (fun c hc => q2 c (.inl hc)), ?_, hto.next hq⟩
        rw [Nat.max_eq_right q1] at o3
        simpa using o3
      | true =>
        have hd := hto.done (.inr hq)
        simp only [t4, l2, l5, t6, hk, hpk, rd_chk hr.at_, rd_ld2 hr.at_, hq, go_sem, reduceIte, Nat.reduceEqDiff, Nat.reduceAdd, Nat.reduceMul, Nat.reduceLT, Nat.reduceLeDiff, reduceCtorEq, ne_eq, Int.reduceEq, Int.reduceLT, Int.reduceLE, Int.reduceNeg, Int.reduceToNat]
        rw [hrm, hd]
        exact ⟨v, rfl, hr, o⟩
    · have hd := hto.done (.inl (by omega))
      simp only [t4, l2, l5, t6, hk, hpk, go_sem, reduceIte, Nat.reduceEqDiff, Nat.reduceAdd, Nat.reduceMul, Nat.reduceLT, Nat.reduceLeDiff, reduceCtorEq, ne_eq, Int.reduceEq, Int.reduceLT, Int.reduceLE, Int.reduceNeg, Int.reduceToNat]
      rw [hrm, hd]
      exact ⟨v, rfl, hr, o⟩
  rintro t loc g5 ⟨t4, l2, mv, l5, r5, om⟩
  have hb5 : b < g5.length := lt_of_get r5.at_
  have r5s : Rdr b y_reader s g5 g5 (rm Int.toNat s).2 := Rdr.refl r5.at_ r5.le
  obtain ⟨Y, hY⟩ : ∃ Y : Nat, size = Y := ⟨size.toNat, by omega⟩
  have hY9 : Y ≤ 1000000000 := by omega
  have hry : ry Int.toNat s = rdN (numStep s) Y (rm Int.toNat s).2 := by unfold ry; rw [← hsz, hY, Int.toNat_natCast]
  simp only [t4, l2, l5, hY, go_sem, reduceIte, Nat.reduceEqDiff, Nat.reduceAdd, Nat.reduceMul, Nat.reduceLT, Nat.reduceLeDiff, reduceCtorEq, ne_eq, Int.reduceEq, Int.reduceLT, Int.reduceLE, Int.reduceNeg, Int.reduceToNat]
  -- the numbers of the vertices
  refine w_measX 4 Y (fun m t loc h' => m ≤ Y ∧ t 4 = pk b 0 ∧ loc 2 = some [.int .i64 0, nilV, nilV, nilV, nilV] ∧ ∃ L q v, t 9 = .int .i64 (m : Nat) ∧ loc 5 = some [.int .i64 Y, ev, mv, v, nilV] ∧ Rdr b y_reader s g5 h' q ∧ Own h' g5.length h'.length 1 y_int v (ints L) ∧ RdTo (numStep s) Y (rm Int.toNat s).2 L m q)
    (fun t loc h' => t 4 = pk b 0 ∧ loc 2 = some [.int .i64 0, nilV, nilV, nilV, nilV] ∧ ∃ v, loc 5 = some [.int .i64 Y, ev, mv, v, nilV] ∧ Rdr b y_reader s g5 h' (ry Int.toNat s).2 ∧ Own h' g5.length h'.length 1 y_int v (ints (ry Int.toNat s).1))
    ⟨Nat.le_refl _, rfl, rfl, [], _, _, rfl, rfl, r5s, Own.nil, RdTo.start⟩ ?_ ?_
  · rintro k t loc h' ⟨hkN, t4, l2, L, q, v, t9, l5, hr, o, hto⟩
    have hpk : ∀ j, faV h' (pk b 0) j = some (pk b j) := fun j => rd_fa hr.at_
    by_cases hk : (k : Int) > 0
    · cases hq : q.2 with
      | false =>
        have d0 := num_i (X := X) hr hs
        have hrn := hr.nums 1
        have o1 : Own (h'.set b (rdB y_reader s (sS s q 1))) g5.length h'.length 1 y_int v (ints L) := o.num hb5
        obtain ⟨h2, hh2⟩ : ∃ h2, h2 = h'.set b (rdB y_reader s (sS s q 1)) := ⟨_, rfl⟩
        rw [← hh2] at d0 hrn o1
        have hl2 : h2.length = h'.length := by rw [hh2, set_len]
        have hLN := hto.len
        rw [← hl2] at o1
        obtain ⟨v3, h3, c3, q1, q2, o3⟩ := o1.push1 hrn.len [.int .i64 (sV s q 0)] rfl (by rw [ints_len]; unfold lim; omega)
        have hw : IntKind.i64.wrap ((k : Int) - 1) = ((k - 1 : Nat) : Int) := by
          rw [w64 (by omega) (by omega)]
          omega
        simp only [t4, l2, l5, t9, hk, hpk, rd_chk hr.at_, rd_ld2 hr.at_, hq, d0, zeros, fillAt, c3, o3.cells, hw, go_sem, reduceIte, Nat.reduceEqDiff, Nat.reduceAdd, Nat.reduceMul, Nat.reduceLT, Nat.reduceLeDiff, reduceCtorEq, ne_eq, Int.reduceEq, Int.reduceLT, Int.reduceLE, Int.reduceNeg, Int.reduceToNat]
        have hkk : k = (k - 1) + 1 := by omega
        rw [hkk] at hto
        refine ⟨k - 1, by omega, by omega, L ++ [sV s q 0], sS s q 1, v3, rfl, rfl, hrn.push hb5 q1 (fun c hc => q2 c (.inl hc)), ?_, hto.next hq⟩
        rw [Nat.max_eq_right q1] at o3
        simpa [ints] using o3
      | true =>
        have hd := hto.done (.inr hq)
        simp only [t4, l2, l5, t9, hk, hpk, rd_chk hr.at_, rd_ld2 hr.at_, hq, go_sem, reduceIte, Nat.reduceEqDiff, Nat.reduceAdd, Nat.reduceMul, Nat.reduceLT, Nat.reduceLeDiff, reduceCtorEq, ne_eq, Int.reduceEq, Int.reduceLT, Int.reduceLE, Int.reduceNeg, Int.reduceToNat]
        rw [hry, hd]
        exact ⟨v, rfl, hr, o⟩
    · have hd := hto.done (.inl (by omega))
      simp only [t4, l2, l5, t9, hk, hpk, go_sem, reduceIte, Nat.reduceEqDiff, Nat.reduceAdd, Nat.reduceMul, Nat.reduceLT, Nat.reduceLeDiff, reduceCtorEq, ne_eq, Int.reduceEq, Int.reduceLT, Int.reduceLE, Int.reduceNeg, Int.reduceToNat]
      rw [hry, hd]
      exact ⟨v, rfl, hr, o⟩
  rintro t loc g6 ⟨t4, l2, yv, l5, r6, oy⟩
  have hb6 : b < g6.length := lt_of_get r6.at_
  have n2 := num_i (X := X) r6 hs
  rw [show sV s (ry Int.toNat s).2 0 = (rgn Int.toNat s).1 from rfl] at n2
  have r7' := r6.nums 1
  obtain ⟨g7, hg7⟩ : ∃ g7, g7 = g6.set b (rdB y_reader s (sS s (ry Int.toNat s).2 1)) := ⟨_, rfl⟩
  have oy7 : Own g7 g5.length g6.length 1 y_int yv (ints (ry Int.toNat s).1) := by rw [hg7]; exact oy.num hb5
  rw [← hg7] at n2 r7'
  have hl7 : g7.length = g6.length := by rw [hg7, set_len]
  have hb7 : b < g7.length := by omega
  rw [show sS s (ry Int.toNat s).2 1 = (rgn Int.toNat s).2 from rfl] at r7'
  have r7 : Rdr b y_reader s g7 g7 (rgn Int.toNat s).2 := Rdr.refl r7'.at_ r7'.le
  have hgr := num_rng (s := s) (q := (ry Int.toNat s).2) r6.le
  rw [show numStep s (ry Int.toNat s).2 = rgn Int.toNat s from rfl] at hgr
  obtain ⟨G, hG⟩ : ∃ G : Nat, (rgn Int.toNat s).1 = G := ⟨(rgn Int.toNat s).1.toNat, by omega⟩
  have hG9 : G ≤ 1000000000 := by omega
  rw [hG] at n2
  have hrgs : rg Int.toNat s = rdN (gStep Int.toNat s) G (rgn Int.toNat s).2 := by unfold rg; rw [hG, Int.toNat_natCast]
  simp only [t4, l2, l5, n2, go_sem, reduceIte, Nat.reduceEqDiff, Nat.reduceAdd, Nat.reduceMul, Nat.reduceLT, Nat.reduceLeDiff, reduceCtorEq, ne_eq, Int.reduceEq, Int.reduceLT, Int.reduceLE, Int.reduceNeg, Int.reduceToNat]
  -- the groups
  refine w_measX 6 G (fun m t loc h' => m ≤ G ∧ t 4 = pk b 0 ∧ loc 2 = some [.int .i64 0, nilV, nilV, nilV, nilV] ∧ ∃ L q v, t 6 = .int .i64 (m : Nat) ∧ loc 5 = some [.int .i64 Y, ev, mv, yv, v] ∧ Rdr b y_reader s g7 h' q ∧ OwnG h' g7.length h'.length y_Group v L ∧ RdTo (gStep Int.toNat s) G (rgn Int.toNat s).2 L m q)
    (fun t loc h' => t 4 = pk b 0 ∧ loc 2 = some [.int .i64 0, nilV, nilV, nilV, nilV] ∧ ∃ v, loc 5 = some [.int .i64 Y, ev, mv, yv, v] ∧ Rdr b y_reader s g7 h' (rg Int.toNat s).2 ∧ OwnG h' g7.length h'.length y_Group v (rg Int.toNat s).1)
    ⟨Nat.le_refl _, rfl, rfl, [], _, _, rfl, rfl, r7, OwnG.nil, RdTo.start⟩ ?_ ?_
  · rintro k t loc h' ⟨hkN, t4, l2, L, q, v, t6, l5, hr, o, hto⟩
    have hpk : ∀ j, faV h' (pk b 0) j = some (pk b j) := fun j => rd_fa hr.at_
    by_cases hk : (k : Int) > 0
    · cases hq : q.2 with
      | false =>
        obtain ⟨x, h2, d0, hrx, ox⟩ := k_impl_group (X := X) hr.at_ hs hr.le
        have hrn := hr.trans hrx
        have o1 : OwnG h2 g7.length h'.length y_Group v L := o.rdr hrx hb7 (Nat.le_refl _)
        have hLN := hto.len
        obtain ⟨v3, h3, c3, q1, q2, o3⟩ := o1.push (z := (gStep Int.toNat s q).1.z) hrn.len hrx.len ox hr.len (Nat.le_refl _) (Nat.le_refl _) (by unfold lim; omega)
        have hw : IntKind.i64.wrap ((k : Int) - 1) = ((k - 1 : Nat) : Int) := by
          rw [w64 (by omega) (by omega)]
          omega
        simp only [t4, l2, l5, t6, hk, hpk, rd_chk hr.at_, rd_ld2 hr.at_, hq, d0, ox.cells, zeros, fillAt, c3, o3.cells', hw, go_sem, reduceIte, Nat.reduceEqDiff, Nat.reduceAdd, Nat.reduceMul, Nat.reduceLT, Nat.reduceLeDiff, reduceCtorEq, ne_eq, Int.reduceEq, Int.reduceLT, Int.reduceLE, Int.reduceNeg, Int.reduceToNat]
        have hkk : k = (k - 1) + 1 := by omega
        rw [hkk] at hto
        exact ⟨k - 1, by omega, by omega, L ++ [(gStep Int.toNat s q).1], (gStep Int.toNat s q).2, v3, rfl, rfl, hrn.push hb7 q1 q2, o3, hto.next hq⟩
      | true =>
        have hd := hto.done (.inr hq)
        simp only [t4, l2, l5, t6, hk, hpk, rd_chk hr.at_, rd_ld2 hr.at_, hq, go_sem, reduceIte, Nat.reduceEqDiff, Nat.reduceAdd, Nat.reduceMul, Nat.reduceLT, Nat.reduceLeDiff, reduceCtorEq, ne_eq, Int.reduceEq, Int.reduceLT, Int.reduceLE, Int.reduceNeg, Int.reduceToNat]
        rw [hrgs, hd]
        exact ⟨v, rfl, hr, o⟩
    · have hd := hto.done (.inl (by omega))
      simp only [t4, l2, l5, t6, hk, hpk, go_sem, reduceIte, Nat.reduceEqDiff, Nat.reduceAdd, Nat.reduceMul, Nat.reduceLT, Nat.reduceLeDiff, reduceCtorEq, ne_eq, Int.reduceEq, Int.reduceLT, Int.reduceLE, Int.reduceNeg, Int.reduceToNat]
      rw [hrgs, hd]
      exact ⟨v, rfl, hr, o⟩
  rintro t loc g8 ⟨t4, l2, gv, l5, r8, og⟩
  have ce := k_impl_ends (X := X) r8.at_
  -- all of one's own
  have lenA : g.length ≤ g2.length := by rw [hg2, set_len]; exact Nat.le_refl _
  have len8 := r8.len
  have len6 := r6.len
  have len5 := r5.len
  have len3 := r3.len
  have hpg8 : h <+: g8 := by
    have k2 : ∀ c, c < h.length → g2[c]? = h[c]? := fun c hc => by
      rw [hg2, List.getElem?_set_ne (by omega), hg, List.getElem?_append_left hc]
    have k3 : ∀ c, c < h.length → g3[c]? = h[c]? := fun c hc => by rw [r3.old c (by omega) (by omega), k2 c hc]
    have k4 : ∀ c, c < h.length → g4[c]? = h[c]? := fun c hc => by rw [hg4, List.getElem?_set_ne (by omega), k3 c hc]
    have k5 : ∀ c, c < h.length → g5[c]? = h[c]? := fun c hc => by rw [r5.old c (by omega) (by omega), k4 c hc]
    have k6 : ∀ c, c < h.length → g6[c]? = h[c]? := fun c hc => by rw [r6.old c (by omega) (by omega), k5 c hc]
    have k7 : ∀ c, c < h.length → g7[c]? = h[c]? := fun c hc => by rw [hg7, List.getElem?_set_ne (by omega), k6 c hc]
    exact pre_of_get (by omega) fun c hc => by rw [r8.old c (by omega) (by omega), k7 c hc]
  have hbg2 : b < g2.length := by omega
  have oe8 : Own g8 g2.length g3.length 5 y_Edge ev (edges (re Int.toNat s).1) := by
    have a5 := oe4.rdr r5 hbg2 (by omega)
    have a6 := a5.rdr r6 hbg2 (by omega)
    have a7 : Own g7 g2.length g3.length 5 y_Edge ev (edges (re Int.toNat s).1) := by rw [hg7]; exact a6.num hbg2
    exact a7.rdr r8 hbg2 (by omega)
  have om8 : Own g8 g4.length g5.length 2 y_Couple mv (cps (rm Int.toNat s).1) := by
    have a6 := om.rdr r6 hb4 (by omega)
    have a7 : Own g7 g4.length g5.length 2 y_Couple mv (cps (rm Int.toNat s).1) := by rw [hg7]; exact a6.num hb4
    exact a7.rdr r8 hb4 (by omega)
  have oy8 : Own g8 g5.length g6.length 1 y_int yv (ints (ry Int.toNat s).1) := oy7.rdr r8 hb5 (by omega)
  by_cases ok : CokI s
  · have hR : rdI s = ⟨(rz s).1, (re Int.toNat s).1, (rm Int.toNat s).1, (ry Int.toNat s).1, (rg Int.toNat s).1, true⟩ := if_pos ok
    obtain ⟨k1, k2, k3, k4⟩ := read_bnd ok.1
    have cc := k_impl_Certifies (X := X) (size := (Y : Int)) oe8.rows om8.rows oy8.rows og.rows (by have := (cert_lens ok.2.2).2.1; unfold lim; omega) (by omega) ⟨by omega, by omega, fun x hx => by have := k4 x hx; omega⟩
    have hcy : CertOk (Y : Int) (re Int.toNat s).1 (rm Int.toNat s).1 (ry Int.toNat s).1 (rg Int.toNat s).1 := by rw [← hY, hsz]; exact ok.2.2
    unfold graphV proofV at cc
    have e1 : (rg Int.toNat s).2.2 = false := ok.1
    have e2 : ((rg Int.toNat s).2.1 = s.size) = True := eq_true ok.2.1
    have ce' : C T X n_impl_reader_ends [pk b 0] g8 = some (.bool true, g8) := by rw [ce, e1, ok.2.1]; simp
    simp only [t4, l2, l5, ce', cc, hcy, go_sem, reduceIte, Nat.reduceEqDiff, Nat.reduceAdd, Nat.reduceMul, Nat.reduceLT, Nat.reduceLeDiff, reduceCtorEq, ne_eq, Int.reduceEq, Int.reduceLT, Int.reduceLE, Int.reduceNeg, Int.reduceToNat]
    rw [hR]
    simp only
    rw [← hsz, hY]
    obtain ⟨hh, e, p1, hc⟩ := finish_cases (v := .tuple ⟨[.agg ⟨[.int .i64 (Y : Int), ev, mv, yv, gv]⟩, .bool true]⟩) hpg8
    rw [e]
    dsimp only
    rcases hc with rfl | ⟨hf, rfl⟩
    · exact ⟨p1, ev, mv, yv, gv, rfl, g2.length, g3.length, g5.length, g6.length, ⟨by omega, by omega, by omega, by omega, by omega⟩, oe8, om8.wide (by omega) (Nat.le_refl _), oy8, og.wide (by omega) (Nat.le_refl _)⟩
    · have hf' : prim ev = true ∧ prim mv = true ∧ prim yv = true ∧ prim gv = true := by simpa [flat, flat1, prim] using hf
      exact ⟨p1, ev, mv, yv, gv, rfl, List.length hh, List.length hh, List.length hh, List.length hh, ⟨by omega, by omega, by omega, by omega, pre_len p1⟩, oe8.flatP hf'.1, om8.flatP hf'.2.1, oy8.flatP hf'.2.2.1, og.flatG hf'.2.2.2⟩
  · have hR : rdI s = ⟨0, [], [], [], [], false⟩ := if_neg ok
    by_cases e1 : (!(rg Int.toNat s).2.2 && decide ((rg Int.toNat s).2.1 = s.size)) = true
    · have e2 : (rg Int.toNat s).2.2 = false ∧ (rg Int.toNat s).2.1 = s.size := by simpa using e1
      obtain ⟨k1, k2, k3, k4⟩ := read_bnd e2.1
      have hnl : (re Int.toNat s).1.length ≤ N := by rw [hre]; exact rdN_len
      have cc := k_impl_Certifies (X := X) (size := (Y : Int)) oe8.rows om8.rows oy8.rows og.rows (by unfold lim; omega) (by omega) ⟨by omega, by omega, fun x hx => by have := k4 x hx; omega⟩
      have hcy : ¬ CertOk (Y : Int) (re Int.toNat s).1 (rm Int.toNat s).1 (ry Int.toNat s).1 (rg Int.toNat s).1 := by rw [← hY, hsz]; exact fun k => ok ⟨e2.1, e2.2, k⟩
      unfold graphV proofV at cc
      have ce' : C T X n_impl_reader_ends [pk b 0] g8 = some (.bool true, g8) := by rw [ce, e1]
      simp only [t4, l2, l5, ce', cc, hcy, go_sem, reduceIte, Nat.reduceEqDiff, Nat.reduceAdd, Nat.reduceMul, Nat.reduceLT, Nat.reduceLeDiff, reduceCtorEq, ne_eq, Int.reduceEq, Int.reduceLT, Int.reduceLE, Int.reduceNeg, Int.reduceToNat]
      rw [finish_flat rfl hpg8, hR]
      exact ⟨List.prefix_refl _, nilV, nilV, nilV, nilV, rfl, h.length, h.length, h.length, h.length, ⟨Nat.le_refl _, Nat.le_refl _, Nat.le_refl _, Nat.le_refl _, Nat.le_refl _⟩, Own.nil, Own.nil, Own.nil, OwnG.nil⟩
    · have ce' : C T X n_impl_reader_ends [pk b 0] g8 = some (.bool false, g8) := by rw [ce]; simp only [Bool.not_eq_true] at e1; rw [e1]
      simp only [t4, l2, l5, ce', go_sem, reduceIte, Nat.reduceEqDiff, Nat.reduceAdd, Nat.reduceMul, Nat.reduceLT, Nat.reduceLeDiff, reduceCtorEq, ne_eq, Int.reduceEq, Int.reduceLT, Int.reduceLE, Int.reduceNeg, Int.reduceToNat]
      rw [finish_flat rfl hpg8, hR]
      exact ⟨List.prefix_refl _, nilV, nilV, nilV, nilV, rfl, h.length, h.length, h.length, h.length, ⟨Nat.le_refl _, Nat.le_refl _, Nat.le_refl _, Nat.le_refl _, Nat.le_refl _⟩, Own.nil, Own.nil, Own.nil, OwnG.nil⟩
end
end Go.Proofs.Ytioogligololoaa.Ab
