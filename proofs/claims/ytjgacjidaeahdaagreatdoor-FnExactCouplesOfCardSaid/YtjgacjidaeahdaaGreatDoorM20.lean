/- Joined: K61, K62, Op3, LFnExactCouplesOf. No conditions. -/
import Derived.Test.YtjgacjidaeahdaaGreatDoorM19
import Derived.Test.YtjgacjidaeahdaaGreatDoorM12
import Derived.Test.YtjgacjidaeahdaaGreatDoorM4
import Derived.Test.YtjgacjidaeahdaaGreatDoorM15
set_option linter.unusedSimpArgs false
set_option linter.unusedVariables false
set_option linter.unnecessarySimpa false
set_option maxHeartbeats 4000000
namespace Go.Proofs.YtjgacjidaeahdaaGreatDoor.Ab
open Go.RowKit
/-- A round that is there. -/
def RIn (m : List Pr) (r : Int) : Prop := StI cfR m ∧ ∃ R n : Nat, IsRnd m R ∧ r = (n : Int) ∧ n < R
open Classical in
noncomputable def roundC (m : List Pr) (r : Int) : CT := if RIn m r then rdI (textS m r.toNat) else ⟨0, [], [], [], [], false⟩
def poolT (m : List Pr) (r : Nat) : ByteArray := (getK m (qK r)).getD noT
open Classical in
noncomputable def roundP (m : List Pr) (r : Int) : List Int := if RIn m r then bytL (poolT m r.toNat) else []
/-- What is told of a round, in memory of its own. -/
def RndA (h hh : Heap) (v : Value) (P : List Int) (c : CT) : Prop :=
  ∃ pv ew mw yw gw, v = .tuple ⟨[pv, certV c.size ew mw yw gw, .bool c.ok]⟩ ∧ ∃ i0 i1 i2 i3 i4, (h.length ≤ i0 ∧ i0 ≤ i1 ∧ i1 ≤ i2 ∧ i2 ≤ i3 ∧ i3 ≤ i4 ∧ i4 ≤ hh.length) ∧ Own hh h.length i0 1 y_int pv (ints P) ∧ Own hh i1 i2 5 y_Edge ew (edges c.es) ∧ Own hh i2 i3 2 y_Couple mw (cps c.m) ∧ Own hh i3 i4 1 y_int yw (ints c.ys) ∧ OwnG hh i4 hh.length y_Group gw c.gs
/-- The same, of which it is not asked where it lies. -/
def RndW (h hh : Heap) (v : Value) (P : List Int) (c : CT) : Prop :=
  ∃ pv ew mw yw gw, v = .tuple ⟨[pv, certV c.size ew mw yw gw, .bool c.ok]⟩ ∧ Own hh h.length hh.length 1 y_int pv (ints P) ∧ Own hh h.length hh.length 5 y_Edge ew (edges c.es) ∧ Own hh h.length hh.length 2 y_Couple mw (cps c.m) ∧ Own hh h.length hh.length 1 y_int yw (ints c.ys) ∧ OwnG hh h.length hh.length y_Group gw c.gs
theorem RndA.weak {h hh : Heap} {v : Value} {P : List Int} {c : CT} (a : RndA h hh v P c) : RndW h hh v P c := by
  obtain ⟨pv, ew, mw, yw, gw, rfl, i0, i1, i2, i3, i4, hi, o0, o1, o2, o3, o4⟩ := a
  exact ⟨pv, ew, mw, yw, gw, rfl, o0.wide (Nat.le_refl _) (by omega), o1.wide (by omega) (by omega), o2.wide (by omega) (by omega), o3.wide (by omega) (by omega), o4.wide (by omega) (Nat.le_refl _)⟩
theorem Own.fl1 {h : Heap} {lo hi sz : Nat} {ty : TypeId} {v : Value} {rws : List (List Value)} (o : Own h lo hi sz ty v rws) (hf : flat1 v = true) : prim v = true := by
  rcases o.is with ⟨rfl, rfl⟩ | ⟨b, _, _, rfl, _⟩
  · rfl
  · exact hf
section
variable {X : CallF} [LibX X] {h : Heap} {m : List Pr} {mv : Value} {R : Nat} {r : Int}
theorem rin_facts (k : RIn m r) (hR : IsRnd m R) : ∃ n : Nat, r = n ∧ n < R ∧ StI cfR m ∧ (∃ w, getK m (qK n) = some w ∧ PoolIs m w ∧ (rdI (textS m n)).ok = true ∧ (rdI (textS m n)).size = (w.size : Int)) := by
  obtain ⟨st, R', n, h1, h2, h3⟩ := k
  obtain rfl := h1.one hR
  refine ⟨n, h2, h3, st, ?_⟩
  obtain ⟨w, p, k1, k2, k3, k4, k5⟩ := st_round st hR h3
  rw [← st_text st hR h3 k3] at k5
  exact ⟨w, k1, k2, k5.1, k5.2⟩
theorem k_impl_RoundOf (hm : Rows h 2 mv (prsL m)) (hl : m.length ≤ lim) : ∃ v hh, C T X n_impl_RoundOf [mv, .int .i64 r] h = some (v, hh) ∧ h <+: hh ∧ RndA h hh v (roundP m r) (roundC m r) := by
  refine C_ex t_impl_RoundOf rfl ?_
  unfold F_impl_RoundOf
  have c := k_impl_StateOk (X := X) hm hl
  unfold roundP roundC
  obtain ⟨R, hR⟩ := rnd_ex m
  by_cases st : StI cfR m
  · rw [tB_t st] at c
    have hR6 := st_rnd st hR
    have h4 := k_impl_roundsOf (X := X) hm hl hR
    rw [show min R 7 = R by omega] at h4
    have w1 : IntKind.i64.wrap ((R : Int) - 1) = (R : Int) - 1 := w64 (by omega) (by omega)
    by_cases k : RIn m r
    · rw [if_pos k, if_pos k]
      obtain ⟨n, rfl, hn, _, w, hw, hpi, hok, hsz⟩ := rin_facts k hR
      obtain ⟨_, np, _, _, hparts, _⟩ := st_round st hR hn
      have hmv := mapIs_v st.1
      have c1 : decide ((0 : Int) ≤ (n : Int)) = true := decide_eq_true (by omega)
      have c2 : decide ((n : Int) ≤ (R : Int) - 1) = true := decide_eq_true (by omega)
      have h2 := k_impl_two (X := X) (h := h) (n := n) (by omega)
      have hz := twoT_size (n := n) (by omega)
      have hz1 : (⟨[113]⟩ : Array UInt8).size + (twoT n).size ≤ 9223372036854775807 := by rw [asz]; omega
      have hg := k_impl_get (X := X) (k := qK n) hm hl
      unfold getV at hg
      rw [hw] at hg
      simp only [Option.getD_some, Option.isSome_some] at hg
      have hP : poolT m (n : Int).toNat = w := by unfold poolT; rw [Int.toNat_natCast, hw]; rfl
      rw [hP, Int.toNat_natCast]
      have hws := hpi.1
      simp only [c, h4, w1, k_impl_in, c1, c2, h2, hz1, qK_app, hg, zeros, fillAt, go_sem]
      refine w_for w.size (fun i t loc h' => t 0 = mv ∧ t 1 = .int .i64 (n : Int) ∧ t 7 = .string w ∧ t 36 = .int .i64 (w.size : Int) ∧ t 37 = .int .i64 i ∧ loc 5 = some [.int .i64 0, nilV, nilV, nilV, nilV] ∧ h <+: h' ∧ ∃ v, t 9 = v ∧ Own h' h.length h'.length 1 y_int v (ints ((List.range i).map fun i => ((byt w i : Nat) : Int)))) ⟨rfl, rfl, rfl, rfl, rfl, rfl, List.prefix_refl _, _, rfl, Own.nil⟩ ?_
      rintro i t loc h' hi ⟨t0, t1, t7, t36, t37, l5, hp, v, t9, o⟩
      simp only [t36, t37, go_sem]
      refine w_open (by simp only [go_sem]; rfl) ?_ ?_ <;> intro hc
      · have hi1 : i < w.size := by omega
        have hw : IntKind.i64.wrap ((i : Int) + 1) = ((i + 1 : Nat) : Int) := w64 (by omega) (by omega)
        have e0 : ixV (.string w) (.int .i64 i) = some (.int .u8 (byt w i : Nat)) := ix_byt hi1
        have b0 := byt_lt (s := w) (i := i)
        have w0 : IntKind.i64.wrap ((byt w i : Nat) : Int) = ((byt w i : Nat) : Int) := w64 (by omega) (by omega)
        obtain ⟨v2, h2, c3, q1, q2, o2⟩ := o.push1 (pre_len hp) [.int .i64 ((byt w i : Nat) : Int)] rfl (by rw [ints_len]; unfold lim; simp; omega)
        rw [Nat.max_eq_right q1] at o2
        simp only [t0, t1, t7, t9, t36, t37, l5, e0, w0, zeros, fillAt, c3, hw, go_sem]
        exact ⟨hi1, pre_push hp (Nat.le_refl _) q1 q2, v2, rfl, by rw [List.map_append]; simpa [ints] using o2⟩
      · have hin : i = w.size := by omega
        subst hin
        have hco := k_impl_certOf (X := X) (r := n) (by omega) hparts hmv (hm.up hp) hl
        have hcs := partsL_size hmv (r := n) (n := np)
        rw [← st_text st hR hn hparts] at hco hcs
        obtain ⟨v5, h5, c5, p5, ew, mw, yw, gw, rfl, i1, i2, i3, i4, hi5, o1, o2, o3, o4⟩ := k_impl_ReadCert (X := X) (h := h') (s := textS m n) (by have := hparts.1; omega)
        rw [hok] at c5
        unfold certV at c5
        simp only [t0, t1, t9, l5, hco, c5, p5, zeros, fillAt, go_sem]
        have hpp := hp.trans p5
        have ol := pre_len hp
        have o0 := o.up p5
        refine ⟨o.live, ?_⟩
        obtain ⟨hh, e, p1, hc⟩ := finish_cases (v := .tuple ⟨[v, .agg ⟨[.int .i64 (rdI (textS m n)).size, ew, mw, yw, gw]⟩, .bool true]⟩) hpp
        rw [e]
        dsimp only
        rcases hc with rfl | ⟨hf, rfl⟩
        · exact ⟨p1, v, ew, mw, yw, gw, by rw [hok]; rfl, h'.length, i1, i2, i3, i4, ⟨ol, by omega, by omega, by omega, by omega, by omega⟩, o0, o1, o2, o3, o4⟩
        · simp only [flat, List.all_cons, Bool.and_eq_true] at hf
          have hf2 : prim ew = true ∧ prim mw = true ∧ prim yw = true ∧ prim gw = true := by simpa [flat1, prim] using hf.2.1
          have hf' : prim v = true ∧ prim ew = true ∧ prim mw = true ∧ prim yw = true ∧ prim gw = true := ⟨o.fl1 hf.1, hf2⟩
          exact ⟨p1, v, ew, mw, yw, gw, by rw [hok]; rfl, List.length hh, List.length hh, List.length hh, List.length hh, List.length hh, ⟨pre_len p1, by omega, by omega, by omega, by omega, Nat.le_refl _⟩, o0.flatP hf'.1, o1.flatP hf'.2.1, o2.flatP hf'.2.2.1, o3.flatP hf'.2.2.2.1, o4.flatG hf'.2.2.2.2⟩
    · rw [if_neg k, if_neg k]
      have hr : ¬ (0 ≤ r ∧ r ≤ (R : Int) - 1) := fun q => k ⟨st, R, r.toNat, hR, by omega, by omega⟩
      have hb : (decide ((0 : Int) ≤ r) && decide (r ≤ (R : Int) - 1)) = false := by
        by_cases c1 : (0 : Int) ≤ r
        · have c2 : ¬ r ≤ (R : Int) - 1 := fun q => hr ⟨c1, q⟩
          simp [c2]
        · simp [c1]
      simp only [c, h4, w1, k_impl_in, hb, zeros, fillAt, go_sem]
      exact ⟨List.prefix_refl _, nilV, nilV, nilV, nilV, nilV, rfl, h.length, h.length, h.length, h.length, h.length, ⟨Nat.le_refl _, Nat.le_refl _, Nat.le_refl _, Nat.le_refl _, Nat.le_refl _, Nat.le_refl _⟩, Own.nil, Own.nil, Own.nil, Own.nil, OwnG.nil⟩
  · have k : ¬ RIn m r := fun q => st q.1
    rw [if_neg k, if_neg k]
    rw [tB_f st] at c
    simp only [c, zeros, fillAt, go_sem]
    exact ⟨List.prefix_refl _, nilV, nilV, nilV, nilV, nilV, rfl, h.length, h.length, h.length, h.length, h.length, ⟨Nat.le_refl _, Nat.le_refl _, Nat.le_refl _, Nat.le_refl _, Nat.le_refl _, Nat.le_refl _⟩, Own.nil, Own.nil, Own.nil, Own.nil, OwnG.nil⟩
end
section
variable {X : CallF} {h : Heap} {m : List Pr} {mv : Value} {R : Nat} {r : Int}
theorem k_spec_RoundOf (hm : Rows h 2 mv (prsL m)) (hl : m.length ≤ 1048576) : ∃ v hh, C T X n_spec_RoundOf [mv, .int .i64 r] h = some (v, hh) ∧ h <+: hh ∧ RndW h hh v (roundP m r) (roundC m r) := by
  have hl' : m.length ≤ lim := by unfold lim; omega
  refine C_ex t_spec_RoundOf rfl ?_
  unfold F_spec_RoundOf
  have c := k_spec_StateOk (X := X) hm hl'
  unfold roundP roundC
  obtain ⟨R, hR⟩ := rnd_ex m
  have bad : h <+: (h ++ [⟨[], 1, y_int, true⟩] : Heap) := List.prefix_append _ _
  have badO : Own (h ++ [⟨[], 1, y_int, true⟩] : Heap) h.length (h ++ [⟨[], 1, y_int, true⟩] : Heap).length 1 y_int (.slice (some ⟨h.length, 0, none⟩) 0 0) (ints []) := Acc.new.own
  have badF : ∀ w : Value, w = .tuple ⟨[.slice (some ⟨h.length, 0, none⟩) 0 0, .agg ⟨[.int .i64 0, nilV, nilV, nilV, nilV]⟩, .bool false]⟩ → h <+: (finish h (w, h ++ [⟨[], 1, y_int, true⟩])).2 ∧ RndW h (finish h (w, h ++ [⟨[], 1, y_int, true⟩])).2 (finish h (w, h ++ [⟨[], 1, y_int, true⟩])).1 [] ⟨0, [], [], [], [], false⟩ := fun w hw => by
    rw [finish_deep (by rw [hw]; simp [flat, flat1, prim])]
    exact ⟨bad, _, nilV, nilV, nilV, nilV, hw, badO, Own.nil, Own.nil, Own.nil, OwnG.nil⟩
  by_cases st : StI cfR m
  · rw [tB_t st] at c
    have hR6 := st_rnd st hR
    have h4 := k_spec_l13Rounds (X := X) hm hl hR
    have w1 : IntKind.i64.wrap ((R : Int) - 1) = (R : Int) - 1 := w64 (by omega) (by omega)
    by_cases k : RIn m r
    · rw [if_pos k, if_pos k]
      obtain ⟨n, rfl, hn, _, w, hw, hpi, hok, hsz⟩ := rin_facts k hR
      have hmv := mapIs_v st.1
      have c1 : decide ((0 : Int) ≤ (n : Int)) = true := decide_eq_true (by omega)
      have c2 : decide ((n : Int) ≤ (R : Int) - 1) = true := decide_eq_true (by omega)
      have hP : poolT m (n : Int).toNat = w := by unfold poolT; rw [Int.toNat_natCast, hw]; rfl
      rw [hP, Int.toNat_natCast]
      have htx := k_spec_l13Text (X := X) (r := n) (by omega) hmv hm hl
      have hts := textS_le hmv (r := n)
      have hml := st.1.1
      obtain ⟨v5, h5, c5, p5, ew, mw, yw, gw, rfl, o1, o2, o3, o4⟩ := k_spec_ReadCert (X := X) (h := h) (s := textS m n) (by omega)
      rw [rd_same] at c5 o1 o2 o3 o4
      rw [hok] at c5
      unfold certV at c5
      obtain ⟨v, h6, c6, p6, o0⟩ := k_spec_l13Pool (X := X) (r := n) (by omega) hmv (hm.up p5) hl'
      rw [hw, Option.getD_some] at o0
      have l5 := pre_len p5
      have l6 := pre_len p6
      simp only [c, h4, w1, k_spec_l01In, c1, c2, htx, c5, p5, c6, p6, zeros, fillAt, go_sem]
      have hpp := p5.trans p6
      refine ⟨o0.live, ?_⟩
      obtain ⟨hh, e, p1, hc⟩ := finish_cases (v := .tuple ⟨[v, .agg ⟨[.int .i64 (rdI (textS m n)).size, ew, mw, yw, gw]⟩, .bool true]⟩) hpp
      rw [e]
      dsimp only
      rcases hc with rfl | ⟨hf, rfl⟩
      · exact ⟨p1, v, ew, mw, yw, gw, by rw [hok]; rfl, o0.wide l5 (Nat.le_refl _), (o1.up p6).wide (Nat.le_refl _) l6, (o2.up p6).wide (Nat.le_refl _) l6, (o3.up p6).wide (Nat.le_refl _) l6, (o4.up p6).wide (Nat.le_refl _) l6⟩
      · simp only [flat, List.all_cons, Bool.and_eq_true] at hf
        have hf2 : prim ew = true ∧ prim mw = true ∧ prim yw = true ∧ prim gw = true := by simpa [flat1, prim] using hf.2.1
        exact ⟨p1, v, ew, mw, yw, gw, by rw [hok]; rfl, o0.flatP (o0.fl1 hf.1), o1.flatP hf2.1, o2.flatP hf2.2.1, o3.flatP hf2.2.2.1, o4.flatG hf2.2.2.2⟩
    · rw [if_neg k, if_neg k]
      have hr : ¬ (0 ≤ r ∧ r ≤ (R : Int) - 1) := fun q => k ⟨st, R, r.toNat, hR, by omega, by omega⟩
      have hb : (decide ((0 : Int) ≤ r) && decide (r ≤ (R : Int) - 1)) = false := by
        by_cases c1 : (0 : Int) ≤ r
        · have c2 : ¬ r ≤ (R : Int) - 1 := fun q => hr ⟨c1, q⟩
          simp [c2]
        · simp [c1]
      simp only [c, h4, w1, k_spec_l01In, hb, zeros, fillAt, go_sem]
      exact badF _ rfl
  · have k : ¬ RIn m r := fun q => st q.1
    rw [if_neg k, if_neg k]
    rw [tB_f st] at c
    simp only [c, zeros, fillAt, go_sem]
    exact badF _ rfl
end
end Go.Proofs.YtjgacjidaeahdaaGreatDoor.Ab
set_option linter.unusedSimpArgs false
set_option linter.unusedVariables false
set_option linter.unnecessarySimpa false
set_option maxHeartbeats 4000000
namespace Go.Proofs.YtjgacjidaeahdaaGreatDoor.Ab
open Go.RowKit
theorem rdI_ok {s : ByteArray} (h : (rdI s).ok = true) : CertOk (rdI s).size (rdI s).es (rdI s).m (rdI s).ys (rdI s).gs := by
  unfold rdI at h ⊢
  by_cases k : CokI s
  · rw [if_pos k]
    exact k.2.2
  · rw [if_neg k] at h
    cases h
theorem cp_rng {size : Int} {es : List E} {l : List Cp} (g : MOk size es l) {i : Nat} (hi : i < l.length) : (0 ≤ (l.getD i c0).a ∧ (l.getD i c0).a < size) ∧ 0 ≤ (l.getD i c0).b ∧ (l.getD i c0).b < size := by
  have h := (mok_met g l.length (Nat.le_refl _)).2
  rw [List.take_length] at h
  have hm := getD_mem (d := c0) hi
  exact ⟨h _ (metL_mem.2 ⟨_, hm, .inl rfl⟩), h _ (metL_mem.2 ⟨_, hm, .inr rfl⟩)⟩
section
variable {m : List Pr} {r : Int}
theorem rnd_facts (k : RIn m r) : (roundC m r).ok = true ∧ CertOk (roundC m r).size (roundC m r).es (roundC m r).m (roundC m r).ys (roundC m r).gs ∧ (roundC m r).size = ((roundP m r).length : Int) := by
  obtain ⟨R, hR⟩ := rnd_ex m
  obtain ⟨n, rfl, hn, st, w, hw, hpi, hok, hsz⟩ := rin_facts k hR
  unfold roundC roundP
  rw [if_pos k, if_pos k, Int.toNat_natCast]
  have hP : poolT m n = w := by unfold poolT; rw [hw]; rfl
  rw [hP, bytL_len]
  exact ⟨hok, rdI_ok hok, hsz⟩
theorem rnd_not (k : ¬ RIn m r) : roundC m r = ⟨0, [], [], [], [], false⟩ ∧ roundP m r = [] := by
  unfold roundC roundP
  rw [if_neg k, if_neg k]
  exact ⟨rfl, rfl⟩
theorem rnd_cp {i : Nat} (hi : i < (roundC m r).m.length) : (0 ≤ ((roundC m r).m.getD i c0).a ∧ ((roundC m r).m.getD i c0).a < ((roundP m r).length : Int)) ∧ 0 ≤ ((roundC m r).m.getD i c0).b ∧ ((roundC m r).m.getD i c0).b < ((roundP m r).length : Int) := by
  by_cases k : RIn m r
  · obtain ⟨h1, h2, h3⟩ := rnd_facts k
    rw [← h3]
    exact cp_rng h2.2.1 hi
  · rw [(rnd_not k).1] at hi
    simp at hi
theorem rnd_len : (roundC m r).m.length ≤ 100 := by
  by_cases k : RIn m r
  · have := (cert_lens (rnd_facts k).2.1).2.2.1
    omega
  · rw [(rnd_not k).1]
    simp
theorem rnd_plen : (roundP m r).length ≤ 9 := by
  by_cases k : RIn m r
  · have h1 := (cert_lens (rnd_facts k).2.1).1
    have h2 := (rnd_facts k).2.2
    omega
  · rw [(rnd_not k).2]
    simp
/-- The couples of a round, as ids. -/
noncomputable def coupF (m : List Pr) (r : Int) (c : Cp) : Cp := ⟨(roundP m r).getD c.a.toNat 0, (roundP m r).getD c.b.toNat 0⟩
noncomputable def coupL (m : List Pr) (r : Int) : List Cp := (roundC m r).m.map (coupF m r)
theorem coupL_len : (coupL m r).length ≤ 100 := by unfold coupL; rw [List.length_map]; exact rnd_len
theorem take_mapD {α β : Type} {d : α} {f : α → β} {l : List α} {i : Nat} (hi : i < l.length) : (l.take (i + 1)).map f = (l.take i).map f ++ [f (l.getD i d)] := by
  rw [take_snocD' (d := d) hi, List.map_append]; rfl
end
section
variable {X : CallF} [LibX X] {h : Heap} {m : List Pr} {mv : Value} {r : Int}
theorem k_impl_CouplesOf (hm : Rows h 2 mv (prsL m)) (hl : m.length ≤ lim) : ∃ v hh, C T X n_impl_CouplesOf [mv, .int .i64 r] h = some (.tuple ⟨[v, .bool (roundC m r).ok]⟩, hh) ∧ h <+: hh ∧ Own hh h.length hh.length 2 y_Couple v (cps (coupL m r)) := by
  suffices hs : ∃ w hh, C T X n_impl_CouplesOf [mv, .int .i64 r] h = some (w, hh) ∧ h <+: hh ∧ ∃ v, w = .tuple ⟨[v, .bool (roundC m r).ok]⟩ ∧ Own hh h.length hh.length 2 y_Couple v (cps (coupL m r)) by
    obtain ⟨w, hh, c, p, v, rfl, o⟩ := hs
    exact ⟨v, hh, c, p, o⟩
  refine C_ex t_impl_CouplesOf rfl ?_
  unfold F_impl_CouplesOf
  obtain ⟨v1, h1, c1, p1, a⟩ := k_impl_RoundOf (X := X) (r := r) hm hl
  obtain ⟨pv, ew, mw, yw, gw, rfl, o0, o1, o2, o3, o4⟩ := a.weak
  unfold certV at c1
  by_cases k : RIn m r
  · rw [(rnd_facts k).1] at c1 ⊢
    have hcl := rnd_len (m := m) (r := r)
    have hpl := rnd_plen (m := m) (r := r)
    simp only [c1, p1, o2.rows.lnm, zeros, fillAt, go_sem]
    refine w_for (roundC m r).m.length (fun i t loc h' => t 6 = pv ∧ t 22 = mw ∧ t 23 = .int .i64 ((roundC m r).m.length : Int) ∧ t 24 = .int .i64 i ∧ h1 <+: h' ∧ ∃ v, t 9 = v ∧ Own h' h1.length h'.length 2 y_Couple v (cps (((roundC m r).m.take i).map (coupF m r)))) ⟨rfl, rfl, rfl, rfl, List.prefix_refl _, _, rfl, Own.nil⟩ ?_
    rintro i t loc h' hi ⟨t6, t22, t23, t24, hp, v, t9, o⟩
    simp only [t23, t24, go_sem]
    refine w_open (by simp only [go_sem]; rfl) ?_ ?_ <;> intro hc
    · have hi1 : i < (roundC m r).m.length := by omega
      have hw : IntKind.i64.wrap ((i : Int) + 1) = ((i + 1 : Nat) : Int) := w64 (by omega) (by omega)
      have hel := cp_el (o2.rows.up hp) hi1
      have hrg := rnd_cp hi1
      obtain ⟨q, hq⟩ : ∃ q, q = (roundC m r).m.getD i c0 := ⟨_, rfl⟩
      rw [← hq] at hel hrg
      obtain ⟨a1, ha1⟩ := Int.eq_ofNat_of_zero_le hrg.1.1
      obtain ⟨b1, hb1⟩ := Int.eq_ofNat_of_zero_le hrg.2.1
      have ea := int_el (o0.rows.up hp) (i := a1) (by omega)
      have eb := int_el (o0.rows.up hp) (i := b1) (by omega)
      rw [ha1, hb1] at hel
      obtain ⟨v2, h2, c3, q1, q2, o5⟩ := o.push1 (pre_len hp) [.int .i64 ((roundP m r).getD a1 0), .int .i64 ((roundP m r).getD b1 0)] rfl (by simp; unfold lim; omega)
      rw [Nat.max_eq_right q1] at o5
      simp only [t6, t9, t22, t23, t24, hel.1, hel.2.2.1, ea.1, ea.2, eb.1, eb.2, zeros, fillAt, c3, o5.cells, hw, go_sem]
      refine ⟨hi1, pre_push hp (Nat.le_refl _) q1 q2, v2, rfl, ?_⟩
      rw [take_mapD (d := c0) hi1, ← hq]
      have e : coupF m r q = ⟨(roundP m r).getD a1 0, (roundP m r).getD b1 0⟩ := by unfold coupF; rw [ha1, hb1]; rfl
      rw [e]
      simpa [cps, cpR] using o5
    · have hin : i = (roundC m r).m.length := by omega
      subst hin
      rw [List.take_length] at o
      simp only [t9, go_sem]
      have hpp := p1.trans hp
      refine ⟨o.live, ?_⟩
      obtain ⟨hh, e, p2, hc⟩ := finish_cases (v := .tuple ⟨[v, .bool true]⟩) hpp
      rw [e]
      dsimp only
      rcases hc with rfl | ⟨hf, rfl⟩
      · exact ⟨p2, v, rfl, o.wide (pre_len p1) (Nat.le_refl _)⟩
      · simp only [flat, List.all_cons, Bool.and_eq_true] at hf
        exact ⟨p2, v, rfl, o.flatP (o.fl1 hf.1)⟩
  · have hk := rnd_not k
    have hL : coupL m r = [] := by unfold coupL; rw [hk.1]; rfl
    rw [hk.1] at c1 ⊢
    rw [hL]
    simp only [c1, p1, zeros, fillAt, go_sem]
    rw [finish_flat rfl p1]
    exact ⟨List.prefix_refl _, nilV, rfl, Own.nil⟩
end
section
variable {X : CallF} {h : Heap} {m : List Pr} {mv : Value} {r : Int}
theorem k_spec_CouplesOf (hm : Rows h 2 mv (prsL m)) (hl : m.length ≤ 1048576) : ∃ v hh, C T X n_spec_CouplesOf [mv, .int .i64 r] h = some (.tuple ⟨[v, .bool (roundC m r).ok]⟩, hh) ∧ h <+: hh ∧ Own hh h.length hh.length 2 y_Couple v (cps (coupL m r)) := by
  suffices hs : ∃ w hh, C T X n_spec_CouplesOf [mv, .int .i64 r] h = some (w, hh) ∧ h <+: hh ∧ ∃ v, w = .tuple ⟨[v, .bool (roundC m r).ok]⟩ ∧ Own hh h.length hh.length 2 y_Couple v (cps (coupL m r)) by
    obtain ⟨w, hh, c, p, v, rfl, o⟩ := hs
    exact ⟨v, hh, c, p, o⟩
  refine C_ex t_spec_CouplesOf rfl ?_
  unfold F_spec_CouplesOf
  obtain ⟨v1, h1, c1, p1, a⟩ := k_spec_RoundOf (X := X) (r := r) hm hl
  obtain ⟨pv, ew, mw, yw, gw, rfl, o0, o1, o2, o3, o4⟩ := a
  unfold certV at c1
  have hcl := rnd_len (m := m) (r := r)
  have hpl := rnd_plen (m := m) (r := r)
  simp only [c1, p1, zeros, fillAt, go_sem]
  refine w_for (roundC m r).m.length (fun i t loc h' => t 6 = pv ∧ t 8 = .bool (roundC m r).ok ∧ loc 7 = some [.int .i64 (roundC m r).size, ew, mw, yw, gw] ∧ t 10 = .int .i64 i ∧ h1 <+: h' ∧ ∃ v, t 9 = v ∧ Own h' h1.length h'.length 2 y_Couple v (cps (((roundC m r).m.take i).map (coupF m r)))) ⟨rfl, rfl, rfl, rfl, List.prefix_append _ _, _, rfl, Acc.new.own⟩ ?_
  rintro i t loc h' hi ⟨t6, t8, l7, t10, hp, v, t9, o⟩
  have ln := (o2.rows.up hp).lnm
  simp only [t10, l7, ln, go_sem]
  refine w_open (by simp only [go_sem]; rfl) ?_ ?_ <;> intro hc
  · have hi1 : i < (roundC m r).m.length := by omega
    have hw : IntKind.i64.wrap ((i : Int) + 1) = ((i + 1 : Nat) : Int) := w64 (by omega) (by omega)
    have hel := cp_el (o2.rows.up hp) hi1
    have hrg := rnd_cp hi1
    obtain ⟨q, hq⟩ : ∃ q, q = (roundC m r).m.getD i c0 := ⟨_, rfl⟩
    rw [← hq] at hel hrg
    obtain ⟨a1, ha1⟩ := Int.eq_ofNat_of_zero_le hrg.1.1
    obtain ⟨b1, hb1⟩ := Int.eq_ofNat_of_zero_le hrg.2.1
    have ea := int_el (o0.rows.up hp) (i := a1) (by omega)
    have eb := int_el (o0.rows.up hp) (i := b1) (by omega)
    rw [ha1, hb1] at hel
    obtain ⟨v2, h2, c3, q1, q2, o5⟩ := o.push1 (pre_len hp) [.int .i64 ((roundP m r).getD a1 0), .int .i64 ((roundP m r).getD b1 0)] rfl (by simp; unfold lim; omega)
    rw [Nat.max_eq_right q1] at o5
    simp only [t6, t8, t9, t10, l7, hel.1, hel.2.1, hel.2.2.2.1, hel.2.2.2.2, ea.1, ea.2, eb.1, eb.2, zeros, fillAt, c3, o5.cells, hw, go_sem]
    refine ⟨hi1, pre_push hp (Nat.le_refl _) q1 q2, v2, rfl, ?_⟩
    rw [take_mapD (d := c0) hi1, ← hq]
    have e : coupF m r q = ⟨(roundP m r).getD a1 0, (roundP m r).getD b1 0⟩ := by unfold coupF; rw [ha1, hb1]; rfl
    rw [e]
    simpa [cps, cpR] using o5
  · have hin : i = (roundC m r).m.length := by omega
    subst hin
    rw [List.take_length] at o
    simp only [t8, t9, go_sem]
    have hpp := p1.trans hp
    refine ⟨o.live, ?_⟩
    obtain ⟨hh, e, p2, hc⟩ := finish_cases (v := .tuple ⟨[v, .bool (roundC m r).ok]⟩) hpp
    rw [e]
    dsimp only
    rcases hc with rfl | ⟨hf, rfl⟩
    · exact ⟨p2, v, rfl, o.wide (pre_len p1) (Nat.le_refl _)⟩
    · simp only [flat, List.all_cons, Bool.and_eq_true] at hf
      exact ⟨p2, v, rfl, o.flatP (o.fl1 hf.1)⟩
end
end Go.Proofs.YtjgacjidaeahdaaGreatDoor.Ab
set_option linter.unusedSimpArgs false
set_option linter.unusedVariables false
set_option linter.unnecessarySimpa false
set_option maxHeartbeats 4000000
namespace Go.Proofs.YtjgacjidaeahdaaGreatDoor.Ab
open Go.RowKit
section
variable {h : Heap} {v : Value}
/-- A list of edges. -/
theorem Shape.edges_inv (s : Shape h (.sl [.int .i64, .int .i64, .int .i64, .int .i64, .int .i64]) v) : ∃ l : List E, Rows h 5 v (edges l) ∧ l.length ≤ maxLen ∧ ∀ e ∈ l, I64 e.a ∧ I64 e.b ∧ I64 e.w1 ∧ I64 e.w2 ∧ I64 e.w3 := by
  obtain ⟨rows, hr, hm, hk⟩ := s.sl_inv
  obtain ⟨l, rfl, hl⟩ := rows_map (f := edgeR) (Q := fun e => I64 e.a ∧ I64 e.b ∧ I64 e.w1 ∧ I64 e.w2 ∧ I64 e.w3) (rows := rows) (fun r hrm => by
    obtain ⟨x, r', rfl, hx, h2⟩ := (hk r hrm).cons_inv
    obtain ⟨y, r', rfl, hy, h2⟩ := h2.cons_inv
    obtain ⟨z, r', rfl, hz, h2⟩ := h2.cons_inv
    obtain ⟨u, r', rfl, hu, h2⟩ := h2.cons_inv
    obtain ⟨w, r', rfl, hw, h2⟩ := h2.cons_inv
    obtain rfl := h2.nil_inv
    obtain ⟨a, rfl, ha⟩ := hx.int_inv
    obtain ⟨b, rfl, hb⟩ := hy.int_inv
    obtain ⟨c, rfl, hc⟩ := hz.int_inv
    obtain ⟨d, rfl, hd⟩ := hu.int_inv
    obtain ⟨e, rfl, he⟩ := hw.int_inv
    exact ⟨⟨a, b, c, d, e⟩, rfl, ha, hb, hc, hd, he⟩)
  exact ⟨l, hr, by simpa using hm, hl⟩
theorem Shape.pairs_inv (s : Shape h (.sl [.str, .str]) v) : ∃ l : List Pr, Rows h 2 v (prsL l) ∧ l.length ≤ maxLen ∧ ∀ e ∈ l, e.k.size ≤ maxLen ∧ e.v.size ≤ maxLen := by
  obtain ⟨rows, hr, hm, hk⟩ := s.sl_inv
  obtain ⟨l, rfl, hl⟩ := rows_map (f := prR) (Q := fun e => e.k.size ≤ maxLen ∧ e.v.size ≤ maxLen) (rows := rows) (fun r hrm => by
    obtain ⟨x, r', rfl, hx, h2⟩ := (hk r hrm).cons_inv
    obtain ⟨y, r', rfl, hy, h2⟩ := h2.cons_inv
    obtain rfl := h2.nil_inv
    obtain ⟨a, rfl, ha⟩ := hx.str_inv
    obtain ⟨b, rfl, hb⟩ := hy.str_inv
    exact ⟨⟨a, b⟩, rfl, ha, hb⟩)
  exact ⟨l, hr, by simpa using hm, hl⟩
theorem ArgOk.graph (a : ArgOk h (true, [.int .i64, .sl [.int .i64, .int .i64, .int .i64, .int .i64, .int .i64]]) v) : ∃ size ev es, v = graphV size ev ∧ I64 size ∧ Rows h 5 ev (edges es) ∧ es.length ≤ maxLen := by
  obtain ⟨acs, k, rfl⟩ := a.row
  obtain ⟨v0, r, rfl, k0, k⟩ := k.cons_inv
  obtain ⟨v1, r, rfl, k1, k⟩ := k.cons_inv
  obtain rfl := k.nil_inv
  obtain ⟨n, rfl, hn⟩ := k0.int_inv
  obtain ⟨es, he, hm, _⟩ := k1.edges_inv
  exact ⟨n, v1, es, rfl, hn, he, hm⟩
def AqOk (x : Aq) : Prop := I64 x.op ∧ I64 x.a ∧ I64 x.b ∧ I64 x.w1 ∧ I64 x.w2 ∧ I64 x.w3
theorem ArgOk.ask (a : ArgOk h (true, [.int .i64, .int .i64, .int .i64, .int .i64, .int .i64, .int .i64]) v) : ∃ x : Aq, v = .agg ⟨aqR x⟩ ∧ AqOk x := by
  obtain ⟨acs, k, rfl⟩ := a.row
  obtain ⟨v0, r, rfl, k0, k⟩ := k.cons_inv
  obtain ⟨v1, r, rfl, k1, k⟩ := k.cons_inv
  obtain ⟨v2, r, rfl, k2, k⟩ := k.cons_inv
  obtain ⟨v3, r, rfl, k3, k⟩ := k.cons_inv
  obtain ⟨v4, r, rfl, k4, k⟩ := k.cons_inv
  obtain ⟨v5, r, rfl, k5, k⟩ := k.cons_inv
  obtain rfl := k.nil_inv
  obtain ⟨n0, rfl, h0⟩ := k0.int_inv
  obtain ⟨n1, rfl, h1⟩ := k1.int_inv
  obtain ⟨n2, rfl, h2⟩ := k2.int_inv
  obtain ⟨n3, rfl, h3⟩ := k3.int_inv
  obtain ⟨n4, rfl, h4⟩ := k4.int_inv
  obtain ⟨n5, rfl, h5⟩ := k5.int_inv
  exact ⟨⟨n0, n1, n2, n3, n4, n5⟩, rfl, h0, h1, h2, h3, h4, h5⟩
end
end Go.Proofs.YtjgacjidaeahdaaGreatDoor.Ab
set_option linter.unusedSimpArgs false
set_option linter.unusedVariables false
set_option linter.unnecessarySimpa false
set_option maxHeartbeats 4000000
namespace Go.Proofs.YtjgacjidaeahdaaGreatDoor.Ab
open Go.RowKit
section
variable {X : CallF} [LibX X] {h : Heap} {mv0 : Value} {ml0 : List Pr} {x1 : Int}
open Classical in
theorem l_CouplesOf (hm0 : Rows h 2 mv0 (prsL ml0)) (hx0 : PrMax ml0) (hx1 : I64 x1) : C T X n_laws_FnExactCouplesOf [mv0, .int .i64 x1] h = some (.bool true, h) := by
  refine C_go t_laws_FnExactCouplesOf rfl ?_
  unfold F_laws_FnExactCouplesOf
  obtain ⟨n0, zc0, zb0, zd0⟩ := z_szPairS (X := X) hm0 hx0 (n := 1048576) (by omega) (by omega)
  by_cases hn0 : n0 < 0
  · simp only [zc0, hn0, go_sem]
  have bm0 : PrBnd ml0 := zd0 (by omega)
  have q0 : h <+: h := List.prefix_refl h
  obtain ⟨v1, h1, c1, p1, o1⟩ := x_toPairS (X := X) (hm0.up q0) (by have := bm0.1; unfold lim; omega)
  have q1 := q0.trans p1
  have l1 := pre_len p1
  obtain ⟨v3, h3, c3, p3, o3⟩ := k_spec_CouplesOf (X := X) (r := x1) o1.rows (by have := bm0.1; omega)
  have o1_3 := o1.up p3
  have q3 := q1.trans p3
  have l3 := pre_len p3
  obtain ⟨v4, h4, c4, p4, o4⟩ := x_toPairS (X := X) (hm0.up q3) (by have := bm0.1; unfold lim; omega)
  have o3_4 := o3.up p4
  have q4 := q3.trans p4
  have l4 := pre_len p4
  obtain ⟨v6, h6, c6, p6, o6⟩ := k_impl_CouplesOf (X := X) (r := x1) o4.rows (by have := bm0.1; unfold lim; omega)
  have o3_6 := o3_4.up p6
  have o4_6 := o4.up p6
  have q6 := q4.trans p6
  have l6 := pre_len p6
  have c7 := k_eqCoupleS (X := X) o6.rows o3_6.rows (Nat.le_trans coupL_len (by unfold lim; omega))
  obtain ⟨v8, h8, c8, p8, o8⟩ := x_toPairS (X := X) (hm0.up q6) (by have := bm0.1; unfold lim; omega)
  have o3_8 := o3_6.up p8
  have o4_8 := o4_6.up p8
  have o6_8 := o6.up p8
  have q8 := q6.trans p8
  have l8 := pre_len p8
  have c9 := k_eqPairS (X := X) o4_8.rows o8.rows (by have := bm0.1; unfold lim; omega)
  obtain ⟨h10, c10, s10⟩ := m_markPairS (X := X) o4_8 (by have := bm0.1; unfold lim; omega) (k := 1) (by have := bm0.1; omega)
  have l10 := s10.len
  have o3_10 := o3_8.same s10 (by omega)
  have o6_10 := o6_8.same s10 (by omega)
  have q10 := s10.pre q8 (by omega)
  have km : ¬ ((((1 + ml0.length * 2) : Nat) : Int) < 0) := by omega
  have c11 := k_eqCoupleS (X := X) o6_10.rows o3_10.rows (Nat.le_trans coupL_len (by unfold lim; omega))
  obtain ⟨h12, c12, s12, g12⟩ := k_markCoupleS (X := X) o6_10 (by rw [List.length_map]; exact (Nat.le_trans coupL_len (by unfold lim; omega))) (k := 1) (by omega)
  rw [List.length_map] at c12 g12
  have l12 := s12.len
  have o3_12 := o3_10.same s12 (by omega)
  have q12 := s12.pre q10 (by omega)
  have c13 := k_heldCoupleS (X := X) (n := (coupL ml0 x1).length) g12.rows (Nat.le_trans coupL_len (by unfold lim; omega)) (by omega)
  have kh : ¬ (((1 + (coupL ml0 x1).length * 2 : Nat) : Int) < 0) := by omega
  obtain ⟨v14, h14, c14, p14, o14⟩ := x_toPairS (X := X) (hm0.up q12) (by have := bm0.1; unfold lim; omega)
  have o3_14 := o3_12.up p14
  have g12_14 := g12.up p14
  have q14 := q12.trans p14
  have l14 := pre_len p14
  obtain ⟨v16, h16, c16, p16, o16⟩ := k_impl_CouplesOf (X := X) (r := x1) o14.rows (by have := bm0.1; unfold lim; omega)
  have o3_16 := o3_14.up p16
  have g12_16 := g12_14.up p16
  have o14_16 := o14.up p16
  have q16 := q14.trans p16
  have l16 := pre_len p16
  have c17 := k_eqCoupleS (X := X) o16.rows o3_16.rows (Nat.le_trans coupL_len (by unfold lim; omega))
  have c18 := k_heldCoupleS (X := X) (n := (coupL ml0 x1).length) g12_16.rows (Nat.le_trans coupL_len (by unfold lim; omega)) (by omega)
  have one : ((1 : Nat) : Int) = 1 := rfl
  rw [one] at c10 c12 c13 c18
  simp only [zc0, hn0, c1, c3, c4, c6, c7, c8, c9, c10, km, c11, c12, c13, kh, c14, c16, c17, c18, List.prefix_refl, BEq.rfl, p1, p3, p4, p6, p8, p14, p16, go_sem]
  try exact finish_flat rfl q16
end
def ps_FnExactCouplesOf : List (Bool × List CK) := [(false, [.sl [.str, .str]]), (false, [.int .i64])]
theorem law_FnExactCouplesOf (h : Heap) (avs : List Value) (ha : All2 (ArgOk h) ps_FnExactCouplesOf avs) : C T libX n_laws_FnExactCouplesOf avs h = some (.bool true, h) := by
  obtain ⟨v0, r, rfl, k0, ha⟩ := ha.cons_inv
  obtain ⟨v1, r, rfl, k1, ha⟩ := ha.cons_inv
  obtain rfl := ha.nil_inv
  obtain ⟨ml0, hm0, hx0a, hx0b⟩ := k0.cell.pairs_inv
  have hx0 : PrMax ml0 := ⟨hx0a, hx0b⟩
  obtain ⟨x1, rfl, hx1⟩ := k1.cell.int_inv
  exact l_CouplesOf hm0 hx0 hx1
end Go.Proofs.YtjgacjidaeahdaaGreatDoor.Ab
