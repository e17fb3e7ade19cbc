/- Joined: K61, K62, K63, P2, P4, P17, P5, K18, K31, K67, K69, P18, K66. No conditions. -/
import Derived.Test.YtgmljppiiighmaaGreatDoorM19
import Derived.Test.YtgmljppiiighmaaGreatDoorM16
set_option linter.unusedSimpArgs false
set_option linter.unusedVariables false
set_option linter.unnecessarySimpa false
set_option maxHeartbeats 4000000
namespace Go.Proofs.YtgmljppiiighmaaGreatDoor.Ab
open Go.RowKit
/-- A round that is there. -/
def RIn (m : List Pr) (r : Int) : Prop := StI cfR m ∧ ∃ R n : Nat, IsRnd m R ∧ r = (n : Int) ∧ n < R
open Classical in
noncomputable def roundC (m : List Pr) (r : Int) : CT := if RIn m r then rdI (textS m r.toNat) else ⟨0, [], [], [], [], false⟩
def poolT (m : List Pr) (r : Nat) : ByteArray := (getK m (qK r)).getD noT
open Classical in
noncomputable def roundP (m : List Pr) (r : Int) : List Int := if RIn m r then bytL (poolT m r.toNat) else []
/-- What is told of a round, in memory of its own. -/
def RndA (h hh : Heap) (v : Value) (P : List Int) (c : CT) : Prop :=
  ∃ pv ew mw yw gw, v = .tuple ⟨[pv, certV c.size ew mw yw gw, .bool c.ok]⟩ ∧ ∃ i0 i1 i2 i3 i4, (h.length ≤ i0 ∧ i0 ≤ i1 ∧ i1 ≤ i2 ∧ i2 ≤ i3 ∧ i3 ≤ i4 ∧ i4 ≤ hh.length) ∧ Own hh h.length i0 1 y_int pv (ints P) ∧ Own hh i1 i2 5 y_Edge ew (edges c.es) ∧ Own hh i2 i3 2 y_Couple mw (cps c.m) ∧ Own hh i3 i4 1 y_int yw (ints c.ys) ∧ OwnG hh i4 hh.length y_Group gw c.gs
/-- The same, of which it is not asked where it lies. -/
def RndW (h hh : Heap) (v : Value) (P : List Int) (c : CT) : Prop :=
  ∃ pv ew mw yw gw, v = .tuple ⟨[pv, certV c.size ew mw yw gw, .bool c.ok]⟩ ∧ Own hh h.length hh.length 1 y_int pv (ints P) ∧ Own hh h.length hh.length 5 y_Edge ew (edges c.es) ∧ Own hh h.length hh.length 2 y_Couple mw (cps c.m) ∧ Own hh h.length hh.length 1 y_int yw (ints c.ys) ∧ OwnG hh h.length hh.length y_Group gw c.gs
theorem RndA.weak {h hh : Heap} {v : Value} {P : List Int} {c : CT} (a : RndA h hh v P c) : RndW h hh v P c := by
  obtain ⟨pv, ew, mw, yw, gw, rfl, i0, i1, i2, i3, i4, hi, o0, o1, o2, o3, o4⟩ := a
  exact ⟨pv, ew, mw, yw, gw, rfl, o0.wide (Nat.le_refl _) (by omega), o1.wide (by omega) (by omega), o2.wide (by omega) (by omega), o3.wide (by omega) (by omega), o4.wide (by omega) (Nat.le_refl _)⟩
theorem Own.fl1 {h : Heap} {lo hi sz : Nat} {ty : TypeId} {v : Value} {rws : List (List Value)} (o : Own h lo hi sz ty v rws) (hf : flat1 v = true) : prim v = true := by
  rcases o.is with ⟨rfl, rfl⟩ | ⟨b, _, _, rfl, _⟩
  · rfl
  · exact hf
section
variable {X : CallF} [LibX X] {h : Heap} {m : List Pr} {mv : Value} {R : Nat} {r : Int}
theorem rin_facts (k : RIn m r) (hR : IsRnd m R) : ∃ n : Nat, r = n ∧ n < R ∧ StI cfR m ∧ (∃ w, getK m (qK n) = some w ∧ PoolIs m w ∧ (rdI (textS m n)).ok = true ∧ (rdI (textS m n)).size = (w.size : Int)) := by
  obtain ⟨st, R', n, h1, h2, h3⟩ := k
  obtain rfl := h1.one hR
  refine ⟨n, h2, h3, st, ?_⟩
  obtain ⟨w, p, k1, k2, k3, k4, k5⟩ := st_round st hR h3
  rw [← st_text st hR h3 k3] at k5
  exact ⟨w, k1, k2, k5.1, k5.2⟩
theorem k_impl_RoundOf (hm : Rows h 2 mv (prsL m)) (hl : m.length ≤ lim) : ∃ v hh, C T X n_impl_RoundOf [mv, .int .i64 r] h = some (v, hh) ∧ h <+: hh ∧ RndA h hh v (roundP m r) (roundC m r) := by
  refine C_ex t_impl_RoundOf rfl ?_
  unfold F_impl_RoundOf
  have c := k_impl_StateOk (X := X) hm hl
  unfold roundP roundC
  obtain ⟨R, hR⟩ := rnd_ex m
  by_cases st : StI cfR m
  · rw [tB_t st] at c
    have hR6 := st_rnd st hR
    have h4 := k_impl_roundsOf (X := X) hm hl hR
    rw [show min R 7 = R by omega] at h4
    have w1 : IntKind.i64.wrap ((R : Int) - 1) = (R : Int) - 1 := w64 (by omega) (by omega)
    by_cases k : RIn m r
    · rw [if_pos k, if_pos k]
      obtain ⟨n, rfl, hn, _, w, hw, hpi, hok, hsz⟩ := rin_facts k hR
      obtain ⟨_, np, _, _, hparts, _⟩ := st_round st hR hn
      have hmv := mapIs_v st.1
      have c1 : decide ((0 : Int) ≤ (n : Int)) = true := decide_eq_true (by omega)
      have c2 : decide ((n : Int) ≤ (R : Int) - 1) = true := decide_eq_true (by omega)
      have h2 := k_impl_two (X := X) (h := h) (n := n) (by omega)
      have hz := twoT_size (n := n) (by omega)
      have hz1 : (⟨[113]⟩ : Array UInt8).size + (twoT n).size ≤ 9223372036854775807 := by rw [asz]; omega
      have hg := k_impl_get (X := X) (k := qK n) hm hl
      unfold getV at hg
      rw [hw] at hg
      simp only [Option.getD_some, Option.isSome_some] at hg
      have hP : poolT m (n : Int).toNat = w := by unfold poolT; rw [Int.toNat_natCast, hw]; rfl
      rw [hP, Int.toNat_natCast]
      have hws := hpi.1
      simp only [c, h4, w1, k_impl_in, c1, c2, h2, hz1, qK_app, hg, zeros, fillAt, go_sem]
      refine w_for w.size (fun i t loc h' => t 0 = mv ∧ t 1 = .int .i64 (n : Int) ∧ t 7 = .string w ∧ t 36 = .int .i64 (w.size : Int) ∧ t 37 = .int .i64 i ∧ loc 5 = some [.int .i64 0, nilV, nilV, nilV, nilV] ∧ h <+: h' ∧ ∃ v, t 9 = v ∧ Own h' h.length h'.length 1 y_int v (ints ((List.range i).map fun i => ((byt w i : Nat) : Int)))) ⟨rfl, rfl, rfl, rfl, rfl, rfl, List.prefix_refl _, _, rfl, Own.nil⟩ ?_
      rintro i t loc h' hi ⟨t0, t1, t7, t36, t37, l5, hp, v, t9, o⟩
      simp only [t36, t37, go_sem]
      refine w_open (by simp only [go_sem]; rfl) ?_ ?_ <;> intro hc
      · have hi1 : i < w.size := by omega
        have hw : IntKind.i64.wrap ((i : Int) + 1) = ((i + 1 : Nat) : Int) := w64 (by omega) (by omega)
        have e0 : ixV (.string w) (.int .i64 i) = some (.int .u8 (byt w i : Nat)) := ix_byt hi1
        have b0 := byt_lt (s := w) (i := i)
        have w0 : IntKind.i64.wrap ((byt w i : Nat) : Int) = ((byt w i : Nat) : Int) := w64 (by omega) (by omega)
        obtain ⟨v2, h2, c3, q1, q2, o2⟩ := o.push1 (pre_len hp) [.int .i64 ((byt w i : Nat) : Int)] rfl (by rw [ints_len]; unfold lim; simp; omega)
        rw [Nat.max_eq_right q1] at o2
        simp only [t0, t1, t7, t9, t36, t37, l5, e0, w0, zeros, fillAt, c3, hw, go_sem]
        exact ⟨hi1, pre_push hp (Nat.le_refl _) q1 q2, v2, rfl, by rw [List.map_append]; simpa [ints] using o2⟩
      · have hin : i = w.size := by omega
        subst hin
        have hco := k_impl_certOf (X := X) (r := n) (by omega) hparts hmv (hm.up hp) hl
        have hcs := partsL_size hmv (r := n) (n := np)
        rw [← st_text st hR hn hparts] at hco hcs
        obtain ⟨v5, h5, c5, p5, ew, mw, yw, gw, rfl, i1, i2, i3, i4, hi5, o1, o2, o3, o4⟩ := k_impl_ReadCert (X := X) (h := h') (s := textS m n) (by have := hparts.1; omega)
        rw [hok] at c5
        unfold certV at c5
        simp only [t0, t1, t9, l5, hco, c5, p5, zeros, fillAt, go_sem]
        have hpp := hp.trans p5
        have ol := pre_len hp
        have o0 := o.up p5
        refine ⟨o.live, ?_⟩
        obtain ⟨hh, e, p1, hc⟩ := finish_cases (v := .tuple ⟨[v, .agg ⟨[.int .i64 (rdI (textS m n)).size, ew, mw, yw, gw]⟩, .bool true]⟩) hpp
        rw [e]
        dsimp only
        rcases hc with rfl | ⟨hf, rfl⟩
        · exact ⟨p1, v, ew, mw, yw, gw, by rw [hok]; rfl, h'.length, i1, i2, i3, i4, ⟨ol, by omega, by omega, by omega, by omega, by omega⟩, o0, o1, o2, o3, o4⟩
        · simp only [flat, List.all_cons, Bool.and_eq_true] at hf
          have hf2 : prim ew = true ∧ prim mw = true ∧ prim yw = true ∧ prim gw = true := by simpa [flat1, prim] using hf.2.1
          have hf' : prim v = true ∧ prim ew = true ∧ prim mw = true ∧ prim yw = true ∧ prim gw = true := ⟨o.fl1 hf.1, hf2⟩
          exact ⟨p1, v, ew, mw, yw, gw, by rw [hok]; rfl, List.length hh, List.length hh, List.length hh, List.length hh, List.length hh, ⟨pre_len p1, by omega, by omega, by omega, by omega, Nat.le_refl _⟩, o0.flatP hf'.1, o1.flatP hf'.2.1, o2.flatP hf'.2.2.1, o3.flatP hf'.2.2.2.1, o4.flatG hf'.2.2.2.2⟩
    · rw [if_neg k, if_neg k]
      have hr : ¬ (0 ≤ r ∧ r ≤ (R : Int) - 1) := fun q => k ⟨st, R, r.toNat, hR, by omega, by omega⟩
      have hb : (decide ((0 : Int) ≤ r) && decide (r ≤ (R : Int) - 1)) = false := by
        by_cases c1 : (0 : Int) ≤ r
        · have c2 : ¬ r ≤ (R : Int) - 1 := fun q => hr ⟨c1, q⟩
          simp [c2]
        · simp [c1]
      simp only [c, h4, w1, k_impl_in, hb, zeros, fillAt, go_sem]
      exact ⟨List.prefix_refl _, nilV, nilV, nilV, nilV, nilV, rfl, h.length, h.length, h.length, h.length, h.length, ⟨Nat.le_refl _, Nat.le_refl _, Nat.le_refl _, Nat.le_refl _, Nat.le_refl _, Nat.le_refl _⟩, Own.nil, Own.nil, Own.nil, Own.nil, OwnG.nil⟩
  · have k : ¬ RIn m r := fun q => st q.1
    rw [if_neg k, if_neg k]
    rw [tB_f st] at c
    simp only [c, zeros, fillAt, go_sem]
    exact ⟨List.prefix_refl _, nilV, nilV, nilV, nilV, nilV, rfl, h.length, h.length, h.length, h.length, h.length, ⟨Nat.le_refl _, Nat.le_refl _, Nat.le_refl _, Nat.le_refl _, Nat.le_refl _, Nat.le_refl _⟩, Own.nil, Own.nil, Own.nil, Own.nil, OwnG.nil⟩
end
section
variable {X : CallF} {h : Heap} {m : List Pr} {mv : Value} {R : Nat} {r : Int}
theorem k_spec_RoundOf (hm : Rows h 2 mv (prsL m)) (hl : m.length ≤ 1048576) : ∃ v hh, C T X n_spec_RoundOf [mv, .int .i64 r] h = some (v, hh) ∧ h <+: hh ∧ RndW h hh v (roundP m r) (roundC m r) := by
  have hl' : m.length ≤ lim := by unfold lim; omega
  refine C_ex t_spec_RoundOf rfl ?_
  unfold F_spec_RoundOf
  have c := k_spec_StateOk (X := X) hm hl'
  unfold roundP roundC
  obtain ⟨R, hR⟩ := rnd_ex m
  have bad : h <+: (h ++ [⟨[], 1, y_int, true⟩] : Heap) := List.prefix_append _ _
  have badO : Own (h ++ [⟨[], 1, y_int, true⟩] : Heap) h.length (h ++ [⟨[], 1, y_int, true⟩] : Heap).length 1 y_int (.slice (some ⟨h.length, 0, none⟩) 0 0) (ints []) := Acc.new.own
  have badF : ∀ w : Value, w = .tuple ⟨[.slice (some ⟨h.length, 0, none⟩) 0 0, .agg ⟨[.int .i64 0, nilV, nilV, nilV, nilV]⟩, .bool false]⟩ → h <+: (finish h (w, h ++ [⟨[], 1, y_int, true⟩])).2 ∧ RndW h (finish h (w, h ++ [⟨[], 1, y_int, true⟩])).2 (finish h (w, h ++ [⟨[], 1, y_int, true⟩])).1 [] ⟨0, [], [], [], [], false⟩ := fun w hw => by
    rw [finish_deep (by rw [hw]; simp [flat, flat1, prim])]
    exact ⟨bad, _, nilV, nilV, nilV, nilV, hw, badO, Own.nil, Own.nil, Own.nil, OwnG.nil⟩
  by_cases st : StI cfR m
  · rw [tB_t st] at c
    have hR6 := st_rnd st hR
    have h4 := k_spec_l13Rounds (X := X) hm hl hR
    have w1 : IntKind.i64.wrap ((R : Int) - 1) = (R : Int) - 1 := w64 (by omega) (by omega)
    by_cases k : RIn m r
    · rw [if_pos k, if_pos k]
      obtain ⟨n, rfl, hn, _, w, hw, hpi, hok, hsz⟩ := rin_facts k hR
      have hmv := mapIs_v st.1
      have c1 : decide ((0 : Int) ≤ (n : Int)) = true := decide_eq_true (by omega)
      have c2 : decide ((n : Int) ≤ (R : Int) - 1) = true := decide_eq_true (by omega)
      have hP : poolT m (n : Int).toNat = w := by unfold poolT; rw [Int.toNat_natCast, hw]; rfl
      rw [hP, Int.toNat_natCast]
      have htx := k_spec_l13Text (X := X) (r := n) (by omega) hmv hm hl
      have hts := textS_le hmv (r := n)
      have hml := st.1.1
      obtain ⟨v5, h5, c5, p5, ew, mw, yw, gw, rfl, o1, o2, o3, o4⟩ := k_spec_ReadCert (X := X) (h := h) (s := textS m n) (by omega)
      rw [rd_same] at c5 o1 o2 o3 o4
      rw [hok] at c5
      unfold certV at c5
      obtain ⟨v, h6, c6, p6, o0⟩ := k_spec_l13Pool (X := X) (r := n) (by omega) hmv (hm.up p5) hl'
      rw [hw, Option.getD_some] at o0
      have l5 := pre_len p5
      have l6 := pre_len p6
      simp only [c, h4, w1, k_spec_l01In, c1, c2, htx, c5, p5, c6, p6, zeros, fillAt, go_sem]
      have hpp := p5.trans p6
      refine ⟨o0.live, ?_⟩
      obtain ⟨hh, e, p1, hc⟩ := finish_cases (v := .tuple ⟨[v, .agg ⟨[.int .i64 (rdI (textS m n)).size, ew, mw, yw, gw]⟩, .bool true]⟩) hpp
      rw [e]
      dsimp only
      rcases hc with rfl | ⟨hf, rfl⟩
      · exact ⟨p1, v, ew, mw, yw, gw, by rw [hok]; rfl, o0.wide l5 (Nat.le_refl _), (o1.up p6).wide (Nat.le_refl _) l6, (o2.up p6).wide (Nat.le_refl _) l6, (o3.up p6).wide (Nat.le_refl _) l6, (o4.up p6).wide (Nat.le_refl _) l6⟩
      · simp only [flat, List.all_cons, Bool.and_eq_true] at hf
        have hf2 : prim ew = true ∧ prim mw = true ∧ prim yw = true ∧ prim gw = true := by simpa [flat1, prim] using hf.2.1
        exact ⟨p1, v, ew, mw, yw, gw, by rw [hok]; rfl, o0.flatP (o0.fl1 hf.1), o1.flatP hf2.1, o2.flatP hf2.2.1, o3.flatP hf2.2.2.1, o4.flatG hf2.2.2.2⟩
    · rw [if_neg k, if_neg k]
      have hr : ¬ (0 ≤ r ∧ r ≤ (R : Int) - 1) := fun q => k ⟨st, R, r.toNat, hR, by omega, by omega⟩
      have hb : (decide ((0 : Int) ≤ r) && decide (r ≤ (R : Int) - 1)) = false := by
        by_cases c1 : (0 : Int) ≤ r
        · have c2 : ¬ r ≤ (R : Int) - 1 := fun q => hr ⟨c1, q⟩
          simp [c2]
        · simp [c1]
      simp only [c, h4, w1, k_spec_l01In, hb, zeros, fillAt, go_sem]
      exact badF _ rfl
  · have k : ¬ RIn m r := fun q => st q.1
    rw [if_neg k, if_neg k]
    rw [tB_f st] at c
    simp only [c, zeros, fillAt, go_sem]
    exact badF _ rfl
end
end Go.Proofs.YtgmljppiiighmaaGreatDoor.Ab
set_option linter.unusedSimpArgs false
set_option linter.unusedVariables false
set_option linter.unnecessarySimpa false
set_option maxHeartbeats 4000000
namespace Go.Proofs.YtgmljppiiighmaaGreatDoor.Ab
open Go.RowKit
theorem rdI_ok {s : ByteArray} (h : (rdI s).ok = true) : CertOk (rdI s).size (rdI s).es (rdI s).m (rdI s).ys (rdI s).gs := by
  unfold rdI at h ⊢
  by_cases k : CokI s
  · rw [if_pos k]
    exact k.2.2
  · rw [if_neg k] at h
    cases h
theorem cp_rng {size : Int} {es : List E} {l : List Cp} (g : MOk size es l) {i : Nat} (hi : i < l.length) : (0 ≤ (l.getD i c0).a ∧ (l.getD i c0).a < size) ∧ 0 ≤ (l.getD i c0).b ∧ (l.getD i c0).b < size := by
  have h := (mok_met g l.length (Nat.le_refl _)).2
  rw [List.take_length] at h
  have hm := getD_mem (d := c0) hi
  exact ⟨h _ (metL_mem.2 ⟨_, hm, .inl rfl⟩), h _ (metL_mem.2 ⟨_, hm, .inr rfl⟩)⟩
theorem bytL_rng {s : ByteArray} {x : Int} (h : x ∈ bytL s) : 0 ≤ x ∧ x < 256 := by
  unfold bytL at h
  obtain ⟨i, _, rfl⟩ := List.mem_map.1 h
  have := byt_lt (s := s) (i := i)
  omega
section
variable {m : List Pr} {r : Int}
theorem rnd_facts (k : RIn m r) : (roundC m r).ok = true ∧ CertOk (roundC m r).size (roundC m r).es (roundC m r).m (roundC m r).ys (roundC m r).gs ∧ (roundC m r).size = ((roundP m r).length : Int) := by
  obtain ⟨R, hR⟩ := rnd_ex m
  obtain ⟨n, rfl, hn, st, w, hw, hpi, hok, hsz⟩ := rin_facts k hR
  unfold roundC roundP
  rw [if_pos k, if_pos k, Int.toNat_natCast]
  have hP : poolT m n = w := by unfold poolT; rw [hw]; rfl
  rw [hP, bytL_len]
  exact ⟨hok, rdI_ok hok, hsz⟩
theorem rnd_not (k : ¬ RIn m r) : roundC m r = ⟨0, [], [], [], [], false⟩ ∧ roundP m r = [] := by
  unfold roundC roundP
  rw [if_neg k, if_neg k]
  exact ⟨rfl, rfl⟩
theorem rnd_cp {i : Nat} (hi : i < (roundC m r).m.length) : (0 ≤ ((roundC m r).m.getD i c0).a ∧ ((roundC m r).m.getD i c0).a < ((roundP m r).length : Int)) ∧ 0 ≤ ((roundC m r).m.getD i c0).b ∧ ((roundC m r).m.getD i c0).b < ((roundP m r).length : Int) := by
  by_cases k : RIn m r
  · obtain ⟨h1, h2, h3⟩ := rnd_facts k
    rw [← h3]
    exact cp_rng h2.2.1 hi
  · rw [(rnd_not k).1] at hi
    simp at hi
theorem rnd_len : (roundC m r).m.length ≤ 100 := by
  by_cases k : RIn m r
  · have := (cert_lens (rnd_facts k).2.1).2.2.1
    omega
  · rw [(rnd_not k).1]
    simp
theorem rnd_plen : (roundP m r).length ≤ 9 := by
  by_cases k : RIn m r
  · have h1 := (cert_lens (rnd_facts k).2.1).1
    have h2 := (rnd_facts k).2.2
    omega
  · rw [(rnd_not k).2]
    simp
theorem rnd_prng {x : Int} (h : x ∈ roundP m r) : 0 ≤ x ∧ x < 256 := by
  unfold roundP at h
  split at h
  · exact bytL_rng h
  · cases h
/-- The couples of a round, as ids. -/
noncomputable def coupF (m : List Pr) (r : Int) (c : Cp) : Cp := ⟨(roundP m r).getD c.a.toNat 0, (roundP m r).getD c.b.toNat 0⟩
noncomputable def coupL (m : List Pr) (r : Int) : List Cp := (roundC m r).m.map (coupF m r)
theorem take_mapD {α β : Type} {d : α} {f : α → β} {l : List α} {i : Nat} (hi : i < l.length) : (l.take (i + 1)).map f = (l.take i).map f ++ [f (l.getD i d)] := by
  rw [take_snocD' (d := d) hi, List.map_append]; rfl
end
section
variable {X : CallF} [LibX X] {h : Heap} {m : List Pr} {mv : Value} {r : Int}
end
section
variable {X : CallF} {h : Heap} {m : List Pr} {mv : Value} {r : Int}
end
end Go.Proofs.YtgmljppiiighmaaGreatDoor.Ab
set_option linter.unusedSimpArgs false
set_option linter.unusedVariables false
set_option linter.unnecessarySimpa false
set_option maxHeartbeats 4000000
namespace Go.Proofs.YtgmljppiiighmaaGreatDoor.Ab
open Go.RowKit
noncomputable def rndsN (m : List Pr) : Nat := Classical.choose (rnd_ex m)
theorem rndsN_is (m : List Pr) : IsRnd m (rndsN m) := Classical.choose_spec (rnd_ex m)
theorem rin_of {m : List Pr} {R n : Nat} (st : StI cfR m) (hR : IsRnd m R) (hn : n < R) : RIn m (n : Int) := ⟨st, R, n, hR, rfl, hn⟩
theorem roundP_in {m : List Pr} {R n : Nat} (st : StI cfR m) (hR : IsRnd m R) (hn : n < R) : roundP m (n : Int) = bytL (poolT m n) := by
  unfold roundP
  rw [if_pos (rin_of st hR hn), Int.toNat_natCast]
section
variable {X : CallF} [LibX X] {h : Heap} {m : List Pr} {mv : Value} {id : Int}
end
section
variable {X : CallF} {h : Heap} {m : List Pr} {mv : Value} {id : Int}
end
end Go.Proofs.YtgmljppiiighmaaGreatDoor.Ab
set_option linter.unusedSimpArgs false
set_option linter.unusedVariables false
set_option linter.unnecessarySimpa false
set_option maxHeartbeats 4000000
namespace Go.Proofs.YtgmljppiiighmaaGreatDoor.Ab
theorem nodup_len : ∀ {n : Nat} {l : List Int}, l.Nodup → (∀ x ∈ l, 0 ≤ x ∧ x < n) → l.length ≤ n
  | 0, [], _, _ => Nat.le_refl _
  | 0, a :: l, _, h => by have := h a List.mem_cons_self; omega
  | n + 1, l, hn, h => by
    by_cases hm : (n : Int) ∈ l
    · have h1 := List.length_erase_of_mem hm
      have h2 := nodup_len (n := n) (hn.erase (n : Int)) fun x hx => by
        obtain ⟨h3, h4⟩ := (hn.mem_erase_iff).1 hx
        have := h x h4
        omega
      omega
    · have := nodup_len (n := n) hn fun x hx => by
        have h3 := h x hx
        have : x ≠ n := fun e => hm (e ▸ hx)
        omega
      omega
/-- Some of what hangs together with a vertex; of the first ones all neighbours are there. -/
structure Bfs (es : List E) (out : List Int) (n : Nat) (v : Int) (i : Nat) (L : List Int) : Prop where
  nodup : L.Nodup
  top : v ∈ L
  all : ∀ x ∈ L, (0 ≤ x ∧ x < n) ∧ ¬ x ∈ out ∧ Cn es out v x
  near : ∀ j, j < i → ∀ w, Adj es out (L.getD j 0) w → w ∈ L
theorem Bfs.len {es : List E} {out : List Int} {n : Nat} {v : Int} {i : Nat} {L : List Int} (b : Bfs es out n v i L) : L.length ≤ n := nodup_len b.nodup fun x hx => (b.all x hx).1
end Go.Proofs.YtgmljppiiighmaaGreatDoor.Ab
set_option linter.unusedSimpArgs false
set_option linter.unusedVariables false
set_option linter.unnecessarySimpa false
set_option maxHeartbeats 4000000
namespace Go.Proofs.YtgmljppiiighmaaGreatDoor.Ab
open Go.RowKit
/-- Two edges without a vertex of both. -/
def Apart (e f : E) : Prop := e.a ≠ f.a ∧ e.a ≠ f.b ∧ e.b ≠ f.a ∧ e.b ≠ f.b
theorem Apart.symm {e f : E} (h : Apart e f) : Apart f e := ⟨fun x => h.1 x.symm, fun x => h.2.2.1 x.symm, fun x => h.2.1 x.symm, fun x => h.2.2.2 x.symm⟩
/-- A pairing, of vertices that may be taken. -/
def Mt (es : List E) (P : Int → Prop) (l : List E) : Prop := (∀ e ∈ l, e ∈ es ∧ P e.a ∧ P e.b) ∧ l.Pairwise Apart
/-- So many couples are the most. -/
def Most (es : List E) (P : Int → Prop) (w : Nat) : Prop := (∃ l, Mt es P l ∧ l.length = w) ∧ ∀ l, Mt es P l → l.length ≤ w
theorem Most.eq {es : List E} {P : Int → Prop} {w w' : Nat} (h : Most es P w) (h' : Most es P w') : w = w' := by
  obtain ⟨⟨l, a, b⟩, c⟩ := h
  obtain ⟨⟨l', a', b'⟩, c'⟩ := h'
  have := c l' a'
  have := c' l a
  omega
theorem Mt.imp {es fs : List E} {P Q : Int → Prop} {l : List E} (h : Mt es P l) (hi : ∀ e ∈ es, P e.a → P e.b → e ∈ fs ∧ Q e.a ∧ Q e.b) : Mt fs Q l :=
  ⟨fun e he => hi e (h.1 e he).1 (h.1 e he).2.1 (h.1 e he).2.2, h.2⟩
theorem Most.congr {es fs : List E} {P Q : Int → Prop} {w : Nat} (h : Most es P w) (h1 : ∀ e ∈ es, P e.a → P e.b → e ∈ fs ∧ Q e.a ∧ Q e.b) (h2 : ∀ e ∈ fs, Q e.a → Q e.b → e ∈ es ∧ P e.a ∧ P e.b) : Most fs Q w := by
  obtain ⟨⟨l, a, b⟩, c⟩ := h
  exact ⟨⟨l, a.imp h1, b⟩, fun l hl => c l (hl.imp h2)⟩
theorem mt_nil {es : List E} {P : Int → Prop} : Mt es P [] := ⟨fun _ h => absurd h List.not_mem_nil, List.Pairwise.nil⟩
/-- An edge more. -/
theorem mt_cons {es : List E} {P : Int → Prop} {e : E} {l : List E} (he : e ∈ es) (ha : P e.a) (hb : P e.b) (h : Mt es (fun v => P v ∧ v ≠ e.a ∧ v ≠ e.b) l) : Mt es P (e :: l) := by
  refine ⟨fun f hf => ?_, ?_⟩
  · cases List.mem_cons.1 hf with
    | inl q => exact q ▸ ⟨he, ha, hb⟩
    | inr q => exact ⟨(h.1 f q).1, (h.1 f q).2.1.1, (h.1 f q).2.2.1⟩
  · refine List.pairwise_cons.2 ⟨fun f hf => ?_, h.2⟩
    have := h.1 f hf
    exact ⟨fun x => this.2.1.2.1 x.symm, fun x => this.2.2.2.1 x.symm, fun x => this.2.1.2.2 x.symm, fun x => this.2.2.2.2 x.symm⟩
/-- The most couples of edges without taken vertices. -/
def mm : List E → List Int → Nat
  | [], _ => 0
  | e :: es, u => if e.a ∈ u ∨ e.b ∈ u then mm es u else max (mm es u) (mm es (e.a :: e.b :: u) + 1)
/-- Vertices from one on that are not used. -/
def Fr (k : Int) (u : List Int) (v : Int) : Prop := k ≤ v ∧ ¬ v ∈ u
end Go.Proofs.YtgmljppiiighmaaGreatDoor.Ab
set_option linter.unusedSimpArgs false
set_option linter.unusedVariables false
set_option linter.unnecessarySimpa false
set_option maxHeartbeats 4000000
namespace Go.Proofs.YtgmljppiiighmaaGreatDoor.Ab
open Go.RowKit
/-- Three sums. -/
structure S3 where
  x : Int
  y : Int
  z : Int
theorem S3.ext' {a b : S3} (h1 : a.x = b.x) (h2 : a.y = b.y) (h3 : a.z = b.z) : a = b := by cases a; cases b; simp only at h1 h2 h3; rw [h1, h2, h3]
def S3.add (a b : S3) : S3 := ⟨a.x + b.x, a.y + b.y, a.z + b.z⟩
def s0 : S3 := ⟨0, 0, 0⟩
def bet (a b : S3) : Prop := b.x < a.x ∨ a.x = b.x ∧ (b.y < a.y ∨ a.y = b.y ∧ b.z < a.z)
instance (a b : S3) : Decidable (bet a b) := by unfold bet; exact inferInstance
def upS (a b : S3) : S3 := if bet b a then b else a
def wS (e : E) : S3 := ⟨e.w1, e.w2, e.w3⟩
def sumS : List E → S3
  | [] => s0
  | e :: l => (wS e).add (sumS l)
theorem bet_eq {a b : S3} (h1 : ¬ bet a b) (h2 : ¬ bet b a) : a = b := by
  unfold bet at h1 h2
  exact S3.ext' (by omega) (by omega) (by omega)
theorem bet_tr {a b c : S3} (h1 : ¬ bet a b) (h2 : ¬ bet b c) : ¬ bet a c := by
  unfold bet at *
  omega
theorem bet_add {a b c : S3} : bet (c.add a) (c.add b) ↔ bet a b := by
  unfold bet S3.add
  simp only
  constructor <;> intro h <;> omega
theorem bet_irr {a : S3} : ¬ bet a a := by unfold bet; omega
theorem up_l {a b : S3} : ¬ bet a (upS a b) := by
  unfold upS
  by_cases h : bet b a
  · rw [if_pos h]; unfold bet at *; omega
  · rw [if_neg h]; exact bet_irr
theorem up_r {a b : S3} : ¬ bet b (upS a b) := by
  unfold upS
  by_cases h : bet b a
  · rw [if_pos h]; exact bet_irr
  · rw [if_neg h]; exact h
theorem up_or {a b : S3} : upS a b = a ∨ upS a b = b := by
  unfold upS
  by_cases h : bet b a
  · rw [if_pos h]; exact .inr rfl
  · rw [if_neg h]; exact .inl rfl
theorem add0 {a : S3} : S3.add s0 a = a := S3.ext' (by simp [S3.add, s0]) (by simp [S3.add, s0]) (by simp [S3.add, s0])
theorem add_as {a b c : S3} : (a.add b).add c = a.add (b.add c) := S3.ext' (Int.add_assoc _ _ _) (Int.add_assoc _ _ _) (Int.add_assoc _ _ _)
theorem add_lc {a b c : S3} : a.add (b.add c) = b.add (a.add c) := by
  apply S3.ext' <;> simp only [S3.add] <;> omega
theorem up_up {best s b w c : S3} : upS (upS best (s.add b)) ((s.add w).add c) = upS best (s.add (upS b (w.add c))) := by
  have e : (s.add w).add c = s.add (w.add c) := add_as
  rw [e]
  obtain ⟨d, hd⟩ : ∃ d, d = w.add c := ⟨_, rfl⟩
  rw [← hd]
  unfold upS
  by_cases h1 : bet (s.add b) best
  · rw [if_pos h1]
    by_cases h2 : bet d b
    · rw [if_pos h2, if_pos (bet_add.2 h2), if_pos (by have := (bet_add (c := s)).2 h2; unfold bet at *; omega)]
    · rw [if_neg h2, if_neg (fun k => h2 (bet_add.1 k)), if_pos h1]
  · rw [if_neg h1]
    by_cases h2 : bet d b
    · rw [if_pos h2]
    · rw [if_neg h2, if_neg h1, if_neg (fun k => h2 ?_)]
      have : bet (s.add d) (s.add b) := by unfold bet at *; omega
      exact bet_add.1 this
/-- These sums are the best. -/
def Best (es : List E) (P : Int → Prop) (w : S3) : Prop := (∃ l, Mt es P l ∧ sumS l = w) ∧ ∀ l, Mt es P l → ¬ bet (sumS l) w
theorem Best.eq {es : List E} {P : Int → Prop} {w w' : S3} (h : Best es P w) (h' : Best es P w') : w = w' := by
  obtain ⟨⟨l, a, b⟩, c⟩ := h
  obtain ⟨⟨l', a', b'⟩, c'⟩ := h'
  have h1 := c l' a'
  have h2 := c' l a
  rw [b'] at h1
  rw [b] at h2
  exact bet_eq h2 h1
theorem Best.congr {es fs : List E} {P Q : Int → Prop} {w : S3} (h : Best es P w) (h1 : ∀ e ∈ es, P e.a → P e.b → e ∈ fs ∧ Q e.a ∧ Q e.b) (h2 : ∀ e ∈ fs, Q e.a → Q e.b → e ∈ es ∧ P e.a ∧ P e.b) : Best fs Q w := by
  obtain ⟨⟨l, a, b⟩, c⟩ := h
  exact ⟨⟨l, a.imp h1, b⟩, fun l hl => c l (hl.imp h2)⟩
theorem best_none {es : List E} {P : Int → Prop} (h : ∀ e ∈ es, ¬ (P e.a ∧ P e.b)) : Best es P s0 := by
  refine ⟨⟨[], mt_nil, rfl⟩, fun l hl => ?_⟩
  cases l with
  | nil => exact bet_irr
  | cons e l => exact absurd (hl.1 e List.mem_cons_self).2 (h e (hl.1 e List.mem_cons_self).1)
theorem sumS_mid {e : E} : ∀ {s t : List E}, sumS (s ++ e :: t) = (wS e).add (sumS (s ++ t))
  | [], t => rfl
  | f :: s, t => by
    show (wS f).add (sumS (s ++ e :: t)) = (wS e).add ((wS f).add (sumS (s ++ t)))
    rw [sumS_mid, add_lc]
theorem mt_splitS {es : List E} {P : Int → Prop} {e : E} {l : List E} (h : Mt es P l) (he : e ∈ l) : ∃ m, Mt es (fun v => P v ∧ v ≠ e.a ∧ v ≠ e.b) m ∧ sumS l = (wS e).add (sumS m) ∧ ∀ f ∈ m, f ≠ e ∧ f ∈ l := by
  obtain ⟨s, t, rfl⟩ := List.append_of_mem he
  have hp := List.pairwise_append.1 h.2
  have ht := List.pairwise_cons.1 hp.2.1
  have key : ∀ f ∈ s ++ t, Apart e f := fun f hf => by
    cases List.mem_append.1 hf with
    | inl q => exact (hp.2.2 f q e List.mem_cons_self).symm
    | inr q => exact ht.1 f q
  have sub : ∀ f ∈ s ++ t, f ∈ s ++ e :: t := fun f hf => by
    cases List.mem_append.1 hf with
    | inl q => exact List.mem_append_left _ q
    | inr q => exact List.mem_append_right _ (List.mem_cons_of_mem _ q)
  refine ⟨s ++ t, ⟨fun f hf => ?_, ?_⟩, sumS_mid, fun f hf => ⟨fun q => (key f hf).1 (by rw [q]), sub f hf⟩⟩
  · have a := h.1 f (sub f hf)
    have k := key f hf
    exact ⟨a.1, ⟨a.2.1, fun x => k.1 x.symm, fun x => k.2.2.1 x.symm⟩, ⟨a.2.2, fun x => k.2.1 x.symm, fun x => k.2.2.2 x.symm⟩⟩
  · exact List.pairwise_append.2 ⟨hp.1, ht.2, fun a ha b hb => hp.2.2 a ha b (List.mem_cons_of_mem _ hb)⟩
/-- The program's way: each edge, without and with it. -/
def bsF : List E → List Int → S3 → S3 → S3
  | [], _, s, best => upS best s
  | e :: es, u, s, best => if e.a ∈ u ∨ e.b ∈ u then bsF es u s best else bsF es (e.a :: e.b :: u) (s.add (wS e)) (bsF es u s best)
theorem bsF_best : ∀ (es : List E) (u : List Int), ∃ b, Best es (fun v => ¬ v ∈ u) b ∧ ∀ s best, bsF es u s best = upS best (s.add b)
  | [], u => ⟨s0, best_none fun _ h => absurd h List.not_mem_nil, fun s best => by
      have : s.add s0 = s := S3.ext' (by simp [S3.add, s0]) (by simp [S3.add, s0]) (by simp [S3.add, s0])
      rw [this]; rfl⟩
  | e :: es, u => by
    obtain ⟨b0, h0, f0⟩ := bsF_best es u
    by_cases hu : e.a ∈ u ∨ e.b ∈ u
    · refine ⟨b0, h0.congr (fun f hf a b => ⟨List.mem_cons_of_mem _ hf, a, b⟩) fun f hf a b => ?_, fun s best => ?_⟩
      · cases List.mem_cons.1 hf with
        | inl q => subst q; exact (hu.elim a b).elim
        | inr q => exact ⟨q, a, b⟩
      · unfold bsF
        rw [if_pos hu, f0]
    obtain ⟨b1, h1, f1⟩ := bsF_best es (e.a :: e.b :: u)
    have hm : ∀ v : Int, ¬ v ∈ e.a :: e.b :: u ↔ (¬ v ∈ u ∧ v ≠ e.a ∧ v ≠ e.b) := fun v => by
      simp only [List.mem_cons, not_or]
      exact ⟨fun h => ⟨h.2.2, h.1, h.2.1⟩, fun h => ⟨h.2.1, h.2.2, h.1⟩⟩
    refine ⟨upS b0 ((wS e).add b1), ⟨?_, fun l hl => ?_⟩, fun s best => ?_⟩
    · rcases up_or (a := b0) (b := (wS e).add b1) with q | q
      · obtain ⟨⟨l, a, b⟩, _⟩ := h0
        rw [q]
        exact ⟨l, a.imp fun f hf p q => ⟨List.mem_cons_of_mem _ hf, p, q⟩, b⟩
      · obtain ⟨⟨l, a, b⟩, _⟩ := h1
        rw [q]
        refine ⟨e :: l, mt_cons List.mem_cons_self (fun x => hu (.inl x)) (fun x => hu (.inr x)) (a.imp fun f hf p q => ⟨List.mem_cons_of_mem _ hf, (hm _).1 p, (hm _).1 q⟩), ?_⟩
        unfold sumS
        rw [b]
    · by_cases he : e ∈ l
      · obtain ⟨m, a, b, c⟩ := mt_splitS hl he
        have := h1.2 m ⟨fun f hf => by
          have q := a.1 f hf
          refine ⟨?_, (hm _).2 q.2.1, (hm _).2 q.2.2⟩
          cases List.mem_cons.1 q.1 with
          | inl x => exact absurd x (c f hf).1
          | inr x => exact x, a.2⟩
        rw [b]
        exact bet_tr (fun k => this (bet_add.1 k)) up_r
      · have := h0.2 l ⟨fun f hf => by
          have q := hl.1 f hf
          refine ⟨?_, q.2⟩
          cases List.mem_cons.1 q.1 with
          | inl x => exact absurd (x ▸ hf) he
          | inr x => exact x, hl.2⟩
        exact bet_tr this up_l
    · show (if e.a ∈ u ∨ e.b ∈ u then _ else _) = _
      rw [if_neg hu, f0, f1, up_up]
theorem bsF_all {es : List E} {w : S3} (h : Best es (fun v => ¬ v ∈ ([] : List Int)) w) : bsF es [] s0 s0 = w := by
  obtain ⟨b, h1, h2⟩ := bsF_best es []
  rw [h2, add0, h1.eq h]
  have := h.2 [] mt_nil
  unfold upS
  by_cases k : bet w s0
  · rw [if_pos k]
  · rw [if_neg k]; exact bet_eq this k
/-- The best so far: vertex k alone, or with one below B. -/
def BestTo (es : List E) (k : Int) (u : List Int) (B : Int) (w : S3) : Prop :=
  (∃ l, Mt es (Fr k u) l ∧ sumS l = w) ∧ ∀ l, Mt es (Fr k u) l → (∀ e ∈ l, e.a = k → e.b < B) → ¬ bet (sumS l) w
theorem best_skip {es : List E} {k : Int} {u : List Int} {w : S3} (hk : k ∈ u) (h : Best es (Fr (k + 1) u) w) : Best es (Fr k u) w :=
  h.congr (fun e he a b => ⟨he, ⟨by have := a.1; omega, a.2⟩, ⟨by have := b.1; omega, b.2⟩⟩) fun e he a b => by
    have h1 : e.a ≠ k := fun x => a.2 (x ▸ hk)
    have h2 : e.b ≠ k := fun x => b.2 (x ▸ hk)
    have := a.1
    have := b.1
    exact ⟨he, ⟨by omega, a.2⟩, ⟨by omega, b.2⟩⟩
theorem best_skips {es : List E} {k : Int} {u : List Int} {w : S3} : ∀ (d : Nat), (∀ j : Int, k ≤ j → j < k + d → j ∈ u) → Best es (Fr (k + d) u) w → Best es (Fr k u) w
  | 0, _, h => by simpa using h
  | d + 1, hu, h => by
    refine best_skips d (fun j a b => hu j a (by omega)) (best_skip (hu _ (by omega) (by omega)) ?_)
    have : k + (d : Int) + 1 = k + ((d + 1 : Nat) : Int) := by omega
    rw [this]
    exact h
theorem best_end {es : List E} {n k : Int} {u : List Int} (hE : ∀ e ∈ es, EOk n e) (hk : n ≤ k) : Best es (Fr k u) s0 :=
  best_none fun e he h => by
    have := hE e he
    unfold EOk at this
    have := h.1.1
    omega
theorem bestTo_start {es : List E} {n k : Int} {u : List Int} {w : S3} (hE : ∀ e ∈ es, EOk n e) (h : Best es (Fr (k + 1) u) w) : BestTo es k u (k + 1) w := by
  obtain ⟨⟨l, a, b⟩, c⟩ := h
  refine ⟨⟨l, a.imp fun e he p q => ⟨he, ⟨by have := p.1; omega, p.2⟩, ⟨by have := q.1; omega, q.2⟩⟩, b⟩, fun l hl hb => c l ⟨fun e he => ?_, hl.2⟩⟩
  obtain ⟨q1, q2, q3⟩ := hl.1 e he
  have g := hE e q1
  unfold EOk at g
  have h1 : e.a ≠ k := fun x => by have := hb e he x; omega
  have := q2.1
  have := q3.1
  exact ⟨q1, ⟨by omega, q2.2⟩, ⟨by omega, q3.2⟩⟩
theorem bestTo_end {es : List E} {n k : Int} {u : List Int} {w : S3} (hE : ∀ e ∈ es, EOk n e) (h : BestTo es k u n w) : Best es (Fr k u) w :=
  ⟨h.1, fun l hl => h.2 l hl fun e he _ => by have := hE e (hl.1 e he).1; unfold EOk at this; omega⟩
theorem bestTo_no {es : List E} {n k b : Int} {u : List Int} {w : S3} (hE : ∀ e ∈ es, EOk n e) (h : BestTo es k u b w) (hn : edgeIx es k b < 0 ∨ b ∈ u) : BestTo es k u (b + 1) w := by
  refine ⟨h.1, fun l hl hb => h.2 l hl fun e he hk => ?_⟩
  have h1 := hb e he hk
  have h2 : e.b ≠ b := fun x => by
    obtain ⟨q1, q2, q3⟩ := hl.1 e he
    rcases hn with hn | hn
    · rcases firstIx_cases (p := Join k b) e0 es with ⟨c1, c2⟩ | ⟨i, c1, _⟩
      · obtain ⟨i, hi, rfl⟩ := mem_getD (d := e0) q1
        exact c2 i hi (.inl ⟨hk, x⟩)
      · unfold edgeIx at hn; omega
    · exact q3.2 (x ▸ hn)
  omega
theorem bestTo_yes {es : List E} {n k b : Int} {u : List Int} {w w' : S3} {i : Nat} (hE : ∀ e ∈ es, EOk n e) (h1 : ∀ e ∈ es, ∀ f ∈ es, e.a = f.a → e.b = f.b → e = f) (h : BestTo es k u b w) (hk : ¬ k ∈ u) (hb : k < b) (hi : edgeIx es k b = (i : Int)) (hi1 : i < es.length) (hu : ¬ b ∈ u) (h' : Best es (Fr (k + 1) (u ++ [b])) w') : BestTo es k u (b + 1) (upS w ((wS (es.getD i e0)).add w')) := by
  have hm : ∀ v : Int, Fr (k + 1) (u ++ [b]) v ↔ (Fr k u v ∧ v ≠ k ∧ v ≠ b) := fun v => by
    unfold Fr
    simp only [List.mem_append, List.mem_singleton, not_or]
    exact ⟨fun ⟨a, c, d⟩ => ⟨⟨by omega, c⟩, by omega, d⟩, fun ⟨⟨a, c⟩, d, e⟩ => ⟨by omega, c, e⟩⟩
  have hmem := getD_mem (d := e0) hi1
  have hab : (es.getD i e0).a = k ∧ (es.getD i e0).b = b := by
    rcases firstIx_cases (p := Join k b) e0 es with ⟨c1, _⟩ | ⟨j, c1, c2, c3, _⟩
    · unfold edgeIx at hi; omega
    · unfold edgeIx at hi
      have : j = i := by omega
      subst this
      have g := hE _ hmem
      unfold EOk at g
      exact c3.elim id fun q => by omega
  refine ⟨?_, fun l hl hc => ?_⟩
  · rcases up_or (a := w) (b := (wS (es.getD i e0)).add w') with q | q
    · rw [q]; exact h.1
    · rw [q]
      obtain ⟨⟨l, q1, q2⟩, _⟩ := h'
      refine ⟨es.getD i e0 :: l, mt_cons hmem ?_ ?_ (q1.imp fun f hf p q => ⟨hf, ?_, ?_⟩), ?_⟩
      · rw [hab.1]; exact ⟨by omega, hk⟩
      · rw [hab.2]; exact ⟨by omega, hu⟩
      · rw [hab.1, hab.2]; exact (hm _).1 p
      · rw [hab.1, hab.2]; exact (hm _).1 q
      · unfold sumS; rw [q2]
  · by_cases hx : ∃ e ∈ l, e.a = k ∧ e.b = b
    · obtain ⟨e, he, e1, e2⟩ := hx
      obtain ⟨m, q1, q2, _⟩ := mt_splitS hl he
      have hee : e = es.getD i e0 := h1 e (hl.1 e he).1 _ hmem (by rw [e1, hab.1]) (by rw [e2, hab.2])
      have := h'.2 m (q1.imp fun f hf p q => ⟨hf, (hm _).2 (by rw [e1, e2] at p; exact p), (hm _).2 (by rw [e1, e2] at q; exact q)⟩)
      rw [q2, hee]
      exact bet_tr (fun k => this (bet_add.1 k)) up_r
    · refine bet_tr (h.2 l hl fun e he hk' => ?_) up_l
      have := hc e he hk'
      have : e.b ≠ b := fun q => hx ⟨e, he, hk', q⟩
      omega
theorem best_first {es : List E} {n : Int} {w : S3} (hE : ∀ e ∈ es, EOk n e) (h : Best es (Fr 0 []) w) : Best es (fun v => ¬ v ∈ ([] : List Int)) w :=
  h.congr (fun e he a b => ⟨he, a.2, b.2⟩) fun e he a b => by
    have g := hE e he
    unfold EOk at g
    exact ⟨he, ⟨by omega, a⟩, ⟨by omega, b⟩⟩
end Go.Proofs.YtgmljppiiighmaaGreatDoor.Ab
set_option linter.unusedSimpArgs false
set_option linter.unusedVariables false
set_option linter.unnecessarySimpa false
set_option maxHeartbeats 4000000
namespace Go.Proofs.YtgmljppiiighmaaGreatDoor.Ab
open Go.RowKit
theorem andN {x y : Nat} (hx : x < 4611686018427387904) (hy : y < 4611686018427387904) : andI .i64 (x : Int) (y : Int) = ((x &&& y : Nat) : Int) := by
  have h1 : (BitVec.ofInt 64 (x : Int)).toNat = x := by rw [BitVec.toNat_ofInt]; omega
  have h2 : (BitVec.ofInt 64 (y : Int)).toNat = y := by rw [BitVec.toNat_ofInt]; omega
  unfold andI
  show IntKind.i64.wrap (((BitVec.ofInt 64 (x : Int) &&& BitVec.ofInt 64 (y : Int)).toNat : Nat) : Int) = _
  rw [BitVec.toNat_and, h1, h2]
  have := Nat.and_le_left (n := x) (m := y)
  exact w64 (by omega) (by omega)
theorem orN {x y : Nat} (hx : x < 512) (hy : y < 512) : orI .i64 (x : Int) (y : Int) = ((x ||| y : Nat) : Int) := by
  have h1 : (BitVec.ofInt 64 (x : Int)).toNat = x := by rw [BitVec.toNat_ofInt]; omega
  have h2 : (BitVec.ofInt 64 (y : Int)).toNat = y := by rw [BitVec.toNat_ofInt]; omega
  unfold orI
  show IntKind.i64.wrap (((BitVec.ofInt 64 (x : Int) ||| BitVec.ofInt 64 (y : Int)).toNat : Nat) : Int) = _
  rw [BitVec.toNat_or, h1, h2]
  have : x ||| y < 2 ^ 9 := Nat.or_lt_two_pow (by omega) (by omega)
  exact w64 (by omega) (by omega)
/-- The number's bits tell who is taken. -/
def Tk (x : Nat) (u : List Int) : Prop := x < 512 ∧ ∀ v : Nat, v < 9 → (x.testBit v = true ↔ (v : Int) ∈ u)
theorem tk_nil : Tk 0 [] := ⟨by omega, fun v _ => by simp⟩
theorem two_lt {a : Nat} (ha : a < 9) : 2 ^ a < 512 := Nat.pow_lt_pow_right (by omega) ha
theorem both_lt {a b : Nat} (ha : a < 9) (hb : b < 9) : 2 ^ a ||| 2 ^ b < 512 := Nat.or_lt_two_pow (n := 9) (two_lt ha) (two_lt hb)
theorem tk_free {x a b : Nat} {u : List Int} (h : Tk x u) (ha : a < 9) (hb : b < 9) : (x &&& (2 ^ a ||| 2 ^ b)) = 0 ↔ ¬ ((a : Int) ∈ u ∨ (b : Int) ∈ u) := by
  rw [← h.2 a ha, ← h.2 b hb]
  constructor
  · intro e q
    have key : ∀ i, (x &&& (2 ^ a ||| 2 ^ b)).testBit i = false := fun i => by rw [e]; simp
    rcases q with q | q
    · have := key a
      simp [Nat.testBit_and, Nat.testBit_or, Nat.testBit_two_pow_self, q] at this
    · have := key b
      simp [Nat.testBit_and, Nat.testBit_or, Nat.testBit_two_pow_self, q] at this
  · intro q
    apply Nat.eq_of_testBit_eq
    intro i
    rw [Nat.testBit_and, Nat.testBit_or, Nat.testBit_two_pow, Nat.testBit_two_pow, Nat.zero_testBit]
    by_cases h1 : a = i
    · subst h1
      have : x.testBit a = false := by simpa using fun e => q (.inl e)
      simp [this]
    · by_cases h2 : b = i
      · subst h2
        have : x.testBit b = false := by simpa using fun e => q (.inr e)
        simp [this]
      · simp [h1, h2]
theorem tk_take {x a b : Nat} {u : List Int} (h : Tk x u) (ha : a < 9) (hb : b < 9) : Tk (x ||| (2 ^ a ||| 2 ^ b)) ((a : Int) :: (b : Int) :: u) := by
  refine ⟨Nat.or_lt_two_pow (n := 9) h.1 (both_lt ha hb), fun v hv => ?_⟩
  rw [Nat.testBit_or, Nat.testBit_or, Nat.testBit_two_pow, Nat.testBit_two_pow]
  simp only [Bool.or_eq_true, decide_eq_true_eq, List.mem_cons, h.2 v hv]
  constructor
  · rintro (q | q | q)
    · exact .inr (.inr q)
    · exact .inl (by omega)
    · exact .inr (.inl (by omega))
  · rintro (q | q | q)
    · exact .inr (.inl (by omega))
    · exact .inr (.inr (by omega))
    · exact .inl q
end Go.Proofs.YtgmljppiiighmaaGreatDoor.Ab
set_option linter.unusedSimpArgs false
set_option linter.unusedVariables false
set_option linter.unnecessarySimpa false
set_option maxHeartbeats 4000000
namespace Go.Proofs.YtgmljppiiighmaaGreatDoor.Ab
open Go.RowKit
theorem shl_one {n : Nat} (h : n ≤ 9) : IntKind.i64.wrap (1 * 2 ^ min n 64) = ((2 ^ n : Nat) : Int) := by
  have e : ((2 : Int) ^ n) = ((2 ^ n : Nat) : Int) := by norm_cast
  have hb : 2 ^ n ≤ 512 := Nat.pow_le_pow_right (show 0 < 2 by omega) h
  rw [Nat.min_eq_left (by omega), Int.one_mul, e]
  have key : ∀ p : Nat, p ≤ 512 → IntKind.i64.wrap (p : Int) = p := fun p hp => w64 (by omega) (by omega)
  exact key _ hb
section
variable {X : CallF} {h : Heap} {a b ev : Value} {l m : List Int} {es : List E} {size : Int}
end
end Go.Proofs.YtgmljppiiighmaaGreatDoor.Ab
set_option linter.unusedSimpArgs false
set_option linter.unusedVariables false
set_option linter.unnecessarySimpa false
set_option maxHeartbeats 4000000
namespace Go.Proofs.YtgmljppiiighmaaGreatDoor.Ab
open Go.RowKit
section
variable {X : CallF} {h : Heap} {ev : Value} {es : List E} {size : Int}
theorem k_impl_Sums_plus {a b c x y z p q : Int} : C T X n_impl_Sums_plus [.agg ⟨[.int .i64 a, .int .i64 b, .int .i64 c]⟩, .agg ⟨[.int .i64 p, .int .i64 q, .int .i64 x, .int .i64 y, .int .i64 z]⟩] h = some (.agg ⟨[.int .i64 (IntKind.i64.wrap (a + x)), .int .i64 (IntKind.i64.wrap (b + y)), .int .i64 (IntKind.i64.wrap (c + z))]⟩, h) := by
  refine C_go t_impl_Sums_plus rfl ?_
  unfold F_impl_Sums_plus
  simp only [go_sem]
theorem gok_all {size : Int} {es : List E} (g : GOk size es) : ∀ e ∈ es, EOk size e := fun e he => by
  obtain ⟨i, hi, rfl⟩ := mem_getD (d := e0) he
  exact (g.2 i hi).1
end
end Go.Proofs.YtgmljppiiighmaaGreatDoor.Ab
set_option linter.unusedSimpArgs false
set_option linter.unusedVariables false
set_option linter.unnecessarySimpa false
set_option maxHeartbeats 4000000
namespace Go.Proofs.YtgmljppiiighmaaGreatDoor.Ab
open Go.RowKit
/-- What a couple is worth, and some. -/
def cpW (es : List E) (c : Cp) : S3 := wS (es.getD (edgeIx es c.a c.b).toNat e0)
def pS (es : List E) (l : List Cp) : S3 := l.foldl (fun s c => s.add (cpW es c)) s0
theorem pS_snoc {es : List E} {l : List Cp} {c : Cp} : pS es (l ++ [c]) = (pS es l).add (cpW es c) := by unfold pS; rw [List.foldl_append]; rfl
def S3In (s : S3) (b : Int) : Prop := (0 ≤ s.x ∧ s.x ≤ b) ∧ (0 ≤ s.y ∧ s.y ≤ b) ∧ 0 ≤ s.z ∧ s.z ≤ b
theorem S3In.add {s t : S3} {a b : Int} (h : S3In s a) (k : S3In t b) : S3In (s.add t) (a + b) := by
  unfold S3In S3.add at *
  simp only
  omega
/-- The couples of a pairing have edges. -/
theorem mok_edge {size : Int} {es : List E} {l : List Cp} (g : MOk size es l) {i : Nat} (hi : i < l.length) : ∃ j : Nat, edgeIx es (l.getD i c0).a (l.getD i c0).b = (j : Int) ∧ j < es.length ∧ S3In (wS (es.getD j e0)) 50 := by
  have h := (g.2 i hi).2.1
  rcases firstIx_cases (p := Join (l.getD i c0).a (l.getD i c0).b) e0 es with ⟨q1, _⟩ | ⟨j, q1, q2, _⟩
  · unfold edgeIx at h; omega
  · refine ⟨j, q1, q2, ?_⟩
    have e := gok_all g.1 _ (getD_mem (d := e0) q2)
    unfold EOk at e
    unfold S3In wS
    simp only
    omega
theorem pS_in {size : Int} {es : List E} {l : List Cp} (g : MOk size es l) : ∀ i, i ≤ l.length → S3In (pS es (l.take i)) (50 * i)
  | 0, _ => by
    rw [List.take_zero]
    exact ⟨⟨Int.le_refl _, Int.le_refl _⟩, ⟨Int.le_refl _, Int.le_refl _⟩, Int.le_refl _, Int.le_refl _⟩
  | i + 1, hi => by
    have ih := pS_in g i (by omega)
    rw [take_snocD' (d := c0) (by omega), pS_snoc]
    obtain ⟨j, h1, h2, h3⟩ := mok_edge g (i := i) (by omega)
    have e : cpW es (l.getD i c0) = wS (es.getD j e0) := by unfold cpW; rw [h1, Int.toNat_natCast]
    rw [e]
    have := ih.add h3
    have e2 : (50 : Int) * ((i + 1 : Nat) : Int) = 50 * (i : Int) + 50 := by omega
    rw [e2]
    exact this
theorem rnd_elen {m : List Pr} {r : Int} : (roundC m r).es.length ≤ 100 := by
  by_cases k : RIn m r
  · have := (cert_lens (rnd_facts k).2.1).2.1; omega
  · rw [(rnd_not k).1]; exact Nat.zero_le _
section
variable {X : CallF} [LibX X] {h : Heap} {m : List Pr} {mv : Value} {id : Int}
end
section
variable {X : CallF} {h : Heap} {m : List Pr} {mv : Value} {id : Int}
theorem k_spec_l09Sums {ev lv : Value} {es : List E} {l : List Cp} {size : Int} (he : Rows h 5 ev (edges es)) (hcp : Rows h 2 lv (cps l)) (hel : es.length ≤ 100) (hml : l.length ≤ 100) (hmo : l = [] ∨ MOk size es l) : C T X n_spec_l09Sums [graphV size ev, lv] h = some (.agg ⟨[.int .i64 (pS es l).x, .int .i64 (pS es l).y, .int .i64 (pS es l).z]⟩, h) := by
  refine C_go t_spec_l09Sums rfl ?_
  unfold F_spec_l09Sums graphV
  simp only [zeros, fillAt, go_sem]
  refine w_for l.length (fun i t loc h' => h' = h ∧ t 1 = lv ∧ t 6 = .int .i64 i ∧ loc 2 = some [.int .i64 size, ev] ∧ loc 4 = some [.int .i64 0, .int .i64 0, .int .i64 0] ∧ loc 5 = some [.int .i64 (pS es (l.take i)).x, .int .i64 (pS es (l.take i)).y, .int .i64 (pS es (l.take i)).z]) ⟨rfl, rfl, rfl, rfl, rfl, rfl⟩ ?_
  rintro i t loc h' hi ⟨rfl, t1, t6, l2, l4, l5⟩
  simp only [t1, t6, hcp.lnm, go_sem]
  refine w_open (by simp only [go_sem]; rfl) ?_ ?_ <;> intro hc
  · have hi1 : i < l.length := by omega
    have hw : IntKind.i64.wrap ((i : Int) + 1) = ((i + 1 : Nat) : Int) := w64 (by omega) (by omega)
    have hMO : MOk size es l := by
      rcases hmo with e | e
      · rw [e] at hi1; simp at hi1
      · exact e
    have el := cp_el hcp hi1
    obtain ⟨j, j1, j2, j3⟩ := mok_edge hMO hi1
    have hTin := (pS_in hMO i (by omega))
    have hsn : pS es (l.take (i + 1)) = (pS es (l.take i)).add (wS (es.getD j e0)) := by
      rw [take_snocD' (d := c0) hi1, pS_snoc]
      have : cpW es (l.getD i c0) = wS (es.getD j e0) := by unfold cpW; rw [j1, Int.toNat_natCast]
      rw [this]
    obtain ⟨T, hT⟩ : ∃ T, T = pS es (l.take i) := ⟨_, rfl⟩
    rw [← hT] at l5 hTin hsn
    obtain ⟨q, hqq⟩ : ∃ q, q = l.getD i c0 := ⟨_, rfl⟩
    rw [← hqq] at el j1
    have ee := edge_el he j2
    have kea := k_spec_l08At (X := X) (size := size) (x := q.a) (y := q.b) he (by unfold lim; omega)
    unfold graphV at kea
    rw [j1] at kea
    obtain ⟨e, hee⟩ : ∃ e, e = es.getD j e0 := ⟨_, rfl⟩
    rw [← hee] at ee j3 hsn
    unfold S3In at hTin
    unfold S3In wS at j3
    simp only at j3
    have w1 : IntKind.i64.wrap (T.x + e.w1) = T.x + e.w1 := w64 (by omega) (by omega)
    have w2 : IntKind.i64.wrap (T.y + e.w2) = T.y + e.w2 := w64 (by omega) (by omega)
    have w3 : IntKind.i64.wrap (T.z + e.w3) = T.z + e.w3 := w64 (by omega) (by omega)
    simp only [t1, t6, l2, l4, l5, el.1, el.2.1, el.2.2.2.1, el.2.2.2.2, kea, ee.1, ee.2.2.1, w1, w2, w3, hw, zeros, fillAt, go_sem]
    exact ⟨hi1, by rw [hsn]; rfl⟩
  · have hin : i = l.length := by omega
    subst hin
    rw [List.take_length] at l5
    simp only [l4, l5, go_sem]
end
end Go.Proofs.YtgmljppiiighmaaGreatDoor.Ab
set_option linter.unusedSimpArgs false
set_option linter.unusedVariables false
set_option linter.unnecessarySimpa false
set_option maxHeartbeats 4000000
namespace Go.Proofs.YtgmljppiiighmaaGreatDoor.Ab
open Go.RowKit
theorem gok_lt {size : Int} {es : List E} (g : GOk size es) : ∀ {i j : Nat}, i < j → j < es.length → ELt (es.getD i e0) (es.getD j e0)
  | i, j + 1, h, hj => by
    have h1 := (g.2 (j + 1) hj).2 (by omega)
    rw [Nat.add_sub_cancel] at h1
    by_cases e : i = j
    · rw [e]; exact h1
    · have h2 := gok_lt g (show i < j by omega) (by omega)
      unfold ELt at h1 h2 ⊢
      omega
theorem gok_one {size : Int} {es : List E} (g : GOk size es) : ∀ e ∈ es, ∀ f ∈ es, e.a = f.a → e.b = f.b → e = f := fun e he f hf h1 h2 => by
  obtain ⟨i, hi, rfl⟩ := mem_getD (d := e0) he
  obtain ⟨j, hj, rfl⟩ := mem_getD (d := e0) hf
  rcases Nat.lt_trichotomy i j with k | k | k
  · have := gok_lt g k hj
    unfold ELt at this
    omega
  · rw [k]
  · have := gok_lt g k hi
    unfold ELt at this
    omega
def s3C (s : S3) : List Value := [.int .i64 s.x, .int .i64 s.y, .int .i64 s.z]
/-- A memory, and three cells of one's own above it. -/
def cellS (h : Heap) (s : S3) : Heap := h ++ [⟨s3C s, 3, y_Sums, true⟩]
theorem cellS_len {h : Heap} {c : S3} : (cellS h c).length = h.length + 1 := by simp [cellS]
theorem cellS_up {h : Heap} {c : S3} : h <+: cellS h c := List.prefix_append _ _
theorem cellS_ld {h : Heap} {c : S3} : ldC (cellS h c) (.pointer (some ⟨h.length, 0, some 3⟩)) 3 = some [.int .i64 c.x, .int .i64 c.y, .int .i64 c.z] := by
  simp [ldC, cellS, s3C]
theorem cellS_st {h : Heap} {c d : S3} : stC (cellS h c) (.pointer (some ⟨h.length, 0, some 3⟩)) [.int .i64 d.x, .int .i64 d.y, .int .i64 d.z] = some (cellS h d) := by
  simp [stC, cellS, putAt, s3C]
def tellS (h : Heap) : Value := .func (.func n_impl_BestSums_1) ⟨[]⟩ ⟨[.pointer (some ⟨h.length, 0, some 3⟩)]⟩
section
variable {X : CallF} {h : Heap} {ev mv : Value} {es : List E} {l : List Cp} {size : Int}
theorem k_impl_BetterG {a b : S3} : C T X n_impl_Better [.agg ⟨[.int .i64 a.x, .int .i64 a.y, .int .i64 a.z]⟩, .agg ⟨[.int .i64 b.x, .int .i64 b.y, .int .i64 b.z]⟩] h = some (.bool (decide (bet a b)), h) := by
  refine C_go t_impl_Better rfl ?_
  unfold F_impl_Better
  by_cases c1 : a.x = b.x
  · by_cases c2 : a.y = b.y
    · have e : decide (bet a b) = decide (b.z < a.z) := decide_eq_decide.2 (by unfold bet; omega)
      simp only [c1, c2, e, gt_iff_lt, go_sem]
    · have e : decide (bet a b) = decide (b.y < a.y) := decide_eq_decide.2 (by unfold bet; omega)
      simp only [c1, c2, e, gt_iff_lt, go_sem]
  · have e : decide (bet a b) = decide (b.x < a.x) := decide_eq_decide.2 (by unfold bet; omega)
    simp only [c1, e, gt_iff_lt, go_sem]
theorem k_spec_BetterG {a b : S3} : C T X n_spec_Better [.agg ⟨[.int .i64 a.x, .int .i64 a.y, .int .i64 a.z]⟩, .agg ⟨[.int .i64 b.x, .int .i64 b.y, .int .i64 b.z]⟩] h = some (.bool (decide (bet a b)), h) := by
  refine C_go t_spec_Better rfl ?_
  unfold F_spec_Better
  by_cases c1 : a.x = b.x
  · by_cases c2 : a.y = b.y
    · have e : decide (bet a b) = decide (b.z < a.z) := decide_eq_decide.2 (by unfold bet; omega)
      simp only [c1, c2, e, gt_iff_lt, go_sem]
    · have e : decide (bet a b) = decide (b.y < a.y) := decide_eq_decide.2 (by unfold bet; omega)
      simp only [c1, c2, e, gt_iff_lt, go_sem]
  · have e : decide (bet a b) = decide (b.x < a.x) := decide_eq_decide.2 (by unfold bet; omega)
    simp only [c1, e, gt_iff_lt, go_sem]
theorem k_impl_BestSums_1 {s c : S3} (n : Int) : C T X n_impl_BestSums_1 [.agg ⟨[.int .i64 s.x, .int .i64 s.y, .int .i64 s.z]⟩, .int .i64 n, .pointer (some ⟨h.length, 0, some 3⟩)] (cellS h c) = some (.tuple ⟨[]⟩, cellS h (upS c s)) := by
  suffices hs : ∃ v hh, C T X n_impl_BestSums_1 [.agg ⟨[.int .i64 s.x, .int .i64 s.y, .int .i64 s.z]⟩, .int .i64 n, .pointer (some ⟨h.length, 0, some 3⟩)] (cellS h c) = some (v, hh) ∧ v = .tuple ⟨[]⟩ ∧ hh = cellS h (upS c s) by
    obtain ⟨v, hh, c1, rfl, rfl⟩ := hs
    exact c1
  refine C_ex t_impl_BestSums_1 rfl ?_
  unfold F_impl_BestSums_1
  by_cases b : bet s c
  · have e : upS c s = s := if_pos b
    simp only [cellS_ld, k_impl_BetterG, b, cellS_st, go_sem]
    rw [finish_room (by rw [cellS_len, cellS_len]), e]
    exact ⟨rfl, rfl⟩
  · have e : upS c s = c := if_neg b
    simp only [cellS_ld, k_impl_BetterG, b, cellS_st, go_sem]
    rw [e]
theorem k_impl_everyS (he : Rows h 5 ev (edges es)) (hl : es.length ≤ lim) (hE : ∀ e ∈ es, EOk 9 e) : ∀ (m at' x : Nat) (u : List Int) (s : S3) (sz : Nat) (c : S3), at' + m = es.length → Tk x u → sz ≤ at' → S3In s (50 * at') →
    C T X n_impl_every [graphV size ev, .int .i64 (at' : Int), .int .i64 (x : Int), .agg ⟨[.int .i64 s.x, .int .i64 s.y, .int .i64 s.z]⟩, .int .i64 (sz : Int), tellS h] (cellS h c) = some (.tuple ⟨[]⟩, cellS h (bsF (es.drop at') u s c)) := by
  unfold lim at hl
  intro m
  induction m with
  | zero =>
    intro i x u s sz c hi hx hsz hin
    suffices hs : ∃ v hh, C T X n_impl_every [graphV size ev, .int .i64 (i : Int), .int .i64 (x : Int), .agg ⟨[.int .i64 s.x, .int .i64 s.y, .int .i64 s.z]⟩, .int .i64 (sz : Int), tellS h] (cellS h c) = some (v, hh) ∧ v = .tuple ⟨[]⟩ ∧ hh = cellS h (bsF (es.drop i) u s c) by
      obtain ⟨v, hh, c1, rfl, rfl⟩ := hs
      exact c1
    refine C_ex t_impl_every rfl ?_
    unfold F_impl_every graphV tellS
    have hi' : (i : Int) = (es.length : Int) := by omega
    have cm := k_impl_BestSums_1 (X := X) (h := h) (s := s) (c := c) (sz : Int)
    simp only [(he.up cellS_up).lnm, hi', fnC, cm, go_sem]
    rw [finish_room (by rw [cellS_len, cellS_len])]
    have e : es.drop i = [] := List.drop_of_length_le (by omega)
    rw [e]
    exact ⟨rfl, rfl⟩
  | succ m ih =>
    intro i x u s sz c hi hx hsz hin
    suffices hs : ∃ v hh, C T X n_impl_every [graphV size ev, .int .i64 (i : Int), .int .i64 (x : Int), .agg ⟨[.int .i64 s.x, .int .i64 s.y, .int .i64 s.z]⟩, .int .i64 (sz : Int), tellS h] (cellS h c) = some (v, hh) ∧ v = .tuple ⟨[]⟩ ∧ hh = cellS h (bsF (es.drop i) u s c) by
      obtain ⟨v, hh, c1, rfl, rfl⟩ := hs
      exact c1
    refine C_ex t_impl_every rfl ?_
    have hi1 : i < es.length := by omega
    have hi' : ¬ (i : Int) = (es.length : Int) := by omega
    have hin' : S3In s (50 * (i + 1 : Nat)) := by unfold S3In at hin ⊢; omega
    have ih1 := ih (i + 1) x u s sz c (by omega) hx (by omega) hin'
    obtain ⟨c', hc'⟩ : ∃ c', c' = bsF (es.drop (i + 1)) u s c := ⟨_, rfl⟩
    rw [← hc'] at ih1
    have el := edge_el (he.up (cellS_up (c := c'))) hi1
    have g := hE _ (getD_mem (d := e0) hi1)
    have hdrop : es.drop i = es.getD i e0 :: es.drop (i + 1) := by
      rw [List.getD_eq_getElem?_getD, List.getElem?_eq_getElem hi1, Option.getD_some, List.drop_eq_getElem_cons hi1]
    rw [hdrop]
    unfold bsF
    obtain ⟨e, hee⟩ : ∃ e, e = es.getD i e0 := ⟨_, rfl⟩
    rw [← hee] at el g ⊢
    unfold EOk at g
    unfold S3In at hin
    have w1 : IntKind.i64.wrap (s.x + e.w1) = s.x + e.w1 := w64 (by omega) (by omega)
    have w2 : IntKind.i64.wrap (s.y + e.w2) = s.y + e.w2 := w64 (by omega) (by omega)
    have w3 : IntKind.i64.wrap (s.z + e.w3) = s.z + e.w3 := w64 (by omega) (by omega)
    obtain ⟨p, hp⟩ : ∃ p : Nat, e.a = p := ⟨e.a.toNat, by omega⟩
    obtain ⟨q, hq⟩ : ∃ q : Nat, e.b = q := ⟨e.b.toNat, by omega⟩
    rw [hp, hq] at el g ⊢
    have hp0 : ¬ (p : Int) < 0 := by omega
    have hq0 : ¬ (q : Int) < 0 := by omega
    have ha := andN (x := x) (y := 2 ^ p ||| 2 ^ q) (by have := hx.1; omega) (by have := both_lt (a := p) (b := q) (by omega) (by omega); omega)
    have ho := orN (two_lt (a := p) (by omega)) (two_lt (a := q) (by omega))
    have ho2 := orN hx.1 (both_lt (a := p) (b := q) (by omega) (by omega))
    have hf := tk_free hx (a := p) (b := q) (by omega) (by omega)
    have ht := tk_take hx (a := p) (b := q) (by omega) (by omega)
    have hs1 := shl_one (n := p) (by omega)
    have hs2 := shl_one (n := q) (by omega)
    have hw1 : IntKind.i64.wrap ((i : Int) + 1) = ((i + 1 : Nat) : Int) := w64 (by omega) (by omega)
    have hw2 : IntKind.i64.wrap ((sz : Int) + 1) = ((sz + 1 : Nat) : Int) := w64 (by omega) (by omega)
    unfold F_impl_every graphV
    unfold graphV at ih1
    by_cases hu : ((p : Int) ∈ u ∨ (q : Int) ∈ u)
    · rw [if_pos hu]
      have hz : ¬ (((x &&& (2 ^ p ||| 2 ^ q) : Nat)) : Int) = 0 := by
        have : ¬ (x &&& (2 ^ p ||| 2 ^ q)) = 0 := fun k => hf.1 k hu
        omega
      simp only [(he.up cellS_up).lnm, hi', ih1, el.1, el.2.2.1, hp0, hq0, Int.toNat_natCast, hs1, hs2, ha, ho, ho2, hw1, hz, go_sem]
      rw [finish_room (by rw [cellS_len, cellS_len])]
      exact ⟨rfl, by rw [hc']⟩
    · rw [if_neg hu]
      have hz : (((x &&& (2 ^ p ||| 2 ^ q) : Nat)) : Int) = 0 := by
        rw [hf.2 hu]
        rfl
      have hin2 : S3In (s.add (wS e)) (50 * (i + 1 : Nat)) := by
        unfold S3In S3.add wS
        simp only
        omega
      have ih2 := ih (i + 1) (x ||| (2 ^ p ||| 2 ^ q)) (p :: q :: u) (s.add (wS e)) (sz + 1) c' (by omega) ht (by omega) hin2
      have hx1 : (s.add (wS e)).x = s.x + e.w1 := rfl
      have hx2 : (s.add (wS e)).y = s.y + e.w2 := rfl
      have hx3 : (s.add (wS e)).z = s.z + e.w3 := rfl
      rw [hx1, hx2, hx3] at ih2
      unfold graphV at ih2
      simp only [(he.up cellS_up).lnm, hi', ih1, el.1, el.2.2.1, hp0, hq0, Int.toNat_natCast, hs1, hs2, ha, ho, ho2, hw1, hz, k_impl_Sums_plus, w1, w2, w3, hw2, ih2, go_sem]
      rw [finish_room (by rw [cellS_len, cellS_len])]
      exact ⟨rfl, by rw [hc']⟩
open Classical in
/-- The best sums. -/
noncomputable def bestG (size : Int) (es : List E) : S3 := if GOk size es then bsF es [] s0 s0 else s0
open Classical in
noncomputable def bestGV (size : Int) (es : List E) : Value := .tuple ⟨[.agg ⟨[.int .i64 (bestG size es).x, .int .i64 (bestG size es).y, .int .i64 (bestG size es).z]⟩, .bool (decide (GOk size es))]⟩
open Classical in
theorem k_impl_BestSums (he : Rows h 5 ev (edges es)) (hl : es.length ≤ lim) : C T X n_impl_BestSums [graphV size ev] h = some (bestGV size es, h) := by
  refine C_go t_impl_BestSums rfl ?_
  unfold bestGV bestG
  have hc : cellS h s0 = h ++ [⟨[.int .i64 0, .int .i64 0, .int .i64 0], 3, y_Sums, true⟩] := rfl
  have hg := k_impl_GraphOk (X := X) (size := size) (he.up (cellS_up (c := s0))) hl
  have hld : ldC (cellS h s0) (.pointer (some ⟨h.length, 0, some 3⟩)) 3 = some [.int .i64 0, .int .i64 0, .int .i64 0] := cellS_ld
  by_cases g : GOk size es
  · rw [if_pos g]
    have hE : ∀ e ∈ es, EOk 9 e := fun e q => by
      have := gok_all g e q
      have := g.1
      unfold EOk at *
      omega
    have hev := k_impl_everyS (X := X) (size := size) he hl hE es.length 0 0 [] s0 0 s0 (by omega) tk_nil (Nat.le_refl _) ⟨⟨Int.le_refl _, Int.le_refl _⟩, ⟨Int.le_refl _, Int.le_refl _⟩, Int.le_refl _, Int.le_refl _⟩
    unfold graphV at hg hev
    unfold F_impl_BestSums graphV
    unfold tellS at hev
    have e : List.drop 0 es = es := List.drop_zero
    rw [e] at hev
    obtain ⟨W, hW⟩ : ∃ W, W = bsF es [] s0 s0 := ⟨_, rfl⟩
    rw [← hW] at hev ⊢
    have hf : fnV (.func n_impl_BestSums_1) [.pointer (some ⟨h.length, 0, some 3⟩)] = some (.func (.func n_impl_BestSums_1) ⟨[]⟩ ⟨[.pointer (some ⟨h.length, 0, some 3⟩)]⟩) := rfl
    have z0 : ((0 : Nat) : Int) = 0 := rfl
    have zx : s0.x = 0 := rfl
    have zy : s0.y = 0 := rfl
    have zz : s0.z = 0 := rfl
    rw [z0, zx, zy, zz] at hev
    simp only [hg, g, ← hc, hld, hf, hev, cellS_ld, zeros, fillAt, go_sem]
    exact finish_flat rfl cellS_up
  · rw [if_neg g]
    unfold graphV at hg
    unfold F_impl_BestSums graphV
    simp only [hg, g, ← hc, hld, zeros, fillAt, go_sem]
    exact finish_flat rfl cellS_up
def bestS (w : S3) (c : Int) : Value := .tuple ⟨[.agg ⟨[.int .i64 w.x, .int .i64 w.y, .int .i64 w.z]⟩, .int .i64 c]⟩
theorem k_spec_l09BestG {n : Nat} (hn : n ≤ 9) (hl : es.length ≤ lim) (hE : ∀ e ∈ es, EOk n e) (hU : ∀ e ∈ es, ∀ f ∈ es, e.a = f.a → e.b = f.b → e = f) : ∀ (m k : Nat) (u : List Int) (uv : Value) (h : Heap), n ≤ k + m → k ≤ n → u.length ≤ k → Rows h 5 ev (edges es) → Rows h 1 uv (ints u) →
    ∃ (w : S3) (c : Int), C T X n_spec_l09Best [graphV n ev, .int .i64 (k : Int), uv] h = some (bestS w c, h) ∧ S3In w (50 * ((n : Int) - k)) ∧ Best es (Fr k u) w := by
  intro m
  induction m using Nat.strongRecOn with
  | _ m ih =>
  intro k u uv h hm hk hul he hu
  suffices hs : ∃ v hh, C T X n_spec_l09Best [graphV n ev, .int .i64 (k : Int), uv] h = some (v, hh) ∧ hh = h ∧ ∃ (w : S3) (c : Int), v = bestS w c ∧ S3In w (50 * ((n : Int) - k)) ∧ Best es (Fr k u) w by
    obtain ⟨v, hh, c1, rfl, w, c, rfl, c2⟩ := hs
    exact ⟨w, c, c1, c2⟩
  refine C_ex t_spec_l09Best rfl ?_
  unfold F_spec_l09Best graphV
  simp only [go_sem]
  refine w_meas (n - k) (fun r t loc h' => h' = h ∧ loc 3 = some [.int .i64 n, ev] ∧ loc 6 = some [.int .i64 0, .int .i64 0, .int .i64 0] ∧ t 2 = uv ∧ ∃ i : Nat, r + i = n - k ∧ t 1 = .int .i64 ((k + i : Nat) : Int) ∧ ∀ j : Int, (k : Int) ≤ j → j < k + i → j ∈ u) ⟨rfl, rfl, rfl, rfl, 0, rfl, rfl, fun j a b => by omega⟩ ?_
  rintro r t loc h' ⟨rfl, l3, l6, t2, i, hr, t1, hall⟩
  obtain ⟨K, hK⟩ : ∃ K, K = k + i := ⟨_, rfl⟩
  rw [← hK] at t1
  have ck := k_spec_l03In (X := X) (n := (K : Int)) hu (by unfold lim; omega)
  simp only [l3, t1, t2, go_sem]
  by_cases s1 : (K : Int) < (n : Int)
  · by_cases s2 : (K : Int) ∈ u
    · have hw : IntKind.i64.wrap ((K : Int) + 1) = ((k + (i + 1) : Nat) : Int) := by
        rw [w64 (by omega) (by omega)]
        omega
      simp only [s1, s2, l3, t1, t2, ck, hw, go_sem]
      refine ⟨r - 1, by omega, l6, i + 1, by omega, rfl, fun j a b => ?_⟩
      by_cases hj : j < (k : Int) + i
      · exact hall j a hj
      · have : j = (K : Int) := by omega
        rw [this]; exact s2
    · have hw : IntKind.i64.wrap ((K : Int) + 1) = ((K + 1 : Nat) : Int) := w64 (by omega) (by omega)
      have ih1 := ih (m - 1) (by omega)
      obtain ⟨w0, c0, b1, b2, b3⟩ := ih1 (K + 1) u uv h' (by omega) (by omega) (by omega) he hu
      unfold graphV bestS at b1
      have hge : ¬ ((K : Int) ≥ (n : Int)) := by omega
      simp only [s1, s2, hge, l3, l6, t1, t2, ck, hw, b1, go_sem]
      have fin : ∀ (w : S3), S3In w (50 * ((n : Int) - K)) → BestTo es (K : Int) u (n : Int) w → S3In w (50 * ((n : Int) - k)) ∧ Best es (Fr k u) w := fun w a b => by
        refine ⟨by unfold S3In at a ⊢; omega, best_skips i (fun j p q => hall j p q) ?_⟩
        rw [show (k : Int) + (i : Int) = (K : Int) by omega]
        exact bestTo_end hE b
      refine w_meas (n - (K + 1)) (fun r t loc h2 => h' <+: h2 ∧ loc 3 = some [.int .i64 n, ev] ∧ loc 6 = some [.int .i64 0, .int .i64 0, .int .i64 0] ∧ t 1 = .int .i64 (K : Int) ∧ t 2 = uv ∧ ∃ (j : Nat) (w : S3) (c : Int), r + j = n - (K + 1) ∧ loc 8 = some [.int .i64 w.x, .int .i64 w.y, .int .i64 w.z] ∧ t 9 = .int .i64 c ∧ t 10 = .int .i64 ((K + 1 + j : Nat) : Int) ∧ S3In w (50 * ((n : Int) - K)) ∧ BestTo es (K : Int) u ((K + 1 + j : Nat) : Int) w)
        ⟨List.prefix_refl _, rfl, rfl, rfl, rfl, 0, w0, c0, rfl, rfl, rfl, rfl, by unfold S3In at b2 ⊢; omega, bestTo_start hE b3⟩ ?_
      rintro r2 t loc h2 ⟨hp, l3, l6, t1, t2, j, w, c, hr2, l8, t9, t10, hwn, hmt⟩
      obtain ⟨B, hB⟩ : ∃ B, B = K + 1 + j := ⟨_, rfl⟩
      rw [← hB] at t10 hmt
      have he2 := he.up hp
      have hu2 := hu.up hp
      simp only [l3, t10, go_sem]
      refine w_open (by simp only [go_sem]; rfl) ?_ ?_ <;> intro hc
      · have hw2 : IntKind.i64.wrap ((B : Int) + 1) = ((K + 1 + (j + 1) : Nat) : Int) := by
          rw [w64 (by omega) (by omega)]
          omega
        have hnext : ((K + 1 + (j + 1) : Nat) : Int) = (B : Int) + 1 := by omega
        have cat := k_spec_l08At (X := X) (h := h2) (size := (n : Int)) (x := (K : Int)) (y := (B : Int)) he2 hl
        unfold graphV at cat
        have cin := k_spec_l03In (X := X) (n := (B : Int)) hu2 (by unfold lim; omega)
        by_cases c1 : edgeIx es (K : Int) (B : Int) < 0
        · simp only [l3, l6, l8, t1, t2, t9, t10, cat, c1, hw2, go_sem]
          exact ⟨r2 - 1, by omega, hp, j + 1, w, c, by omega, rfl, rfl, rfl, hwn, by rw [hnext]; exact bestTo_no hE hmt (.inl c1)⟩
        by_cases c2 : (B : Int) ∈ u
        · simp only [l3, l6, l8, t1, t2, t9, t10, cat, cin, c1, c2, hw2, go_sem]
          exact ⟨r2 - 1, by omega, hp, j + 1, w, c, by omega, rfl, rfl, rfl, hwn, by rw [hnext]; exact bestTo_no hE hmt (.inr c2)⟩
        have hin : ∃ i0 : Nat, edgeIx es (K : Int) (B : Int) = (i0 : Int) ∧ i0 < es.length := by
          rcases firstIx_cases (p := Join (K : Int) (B : Int)) e0 es with ⟨q1, _⟩ | ⟨i0, q1, q2, _⟩
          · unfold edgeIx at c1; omega
          · exact ⟨i0, q1, q2⟩
        obtain ⟨i0, hi0, hi1⟩ := hin
        have c1' : ¬ ((i0 : Int) < 0) := by omega
        have hix := hi0
        rw [hi0] at cat
        obtain ⟨g, hg⟩ : ∃ g : Heap, g = h2 ++ [⟨[], 1, y_int, true⟩] := ⟨_, rfl⟩
        have hgl : g.length = h2.length + 1 := by rw [hg]; simp
        have hpg : h2 <+: g := by rw [hg]; exact List.prefix_append _ _
        have og : Own g h2.length (h2.length + 1) 1 y_int (.slice (some ⟨h2.length, 0, none⟩) 0 0) [] := by rw [← hgl, hg]; exact Acc.new.own
        obtain ⟨v3, h3, c3, q1, q2, o3⟩ := og.app (by omega) (hu2.up hpg) (by rw [List.length_nil, ints_len]; unfold lim; omega)
        have hp3 : h2 <+: h3 := pre_push hpg (Nat.le_refl _) q1 q2
        rw [List.nil_append] at o3
        obtain ⟨v4, h4, c4, q3, q4, o4⟩ := o3.push1 (by omega) [.int .i64 (B : Int)] rfl (by rw [ints_len]; unfold lim; omega)
        have hp4 : h2 <+: h4 := pre_push hp3 (Nat.le_refl _) q3 q4
        have hr4 : Rows h4 1 v4 (ints (u ++ [(B : Int)])) := by simpa [ints] using o4.rows
        obtain ⟨w1, c1x, d1, d2, d3⟩ := ih1 (K + 1) (u ++ [(B : Int)]) v4 h4 (by omega) (by omega) (by simp; omega) (he2.up hp4) hr4
        unfold graphV bestS at d1
        have el := edge_el (he2.up hp4) hi1
        have hEe := hE _ (getD_mem (d := e0) hi1)
        have hmx := bestTo_yes hE hU hmt s2 (by omega) hix hi1 c2 (by rw [show (K : Int) + 1 = ((K + 1 : Nat) : Int) by omega]; exact d3)
        obtain ⟨e, hee⟩ : ∃ e, e = es.getD i0 e0 := ⟨_, rfl⟩
        rw [← hee] at el hEe hmx
        unfold EOk at hEe
        obtain ⟨W, hW⟩ : ∃ W, W = (wS e).add w1 := ⟨_, rfl⟩
        rw [← hW] at hmx
        have hWx : W.x = e.w1 + w1.x := by rw [hW]; rfl
        have hWy : W.y = e.w2 + w1.y := by rw [hW]; rfl
        have hWz : W.z = e.w3 + w1.z := by rw [hW]; rfl
        unfold S3In at d2
        have x1 : IntKind.i64.wrap (w1.x + e.w1) = W.x := by rw [w64 (by omega) (by omega)]; omega
        have x2 : IntKind.i64.wrap (w1.y + e.w2) = W.y := by rw [w64 (by omega) (by omega)]; omega
        have x3 : IntKind.i64.wrap (w1.z + e.w3) = W.z := by rw [w64 (by omega) (by omega)]; omega
        have hWin : S3In W (50 * ((n : Int) - K)) := by unfold S3In; omega
        have hwk : IntKind.i64.wrap ((K : Int) + 1) = ((K + 1 : Nat) : Int) := w64 (by omega) (by omega)
        by_cases c5 : bet W w
        · have hup : upS w W = W := if_pos c5
          rw [hup] at hmx
          simp only [zeros, fillAt, ← hg, l3, l6, l8, t1, t2, t9, t10, cat, cin, c1', c2, c3, c4, hp4, d1, el.1, el.2.2.1, x1, x2, x3, hwk, k_spec_BetterG, c5, hw2, go_sem]
          exact ⟨r2 - 1, by omega, hp.trans hp4, j + 1, W, _, by omega, rfl, rfl, rfl, hWin, by rw [hnext]; exact hmx⟩
        · have hup : upS w W = w := if_neg c5
          rw [hup] at hmx
          simp only [zeros, fillAt, ← hg, l3, l6, l8, t1, t2, t9, t10, cat, cin, c1', c2, c3, c4, hp4, d1, el.1, el.2.2.1, x1, x2, x3, hwk, k_spec_BetterG, c5, hw2, go_sem]
          exact ⟨r2 - 1, by omega, hp.trans hp4, j + 1, w, _, by omega, rfl, rfl, rfl, hwn, by rw [hnext]; exact hmx⟩
      · have hBn : B = n := by omega
        rw [hBn] at hmt
        simp only [l6, l8, t9, go_sem]
        rw [finish_flat rfl hp]
        exact ⟨rfl, w, c, rfl, (fin w hwn hmt).1, (fin w hwn hmt).2⟩
  · have hge : ((K : Int) ≥ (n : Int)) := by omega
    simp only [s1, hge, l3, l6, t1, t2, go_sem]
    exact ⟨s0, 1, rfl, ⟨⟨Int.le_refl _, by show (0 : Int) ≤ _; omega⟩, ⟨Int.le_refl _, by show (0 : Int) ≤ _; omega⟩, Int.le_refl _, by show (0 : Int) ≤ _; omega⟩, best_skips i (fun j p q => hall j p q) (by
      rw [show (k : Int) + (i : Int) = (K : Int) by omega]
      exact best_end hE hge)⟩
open Classical in
theorem k_spec_BestSums (he : Rows h 5 ev (edges es)) (hl : es.length ≤ lim) : C T X n_spec_BestSums [graphV size ev] h = some (bestGV size es, h) := by
  refine C_go t_spec_BestSums rfl ?_
  have hg := k_spec_GraphOk (X := X) (size := size) he hl
  unfold bestGV bestG
  by_cases g : GOk size es
  · rw [if_pos g]
    have hE := gok_all g
    have hs := g.1
    obtain ⟨n, rfl⟩ : ∃ n : Nat, size = n := ⟨size.toNat, by omega⟩
    obtain ⟨g2, hg2⟩ : ∃ g2 : Heap, g2 = h ++ [⟨[], 1, y_int, true⟩] := ⟨_, rfl⟩
    have hpg : h <+: g2 := by rw [hg2]; exact List.prefix_append _ _
    have hu : Rows g2 1 (.slice (some ⟨h.length, 0, none⟩) 0 0) (ints []) := by rw [hg2]; exact Acc.new.rows
    obtain ⟨w, c, b1, b2, b3⟩ := k_spec_l09BestG (X := X) (es := es) (n := n) (by omega) hl hE (gok_one g) n 0 [] _ g2 (by omega) (by omega) (Nat.le_refl _) (he.up hpg) hu
    have hw := bsF_all (best_first hE b3)
    unfold graphV at b1 hg
    unfold bestS at b1
    unfold F_spec_BestSums graphV
    have z0 : ((0 : Nat) : Int) = 0 := rfl
    rw [z0] at b1
    rw [hw]
    simp only [hg, g, zeros, fillAt, ← hg2, b1, go_sem]
    exact finish_flat rfl hpg
  · rw [if_neg g]
    unfold graphV at hg
    unfold F_spec_BestSums graphV
    simp only [hg, g, zeros, fillAt, go_sem]
    rfl
open Classical in
noncomputable def sumsW (size : Int) (es : List E) (l : List Cp) : S3 := if MOk size es l then pS es l else s0
open Classical in
noncomputable def sumsV (size : Int) (es : List E) (l : List Cp) : Value := .tuple ⟨[.agg ⟨[.int .i64 (sumsW size es l).x, .int .i64 (sumsW size es l).y, .int .i64 (sumsW size es l).z]⟩, .bool (decide (MOk size es l))]⟩
open Classical in
theorem k_spec_SumsOf (he : Rows h 5 ev (edges es)) (hcp : Rows h 2 mv (cps l)) (hel : es.length ≤ 100) (hml : l.length ≤ 100) : C T X n_spec_SumsOf [graphV size ev, mv] h = some (sumsV size es l, h) := by
  refine C_go t_spec_SumsOf rfl ?_
  have hk := k_spec_MatchOk (X := X) (size := size) he hcp (by unfold lim; omega) (by omega)
  unfold sumsV sumsW
  by_cases g : MOk size es l
  · rw [if_pos g]
    have ks := k_spec_l09Sums (X := X) he hcp hel hml (.inr g)
    unfold graphV at hk ks
    unfold F_spec_SumsOf graphV
    simp only [hk, g, ks, zeros, fillAt, go_sem]
  · rw [if_neg g]
    unfold graphV at hk
    unfold F_spec_SumsOf graphV
    simp only [hk, g, zeros, fillAt, go_sem]
    rfl
open Classical in
theorem k_impl_SumsOf (he : Rows h 5 ev (edges es)) (hcp : Rows h 2 mv (cps l)) (hel : es.length ≤ 100) (hml : l.length ≤ 100) : C T X n_impl_SumsOf [graphV size ev, mv] h = some (sumsV size es l, h) := by
  refine C_go t_impl_SumsOf rfl ?_
  have hk := k_impl_MatchOk (X := X) (size := size) he hcp (by unfold lim; omega) (by omega)
  unfold sumsV sumsW
  by_cases g : MOk size es l
  · rw [if_pos g]
    unfold graphV at hk
    unfold F_impl_SumsOf graphV
    simp only [hk, g, hcp.lnm, zeros, fillAt, go_sem]
    refine w_for l.length (fun i t loc h' => h' = h ∧ t 14 = mv ∧ t 15 = .int .i64 (l.length : Int) ∧ t 16 = .int .i64 i ∧ loc 2 = some [.int .i64 size, ev] ∧ loc 4 = some [.int .i64 0, .int .i64 0, .int .i64 0] ∧ loc 6 = some [.int .i64 (pS es (l.take i)).x, .int .i64 (pS es (l.take i)).y, .int .i64 (pS es (l.take i)).z]) ⟨rfl, rfl, rfl, rfl, rfl, rfl, rfl⟩ ?_
    rintro i t loc h' hi ⟨rfl, t14, t15, t16, l2, l4, l6⟩
    simp only [t15, t16, go_sem]
    refine w_open (by simp only [go_sem]; rfl) ?_ ?_ <;> intro hc
    · have hi1 : i < l.length := by omega
      have hw : IntKind.i64.wrap ((i : Int) + 1) = ((i + 1 : Nat) : Int) := w64 (by omega) (by omega)
      have el := cp_el hcp hi1
      obtain ⟨j, j1, j2, j3⟩ := mok_edge g hi1
      have hTin := (pS_in g i (by omega))
      have hsn : pS es (l.take (i + 1)) = (pS es (l.take i)).add (wS (es.getD j e0)) := by
        rw [take_snocD' (d := c0) hi1, pS_snoc]
        have : cpW es (l.getD i c0) = wS (es.getD j e0) := by unfold cpW; rw [j1, Int.toNat_natCast]
        rw [this]
      obtain ⟨T, hT⟩ : ∃ T, T = pS es (l.take i) := ⟨_, rfl⟩
      rw [← hT] at l6 hTin hsn
      obtain ⟨q, hqq⟩ : ∃ q, q = l.getD i c0 := ⟨_, rfl⟩
      rw [← hqq] at el j1
      have ee := edge_el he j2
      have kea := k_impl_edgeAt (X := X) (size := size) (x := q.a) (y := q.b) he (by unfold lim; omega)
      unfold graphV at kea
      rw [j1] at kea
      obtain ⟨e, hee⟩ : ∃ e, e = es.getD j e0 := ⟨_, rfl⟩
      rw [← hee] at ee j3 hsn
      unfold S3In at hTin
      unfold S3In wS at j3
      simp only at j3
      have w1 : IntKind.i64.wrap (T.x + e.w1) = T.x + e.w1 := w64 (by omega) (by omega)
      have w2 : IntKind.i64.wrap (T.y + e.w2) = T.y + e.w2 := w64 (by omega) (by omega)
      have w3 : IntKind.i64.wrap (T.z + e.w3) = T.z + e.w3 := w64 (by omega) (by omega)
      simp only [t14, t15, t16, l2, l4, l6, el.1, el.2.2.1, kea, ee.1, ee.2.2.1, k_impl_Sums_plus, w1, w2, w3, hw, zeros, fillAt, go_sem]
      exact ⟨hi1, by rw [hsn]; rfl⟩
    · have hin : i = l.length := by omega
      subst hin
      rw [List.take_length] at l6
      simp only [l4, l6, go_sem]
  · rw [if_neg g]
    unfold graphV at hk
    unfold F_impl_SumsOf graphV
    simp only [hk, g, zeros, fillAt, go_sem]
    rfl
end
end Go.Proofs.YtgmljppiiighmaaGreatDoor.Ab
set_option linter.unusedSimpArgs false
set_option linter.unusedVariables false
set_option linter.unnecessarySimpa false
set_option maxHeartbeats 4000000
namespace Go.Proofs.YtgmljppiiighmaaGreatDoor.Ab
open Go.RowKit
def SumOkR (m : List Pr) (r : Int) : Prop := bestG (roundC m r).size (roundC m r).es = sumsW (roundC m r).size (roundC m r).es (roundC m r).m
/-- As the program asks, and as the reference. -/
def AudI (m : List Pr) (r : Nat) : Prop := ∀ id ∈ idsT m tAll, ((getK m (vK id)).getD noT = pT r ↔ (id : Int) ∈ metL (coupL m (r : Int)))
def AudP (m : List Pr) (r : Nat) (i : Nat) : Prop := (i : Int) ∈ metL (roundC m (r : Int)).m ↔ (getK m (vK ((roundP m (r : Int)).getD i 0).toNat)).getD noT = pT r
def AudS (m : List Pr) (r : Nat) : Prop := (∀ i, i < (roundP m (r : Int)).length → AudP m r i) ∧ ∀ id ∈ idsT m (fun v => decide (v = pT r)), (id : Int) ∈ roundP m (r : Int)
theorem pT_ne {r : Nat} : ¬ noT = pT r := fun h => id_noT (R := r + 1) ⟨r, by omega, h⟩
theorem pool_inc {m : List Pr} {v : ByteArray} (h : PoolIs m v) : ∀ {i j : Nat}, i < j → j < v.size → byt v i < byt v j
  | i, j + 1, hij, hj => by
    have h1 := (h.2 (j + 1) hj).2 (by omega)
    rw [Nat.add_sub_cancel] at h1
    by_cases e : i = j
    · rw [e]; exact h1
    · have := pool_inc h (show i < j by omega) (by omega)
      omega
theorem pool_inj {m : List Pr} {v : ByteArray} (h : PoolIs m v) {i j : Nat} (hi : i < v.size) (hj : j < v.size) (e : byt v i = byt v j) : i = j := by
  rcases Nat.lt_trichotomy i j with k | k | k
  · have := pool_inc h k hj; omega
  · exact k
  · have := pool_inc h k hi; omega
theorem coup_mem {m : List Pr} {v : ByteArray} {r : Nat} (hP : roundP m (r : Int) = bytL v) (hI : PoolIs m v) {i : Nat} (hi : i < v.size) : (((byt v i : Nat) : Int) ∈ metL (coupL m (r : Int))) ↔ (i : Int) ∈ metL (roundC m (r : Int)).m := by
  rw [metL_mem, metL_mem]
  have hg : ∀ a : Nat, a < v.size → (roundP m (r : Int)).getD ((a : Int)).toNat 0 = ((byt v a : Nat) : Int) := fun a ha => by rw [hP, Int.toNat_natCast, bytL_get ha]
  have hr : ∀ c ∈ (roundC m (r : Int)).m, ∃ a b : Nat, c.a = (a : Int) ∧ c.b = (b : Int) ∧ a < v.size ∧ b < v.size := fun c hc => by
    obtain ⟨k, hk, rfl⟩ := mem_getD (d := c0) hc
    have h := rnd_cp hk
    rw [hP, bytL_len] at h
    exact ⟨_, _, (Int.toNat_of_nonneg h.1.1).symm, (Int.toNat_of_nonneg h.2.1).symm, by omega, by omega⟩
  constructor
  · rintro ⟨c, hc, h⟩
    unfold coupL at hc
    obtain ⟨q, hq, rfl⟩ := List.mem_map.1 hc
    obtain ⟨a, b, ha, hb, la, lb⟩ := hr q hq
    unfold coupF at h
    rw [ha, hb, hg a la, hg b lb] at h
    refine ⟨q, hq, ?_⟩
    rcases h with h | h
    · left
      have := pool_inj hI la hi (by simp only at h; omega)
      omega
    · right
      have := pool_inj hI lb hi (by simp only at h; omega)
      omega
  · rintro ⟨q, hq, h⟩
    obtain ⟨a, b, ha, hb, la, lb⟩ := hr q hq
    refine ⟨coupF m (r : Int) q, List.mem_map.2 ⟨q, hq, rfl⟩, ?_⟩
    unfold coupF
    rw [ha, hb, hg a la, hg b lb]
    rcases h with h | h
    · left
      have : a = i := by omega
      rw [this]
    · right
      have : b = i := by omega
      rw [this]
theorem coup_in {m : List Pr} {v : ByteArray} {r : Nat} (hP : roundP m (r : Int) = bytL v) {x : Int} (h : x ∈ metL (coupL m (r : Int))) : ∃ i, i < v.size ∧ x = ((byt v i : Nat) : Int) := by
  obtain ⟨c, hc, h⟩ := metL_mem.1 h
  unfold coupL at hc
  obtain ⟨q, hq, rfl⟩ := List.mem_map.1 hc
  obtain ⟨k, hk, rfl⟩ := mem_getD (d := c0) hq
  have hr := rnd_cp hk
  unfold coupF at h
  rw [hP] at h hr
  rw [bytL_len] at hr
  rcases h with h | h
  · refine ⟨((roundC m (r : Int)).m.getD k c0).a.toNat, by omega, ?_⟩
    rw [← h]
    exact bytL_get (by omega)
  · refine ⟨((roundC m (r : Int)).m.getD k c0).b.toNat, by omega, ?_⟩
    rw [← h]
    exact bytL_get (by omega)
theorem aud_same {m : List Pr} {R r : Nat} (st : StI cfR m) (hR : IsRnd m R) (hr : r < R) : AudI m r ↔ AudS m r := by
  obtain ⟨v, n, hv, hI, _⟩ := st_round st hR hr
  have hP : roundP m (r : Int) = bytL v := by rw [roundP_in st hR hr]; unfold poolT; rw [hv]; rfl
  have hj : ∀ i, i < v.size → byt v i ∈ idsT m tAll := fun i hi => by
    obtain ⟨h1, h2⟩ := (hI.2 i hi).1
    refine idsT_mem.2 ⟨h1, ?_⟩
    cases hg : getK m (vK (byt v i)) with
    | none => rw [hg] at h2; cases h2
    | some w => exact ⟨w, rfl, rfl⟩
  have hgd : ∀ i, i < v.size → ((roundP m (r : Int)).getD i 0).toNat = byt v i := fun i hi => by rw [hP, bytL_get hi]; rfl
  have hval : ∀ id, (getK m (vK id)).getD noT = pT r → ∃ i, id = i ∧ id ∈ idsT m tAll ∧ id ∈ idsT m (fun v => decide (v = pT r)) := fun id h => by
    cases hg : getK m (vK id) with
    | none => rw [hg] at h; exact absurd h pT_ne
    | some w =>
      rw [hg, Option.getD_some] at h
      have h12 := (st_val st hR hg).1
      exact ⟨id, rfl, idsT_mem.2 ⟨h12, w, hg, rfl⟩, idsT_mem.2 ⟨h12, w, hg, by simp [h]⟩⟩
  constructor
  · intro h
    refine ⟨fun i hi => ?_, fun id hid => ?_⟩
    · rw [hP, bytL_len] at hi
      unfold AudP
      rw [hgd i hi, ← coup_mem hP hI hi]
      exact (h _ (hj i hi)).symm
    · obtain ⟨h1, w, h2, h3⟩ := idsT_mem.1 hid
      have hw : w = pT r := by simpa using h3
      have hq : (getK m (vK id)).getD noT = pT r := by rw [h2, hw]; rfl
      obtain ⟨i, hi, e⟩ := coup_in hP ((h id (idsT_mem.2 ⟨h1, w, h2, rfl⟩)).1 hq)
      rw [hP, e]
      unfold bytL
      exact List.mem_map.2 ⟨i, List.mem_range.2 hi, rfl⟩
  · rintro ⟨h1, h2⟩ id hid
    constructor
    · intro hq
      obtain ⟨_, _, _, h3⟩ := hval id hq
      have h4 := h2 id h3
      rw [hP] at h4
      unfold bytL at h4
      obtain ⟨i, hi, e⟩ := List.mem_map.1 h4
      have hi' := List.mem_range.1 hi
      have e' : byt v i = id := by omega
      have h5 := h1 i (by rw [hP, bytL_len]; exact hi')
      unfold AudP at h5
      rw [hgd i hi', e', ← coup_mem hP hI hi', e'] at h5
      exact h5.2 hq
    · intro hm
      obtain ⟨i, hi, e⟩ := coup_in hP hm
      have e' : byt v i = id := by omega
      have h5 := h1 i (by rw [hP, bytL_len]; exact hi)
      unfold AudP at h5
      rw [hgd i hi, e', ← coup_mem hP hI hi, e'] at h5
      exact h5.1 hm
/-- All rounds are as they must be. -/
def AudR (m : List Pr) (r : Nat) : Prop := SumOkR m (r : Int) ∧ AudI m r
def Aud (m : List Pr) : Prop := StI cfR m ∧ ∀ r, r < rndsN m → AudR m r
end Go.Proofs.YtgmljppiiighmaaGreatDoor.Ab
set_option linter.unusedSimpArgs false
set_option linter.unusedVariables false
set_option linter.unnecessarySimpa false
set_option maxHeartbeats 4000000
namespace Go.Proofs.YtgmljppiiighmaaGreatDoor.Ab
open Go.RowKit
theorem natI_get {l : List Nat} {i : Nat} (hi : i < l.length) : (natI l).getD i 0 = ((l.getD i 0 : Nat) : Int) := by simp [natI, hi]
section
variable {X : CallF} [LibX X] {h : Heap} {m : List Pr} {mv : Value} {r : Int}
end
section
variable {X : CallF} {h : Heap} {m : List Pr} {mv : Value} {r : Int}
end
section
variable {X : CallF} [LibX X] {h : Heap} {m : List Pr} {mv : Value} {r : Int}
end
section
variable {X : CallF} {h : Heap} {m : List Pr} {mv : Value} {r : Int}
end
end Go.Proofs.YtgmljppiiighmaaGreatDoor.Ab
