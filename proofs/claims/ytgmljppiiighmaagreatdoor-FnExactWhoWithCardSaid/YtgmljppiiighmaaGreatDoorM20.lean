/- Joined: K62, K64, Op3, LFnExactWhoWith. No conditions. -/
import Derived.Test.YtgmljppiiighmaaGreatDoorM19
import Derived.Test.YtgmljppiiighmaaGreatDoorM12
import Derived.Test.YtgmljppiiighmaaGreatDoorM4
import Derived.Test.YtgmljppiiighmaaGreatDoorM15
set_option linter.unusedSimpArgs false
set_option linter.unusedVariables false
set_option linter.unnecessarySimpa false
set_option maxHeartbeats 4000000
namespace Go.Proofs.YtgmljppiiighmaaGreatDoor.Ab
open Go.RowKit
theorem rdI_ok {s : ByteArray} (h : (rdI s).ok = true) : CertOk (rdI s).size (rdI s).es (rdI s).m (rdI s).ys (rdI s).gs := by
  unfold rdI at h ⊢
  by_cases k : CokI s
  · rw [if_pos k]
    exact k.2.2
  · rw [if_neg k] at h
    cases h
theorem cp_rng {size : Int} {es : List E} {l : List Cp} (g : MOk size es l) {i : Nat} (hi : i < l.length) : (0 ≤ (l.getD i c0).a ∧ (l.getD i c0).a < size) ∧ 0 ≤ (l.getD i c0).b ∧ (l.getD i c0).b < size := by
  have h := (mok_met g l.length (Nat.le_refl _)).2
  rw [List.take_length] at h
  have hm := getD_mem (d := c0) hi
  exact ⟨h _ (metL_mem.2 ⟨_, hm, .inl rfl⟩), h _ (metL_mem.2 ⟨_, hm, .inr rfl⟩)⟩
section
variable {m : List Pr} {r : Int}
theorem rnd_facts (k : RIn m r) : (roundC m r).ok = true ∧ CertOk (roundC m r).size (roundC m r).es (roundC m r).m (roundC m r).ys (roundC m r).gs ∧ (roundC m r).size = ((roundP m r).length : Int) := by
  obtain ⟨R, hR⟩ := rnd_ex m
  obtain ⟨n, rfl, hn, st, w, hw, hpi, hok, hsz⟩ := rin_facts k hR
  unfold roundC roundP
  rw [if_pos k, if_pos k, Int.toNat_natCast]
  have hP : poolT m n = w := by unfold poolT; rw [hw]; rfl
  rw [hP, bytL_len]
  exact ⟨hok, rdI_ok hok, hsz⟩
theorem rnd_not (k : ¬ RIn m r) : roundC m r = ⟨0, [], [], [], [], false⟩ ∧ roundP m r = [] := by
  unfold roundC roundP
  rw [if_neg k, if_neg k]
  exact ⟨rfl, rfl⟩
theorem rnd_cp {i : Nat} (hi : i < (roundC m r).m.length) : (0 ≤ ((roundC m r).m.getD i c0).a ∧ ((roundC m r).m.getD i c0).a < ((roundP m r).length : Int)) ∧ 0 ≤ ((roundC m r).m.getD i c0).b ∧ ((roundC m r).m.getD i c0).b < ((roundP m r).length : Int) := by
  by_cases k : RIn m r
  · obtain ⟨h1, h2, h3⟩ := rnd_facts k
    rw [← h3]
    exact cp_rng h2.2.1 hi
  · rw [(rnd_not k).1] at hi
    simp at hi
theorem rnd_len : (roundC m r).m.length ≤ 100 := by
  by_cases k : RIn m r
  · have := (cert_lens (rnd_facts k).2.1).2.2.1
    omega
  · rw [(rnd_not k).1]
    simp
theorem rnd_plen : (roundP m r).length ≤ 9 := by
  by_cases k : RIn m r
  · have h1 := (cert_lens (rnd_facts k).2.1).1
    have h2 := (rnd_facts k).2.2
    omega
  · rw [(rnd_not k).2]
    simp
/-- The couples of a round, as ids. -/
noncomputable def coupF (m : List Pr) (r : Int) (c : Cp) : Cp := ⟨(roundP m r).getD c.a.toNat 0, (roundP m r).getD c.b.toNat 0⟩
noncomputable def coupL (m : List Pr) (r : Int) : List Cp := (roundC m r).m.map (coupF m r)
theorem coupL_len : (coupL m r).length ≤ 100 := by unfold coupL; rw [List.length_map]; exact rnd_len
theorem take_mapD {α β : Type} {d : α} {f : α → β} {l : List α} {i : Nat} (hi : i < l.length) : (l.take (i + 1)).map f = (l.take i).map f ++ [f (l.getD i d)] := by
  rw [take_snocD' (d := d) hi, List.map_append]; rfl
end
section
variable {X : CallF} [LibX X] {h : Heap} {m : List Pr} {mv : Value} {r : Int}
theorem k_impl_CouplesOf (hm : Rows h 2 mv (prsL m)) (hl : m.length ≤ lim) : ∃ v hh, C T X n_impl_CouplesOf [mv, .int .i64 r] h = some (.tuple ⟨[v, .bool (roundC m r).ok]⟩, hh) ∧ h <+: hh ∧ Own hh h.length hh.length 2 y_Couple v (cps (coupL m r)) := by
  suffices hs : ∃ w hh, C T X n_impl_CouplesOf [mv, .int .i64 r] h = some (w, hh) ∧ h <+: hh ∧ ∃ v, w = .tuple ⟨[v, .bool (roundC m r).ok]⟩ ∧ Own hh h.length hh.length 2 y_Couple v (cps (coupL m r)) by
    obtain ⟨w, hh, c, p, v, rfl, o⟩ := hs
    exact ⟨v, hh, c, p, o⟩
  refine C_ex t_impl_CouplesOf rfl ?_
  unfold F_impl_CouplesOf
  obtain ⟨v1, h1, c1, p1, a⟩ := k_impl_RoundOf (X := X) (r := r) hm hl
  obtain ⟨pv, ew, mw, yw, gw, rfl, o0, o1, o2, o3, o4⟩ := a.weak
  unfold certV at c1
  by_cases k : RIn m r
  · rw [(rnd_facts k).1] at c1 ⊢
    have hcl := rnd_len (m := m) (r := r)
    have hpl := rnd_plen (m := m) (r := r)
    simp only [c1, p1, o2.rows.lnm, zeros, fillAt, go_sem]
    refine w_for (roundC m r).m.length (fun i t loc h' => t 6 = pv ∧ t 22 = mw ∧ t 23 = .int .i64 ((roundC m r).m.length : Int) ∧ t 24 = .int .i64 i ∧ h1 <+: h' ∧ ∃ v, t 9 = v ∧ Own h' h1.length h'.length 2 y_Couple v (cps (((roundC m r).m.take i).map (coupF m r)))) ⟨rfl, rfl, rfl, rfl, List.prefix_refl _, _, rfl, Own.nil⟩ ?_
    rintro i t loc h' hi ⟨t6, t22, t23, t24, hp, v, t9, o⟩
    simp only [t23, t24, go_sem]
    refine w_open (by simp only [go_sem]; rfl) ?_ ?_ <;> intro hc
    · have hi1 : i < (roundC m r).m.length := by omega
      have hw : IntKind.i64.wrap ((i : Int) + 1) = ((i + 1 : Nat) : Int) := w64 (by omega) (by omega)
      have hel := cp_el (o2.rows.up hp) hi1
      have hrg := rnd_cp hi1
      obtain ⟨q, hq⟩ : ∃ q, q = (roundC m r).m.getD i c0 := ⟨_, rfl⟩
      rw [← hq] at hel hrg
      obtain ⟨a1, ha1⟩ := Int.eq_ofNat_of_zero_le hrg.1.1
      obtain ⟨b1, hb1⟩ := Int.eq_ofNat_of_zero_le hrg.2.1
      have ea := int_el (o0.rows.up hp) (i := a1) (by omega)
      have eb := int_el (o0.rows.up hp) (i := b1) (by omega)
      rw [ha1, hb1] at hel
      obtain ⟨v2, h2, c3, q1, q2, o5⟩ := o.push1 (pre_len hp) [.int .i64 ((roundP m r).getD a1 0), .int .i64 ((roundP m r).getD b1 0)] rfl (by simp; unfold lim; omega)
      rw [Nat.max_eq_right q1] at o5
      simp only [t6, t9, t22, t23, t24, hel.1, hel.2.2.1, ea.1, ea.2, eb.1, eb.2, zeros, fillAt, c3, o5.cells, hw, go_sem]
      refine ⟨hi1, pre_push hp (Nat.le_refl _) q1 q2, v2, rfl, ?_⟩
      rw [take_mapD (d := c0) hi1, ← hq]
      have e : coupF m r q = ⟨(roundP m r).getD a1 0, (roundP m r).getD b1 0⟩ := by unfold coupF; rw [ha1, hb1]; rfl
      rw [e]
      simpa [cps, cpR] using o5
    · have hin : i = (roundC m r).m.length := by omega
      subst hin
      rw [List.take_length] at o
      simp only [t9, go_sem]
      have hpp := p1.trans hp
      refine ⟨o.live, ?_⟩
      obtain ⟨hh, e, p2, hc⟩ := finish_cases (v := .tuple ⟨[v, .bool true]⟩) hpp
      rw [e]
      dsimp only
      rcases hc with rfl | ⟨hf, rfl⟩
      · exact ⟨p2, v, rfl, o.wide (pre_len p1) (Nat.le_refl _)⟩
      · simp only [flat, List.all_cons, Bool.and_eq_true] at hf
        exact ⟨p2, v, rfl, o.flatP (o.fl1 hf.1)⟩
  · have hk := rnd_not k
    have hL : coupL m r = [] := by unfold coupL; rw [hk.1]; rfl
    rw [hk.1] at c1 ⊢
    rw [hL]
    simp only [c1, p1, zeros, fillAt, go_sem]
    rw [finish_flat rfl p1]
    exact ⟨List.prefix_refl _, nilV, rfl, Own.nil⟩
end
section
variable {X : CallF} {h : Heap} {m : List Pr} {mv : Value} {r : Int}
theorem k_spec_CouplesOf (hm : Rows h 2 mv (prsL m)) (hl : m.length ≤ 1048576) : ∃ v hh, C T X n_spec_CouplesOf [mv, .int .i64 r] h = some (.tuple ⟨[v, .bool (roundC m r).ok]⟩, hh) ∧ h <+: hh ∧ Own hh h.length hh.length 2 y_Couple v (cps (coupL m r)) := by
  suffices hs : ∃ w hh, C T X n_spec_CouplesOf [mv, .int .i64 r] h = some (w, hh) ∧ h <+: hh ∧ ∃ v, w = .tuple ⟨[v, .bool (roundC m r).ok]⟩ ∧ Own hh h.length hh.length 2 y_Couple v (cps (coupL m r)) by
    obtain ⟨w, hh, c, p, v, rfl, o⟩ := hs
    exact ⟨v, hh, c, p, o⟩
  refine C_ex t_spec_CouplesOf rfl ?_
  unfold F_spec_CouplesOf
  obtain ⟨v1, h1, c1, p1, a⟩ := k_spec_RoundOf (X := X) (r := r) hm hl
  obtain ⟨pv, ew, mw, yw, gw, rfl, o0, o1, o2, o3, o4⟩ := a
  unfold certV at c1
  have hcl := rnd_len (m := m) (r := r)
  have hpl := rnd_plen (m := m) (r := r)
  simp only [c1, p1, zeros, fillAt, go_sem]
  refine w_for (roundC m r).m.length (fun i t loc h' => t 6 = pv ∧ t 8 = .bool (roundC m r).ok ∧ loc 7 = some [.int .i64 (roundC m r).size, ew, mw, yw, gw] ∧ t 10 = .int .i64 i ∧ h1 <+: h' ∧ ∃ v, t 9 = v ∧ Own h' h1.length h'.length 2 y_Couple v (cps (((roundC m r).m.take i).map (coupF m r)))) ⟨rfl, rfl, rfl, rfl, List.prefix_append _ _, _, rfl, Acc.new.own⟩ ?_
  rintro i t loc h' hi ⟨t6, t8, l7, t10, hp, v, t9, o⟩
  have ln := (o2.rows.up hp).lnm
  simp only [t10, l7, ln, go_sem]
  refine w_open (by simp only [go_sem]; rfl) ?_ ?_ <;> intro hc
  · have hi1 : i < (roundC m r).m.length := by omega
    have hw : IntKind.i64.wrap ((i : Int) + 1) = ((i + 1 : Nat) : Int) := w64 (by omega) (by omega)
    have hel := cp_el (o2.rows.up hp) hi1
    have hrg := rnd_cp hi1
    obtain ⟨q, hq⟩ : ∃ q, q = (roundC m r).m.getD i c0 := ⟨_, rfl⟩
    rw [← hq] at hel hrg
    obtain ⟨a1, ha1⟩ := Int.eq_ofNat_of_zero_le hrg.1.1
    obtain ⟨b1, hb1⟩ := Int.eq_ofNat_of_zero_le hrg.2.1
    have ea := int_el (o0.rows.up hp) (i := a1) (by omega)
    have eb := int_el (o0.rows.up hp) (i := b1) (by omega)
    rw [ha1, hb1] at hel
    obtain ⟨v2, h2, c3, q1, q2, o5⟩ := o.push1 (pre_len hp) [.int .i64 ((roundP m r).getD a1 0), .int .i64 ((roundP m r).getD b1 0)] rfl (by simp; unfold lim; omega)
    rw [Nat.max_eq_right q1] at o5
    simp only [t6, t8, t9, t10, l7, hel.1, hel.2.1, hel.2.2.2.1, hel.2.2.2.2, ea.1, ea.2, eb.1, eb.2, zeros, fillAt, c3, o5.cells, hw, go_sem]
    refine ⟨hi1, pre_push hp (Nat.le_refl _) q1 q2, v2, rfl, ?_⟩
    rw [take_mapD (d := c0) hi1, ← hq]
    have e : coupF m r q = ⟨(roundP m r).getD a1 0, (roundP m r).getD b1 0⟩ := by unfold coupF; rw [ha1, hb1]; rfl
    rw [e]
    simpa [cps, cpR] using o5
  · have hin : i = (roundC m r).m.length := by omega
    subst hin
    rw [List.take_length] at o
    simp only [t8, t9, go_sem]
    have hpp := p1.trans hp
    refine ⟨o.live, ?_⟩
    obtain ⟨hh, e, p2, hc⟩ := finish_cases (v := .tuple ⟨[v, .bool (roundC m r).ok]⟩) hpp
    rw [e]
    dsimp only
    rcases hc with rfl | ⟨hf, rfl⟩
    · exact ⟨p2, v, rfl, o.wide (pre_len p1) (Nat.le_refl _)⟩
    · simp only [flat, List.all_cons, Bool.and_eq_true] at hf
      exact ⟨p2, v, rfl, o.flatP (o.fl1 hf.1)⟩
end
end Go.Proofs.YtgmljppiiighmaaGreatDoor.Ab
set_option linter.unusedSimpArgs false
set_option linter.unusedVariables false
set_option linter.unnecessarySimpa false
set_option maxHeartbeats 4000000
namespace Go.Proofs.YtgmljppiiighmaaGreatDoor.Ab
open Go.RowKit
/-- Who an id is with in some couples. -/
def whoF (id : Int) : List Cp → Option Int
  | [] => none
  | c :: l => if c.a = id then some c.b else if c.b = id then some c.a else whoF id l
theorem whoF_cons {id : Int} {c : Cp} {l : List Cp} : whoF id (c :: l) = if c.a = id then some c.b else if c.b = id then some c.a else whoF id l := rfl
def decOf (v : ByteArray) : ByteArray := v.extract 1 v.size
open Classical in
noncomputable def whoO (m : List Pr) (id : Int) : Option (Int × Nat) :=
  if StI cfR m ∧ 0 ≤ id ∧ id ≤ 11 then
    match getK m (vK id.toNat) with
    | some v => if byt v 0 = 112 then (whoF id (coupL m (dcN (decOf v) : Int))).map fun x => (x, dcN (decOf v)) else none
    | none => none
  else none
def whoV : Option (Int × Nat) → Value
  | some (x, r) => .tuple ⟨[.int .i64 x, .int .i64 (r : Int), .bool true]⟩
  | none => .tuple ⟨[.int .i64 0, .int .i64 0, .bool false]⟩
theorem whoV_form (o : Option (Int × Nat)) : ∃ (x r : Int) (b : Bool), whoV o = .tuple ⟨[.int .i64 x, .int .i64 r, .bool b]⟩ := by
  cases o with
  | none => exact ⟨0, 0, false, rfl⟩
  | some p => exact ⟨p.1, p.2, true, rfl⟩
theorem drop_consD {α : Type} {d : α} {l : List α} {i : Nat} (hi : i < l.length) : l.drop i = l.getD i d :: l.drop (i + 1) := by
  rw [List.getD_eq_getElem?_getD, List.getElem?_eq_getElem hi, Option.getD_some, List.drop_eq_getElem_cons hi]
section
variable {X : CallF} [LibX X] {h : Heap} {m : List Pr} {mv : Value} {id : Int}
theorem k_impl_WhoWith (hm : Rows h 2 mv (prsL m)) (hl : m.length ≤ lim) : C T X n_impl_WhoWith [mv, .int .i64 id] h = some (whoV (whoO m id), h) := by
  refine C_go t_impl_WhoWith rfl ?_
  unfold F_impl_WhoWith whoO
  have c := k_impl_StateOk (X := X) hm hl
  by_cases st : StI cfR m
  · rw [tB_t st] at c
    by_cases c1 : (decide ((0 : Int) ≤ id) && decide (id ≤ 11)) = true
    · have c1' : 0 ≤ id ∧ id ≤ 11 := by simpa using c1
      rw [if_pos ⟨st, c1'⟩]
      obtain ⟨i, rfl⟩ := Int.eq_ofNat_of_zero_le c1'.1
      rw [Int.toNat_natCast]
      obtain ⟨R, hR⟩ := rnd_ex m
      have h2 := k_impl_two (X := X) (h := h) (n := i) (by omega)
      have hz := twoT_size (n := i) (by omega)
      have hz1 : (⟨[118]⟩ : Array UInt8).size + (twoT i).size ≤ 9223372036854775807 := by rw [asz]; omega
      have hg := k_impl_get (X := X) (k := vK i) hm hl
      unfold getV at hg
      cases e : getK m (vK i) with
      | none =>
        rw [e] at hg
        simp only [Option.getD_none, Option.isSome_none] at hg
        simp only [c, k_impl_in, c1, h2, hz1, vK_app, hg, zeros, fillAt, whoV, go_sem]
      | some v =>
        rw [e] at hg
        simp only [Option.getD_some, Option.isSome_some] at hg
        have hv := val_byt (st_val st hR e).2
        have hsz := getK_size (mapIs_v st.1) (k := vK i)
        rw [e, Option.getD_some] at hsz
        have e0 : ixV (.string v) (.int .i64 0) = some (.int .u8 (byt v 0 : Nat)) := ix_byt (i := 0) (by omega)
        simp only
        by_cases c2 : byt v 0 = 112
        · rw [if_pos c2]
          have c2' : ((byt v 0 : Nat) : Int) = 112 := by omega
          have f2 : slSV (.string v) (some (.int .i64 1)) none = some (.string (v.extract 1 v.size)) := sl_from (a := 1) hv.1
          have h3 := k_impl_ReadDecimal (X := X) (h := h) (s := v.extract 1 v.size) (by rw [ByteArray.size_extract]; omega)
          obtain ⟨r, hr⟩ : ∃ r, r = dcN (decOf v) := ⟨_, rfl⟩
          have hr' : dcN (v.extract 1 v.size) = r := hr.symm
          rw [hr'] at h3
          rw [← hr]
          obtain ⟨cv, h4, k4, p4, o4⟩ := k_impl_CouplesOf (X := X) (r := (r : Int)) hm hl
          obtain ⟨L, hL⟩ : ∃ L, L = coupL m (r : Int) := ⟨_, rfl⟩
          have hLl : L.length ≤ 100 := by rw [hL]; exact coupL_len
          rw [← hL] at o4 ⊢
          simp only [c, k_impl_in, c1, h2, hz1, vK_app, hg, e0, c2', f2, h3, k4, p4, o4.rows.lnm, zeros, fillAt, go_sem]
          refine w_for L.length (fun j t loc h' => h' = h4 ∧ t 1 = .int .i64 (i : Int) ∧ t 9 = .int .i64 (r : Int) ∧ t 50 = cv ∧ t 51 = .int .i64 (L.length : Int) ∧ t 52 = .int .i64 j ∧ whoF (i : Int) L = whoF (i : Int) (L.drop j)) ⟨rfl, rfl, rfl, rfl, rfl, rfl, rfl⟩ ?_
          rintro j t loc h' hj ⟨rfl, t1, t9, t50, t51, t52, hw0⟩
          simp only [t51, t52, go_sem]
          refine w_open (by simp only [go_sem]; rfl) ?_ ?_ <;> intro hc
          · have hj1 : j < L.length := by omega
            have hw : IntKind.i64.wrap ((j : Int) + 1) = ((j + 1 : Nat) : Int) := w64 (by omega) (by omega)
            have el := cp_el o4.rows hj1
            rw [drop_consD (d := c0) hj1] at hw0
            obtain ⟨q, hq⟩ : ∃ q, q = L.getD j c0 := ⟨_, rfl⟩
            rw [← hq] at el hw0
            rw [whoF_cons] at hw0
            by_cases g1 : q.a = (i : Int)
            · rw [if_pos g1] at hw0
              simp only [t1, t9, t50, t51, t52, el.1, el.2.2.1, g1, zeros, fillAt, go_sem]
              rw [hw0]
              exact finish_flat rfl p4
            · rw [if_neg g1] at hw0
              by_cases g2 : q.b = (i : Int)
              · rw [if_pos g2] at hw0
                simp only [t1, t9, t50, t51, t52, el.1, el.2.2.1, g1, g2, zeros, fillAt, go_sem]
                rw [hw0]
                exact finish_flat rfl p4
              · rw [if_neg g2] at hw0
                simp only [t1, t9, t50, t51, t52, el.1, el.2.2.1, g1, g2, hw, zeros, fillAt, go_sem]
                exact ⟨hj1, hw0⟩
          · have hjn : j = L.length := by omega
            subst hjn
            rw [List.drop_length] at hw0
            simp only [go_sem]
            rw [hw0]
            exact finish_flat rfl p4
        · rw [if_neg c2]
          have c2' : ¬ ((byt v 0 : Nat) : Int) = 112 := by omega
          simp only [c, k_impl_in, c1, h2, hz1, vK_app, hg, e0, c2', zeros, fillAt, whoV, go_sem]
    · have c1' : (decide ((0 : Int) ≤ id) && decide (id ≤ 11)) = false := by simpa using c1
      rw [if_neg (fun k => c1 (by simpa using k.2))]
      simp only [c, k_impl_in, c1', whoV, go_sem]
  · rw [if_neg (fun k => st k.1)]
    rw [tB_f st] at c
    simp only [c, whoV, go_sem]
end
section
variable {X : CallF} {h : Heap} {m : List Pr} {mv : Value} {id : Int}
theorem k_spec_WhoWith (hm : Rows h 2 mv (prsL m)) (hl : m.length ≤ 1048576) : C T X n_spec_WhoWith [mv, .int .i64 id] h = some (whoV (whoO m id), h) := by
  have hl' : m.length ≤ lim := by unfold lim; omega
  refine C_go t_spec_WhoWith rfl ?_
  unfold F_spec_WhoWith whoO
  have c := k_spec_StateOk (X := X) hm hl'
  by_cases st : StI cfR m
  · rw [tB_t st] at c
    by_cases c1 : (decide ((0 : Int) ≤ id) && decide (id ≤ 11)) = true
    · have c1' : 0 ≤ id ∧ id ≤ 11 := by simpa using c1
      rw [if_pos ⟨st, c1'⟩]
      obtain ⟨i, rfl⟩ := Int.eq_ofNat_of_zero_le c1'.1
      rw [Int.toNat_natCast]
      obtain ⟨R, hR⟩ := rnd_ex m
      have h2 := k_spec_l13Two (X := X) (h := h) (n := i) (by omega)
      have hz := twoT_size (n := i) (by omega)
      have hz1 : (⟨[118]⟩ : Array UInt8).size + (twoT i).size ≤ 9223372036854775807 := by rw [asz]; omega
      have hg := k_spec_l13Get (X := X) (k := vK i) hm hl'
      unfold getV at hg
      cases e : getK m (vK i) with
      | none =>
        rw [e] at hg
        simp only [Option.getD_none, Option.isSome_none] at hg
        simp only [c, k_spec_l01In, c1, h2, hz1, vK_app, hg, zeros, fillAt, whoV, go_sem]
      | some v =>
        rw [e] at hg
        simp only [Option.getD_some, Option.isSome_some] at hg
        have hv := val_byt (st_val st hR e).2
        have e0 : ixV (.string v) (.int .i64 0) = some (.int .u8 (byt v 0 : Nat)) := ix_byt (i := 0) (by omega)
        simp only
        by_cases c2 : byt v 0 = 112
        · rw [if_pos c2]
          have c2' : ((byt v 0 : Nat) : Int) = 112 := by omega
          have f2 : slSV (.string v) (some (.int .i64 1)) none = some (.string (v.extract 1 v.size)) := sl_from (a := 1) hv.1
          have h3 := k_spec_ReadDecimal (X := X) (h := h) (s := v.extract 1 v.size)
          obtain ⟨r, hr⟩ : ∃ r, r = dcN (decOf v) := ⟨_, rfl⟩
          have hr' : dcN (v.extract 1 v.size) = r := hr.symm
          rw [hr'] at h3
          rw [← hr]
          obtain ⟨cv, h4, k4, p4, o4⟩ := k_spec_CouplesOf (X := X) (r := (r : Int)) hm hl
          obtain ⟨L, hL⟩ : ∃ L, L = coupL m (r : Int) := ⟨_, rfl⟩
          have hLl : L.length ≤ 100 := by rw [hL]; exact coupL_len
          rw [← hL] at o4 ⊢
          simp only [c, k_spec_l01In, c1, h2, hz1, vK_app, hg, e0, c2', f2, h3, k4, p4, zeros, fillAt, go_sem]
          refine w_for L.length (fun j t loc h' => h' = h4 ∧ t 1 = .int .i64 (i : Int) ∧ t 9 = .int .i64 (r : Int) ∧ t 11 = cv ∧ t 13 = .int .i64 j ∧ whoF (i : Int) L = whoF (i : Int) (L.drop j)) ⟨rfl, rfl, rfl, rfl, rfl, rfl⟩ ?_
          rintro j t loc h' hj ⟨rfl, t1, t9, t11, t13, hw0⟩
          simp only [t11, t13, o4.rows.lnm, go_sem]
          refine w_open (by simp only [go_sem]; rfl) ?_ ?_ <;> intro hc
          · have hj1 : j < L.length := by omega
            have hw : IntKind.i64.wrap ((j : Int) + 1) = ((j + 1 : Nat) : Int) := w64 (by omega) (by omega)
            have el := cp_el o4.rows hj1
            rw [drop_consD (d := c0) hj1] at hw0
            obtain ⟨q, hq⟩ : ∃ q, q = L.getD j c0 := ⟨_, rfl⟩
            rw [← hq] at el hw0
            rw [whoF_cons] at hw0
            by_cases g1 : q.a = (i : Int)
            · rw [if_pos g1] at hw0
              simp only [t1, t9, t11, t13, el.1, el.2.1, el.2.2.2.1, el.2.2.2.2, g1, zeros, fillAt, go_sem]
              rw [hw0]
              exact finish_flat rfl p4
            · rw [if_neg g1] at hw0
              by_cases g2 : q.b = (i : Int)
              · rw [if_pos g2] at hw0
                simp only [t1, t9, t11, t13, el.1, el.2.1, el.2.2.2.1, el.2.2.2.2, g1, g2, zeros, fillAt, go_sem]
                rw [hw0]
                exact finish_flat rfl p4
              · rw [if_neg g2] at hw0
                simp only [t1, t9, t11, t13, el.1, el.2.1, el.2.2.2.1, el.2.2.2.2, g1, g2, hw, zeros, fillAt, go_sem]
                exact ⟨hj1, hw0⟩
          · have hjn : j = L.length := by omega
            subst hjn
            rw [List.drop_length] at hw0
            simp only [go_sem]
            rw [hw0]
            exact finish_flat rfl p4
        · rw [if_neg c2]
          have c2' : ¬ ((byt v 0 : Nat) : Int) = 112 := by omega
          simp only [c, k_spec_l01In, c1, h2, hz1, vK_app, hg, e0, c2', zeros, fillAt, whoV, go_sem]
    · have c1' : (decide ((0 : Int) ≤ id) && decide (id ≤ 11)) = false := by simpa using c1
      rw [if_neg (fun k => c1 (by simpa using k.2))]
      simp only [c, k_spec_l01In, c1', whoV, go_sem]
  · rw [if_neg (fun k => st k.1)]
    rw [tB_f st] at c
    simp only [c, whoV, go_sem]
end
end Go.Proofs.YtgmljppiiighmaaGreatDoor.Ab
set_option linter.unusedSimpArgs false
set_option linter.unusedVariables false
set_option linter.unnecessarySimpa false
set_option maxHeartbeats 4000000
namespace Go.Proofs.YtgmljppiiighmaaGreatDoor.Ab
open Go.RowKit
section
variable {h : Heap} {v : Value}
/-- A list of edges. -/
theorem Shape.edges_inv (s : Shape h (.sl [.int .i64, .int .i64, .int .i64, .int .i64, .int .i64]) v) : ∃ l : List E, Rows h 5 v (edges l) ∧ l.length ≤ maxLen ∧ ∀ e ∈ l, I64 e.a ∧ I64 e.b ∧ I64 e.w1 ∧ I64 e.w2 ∧ I64 e.w3 := by
  obtain ⟨rows, hr, hm, hk⟩ := s.sl_inv
  obtain ⟨l, rfl, hl⟩ := rows_map (f := edgeR) (Q := fun e => I64 e.a ∧ I64 e.b ∧ I64 e.w1 ∧ I64 e.w2 ∧ I64 e.w3) (rows := rows) (fun r hrm => by
    obtain ⟨x, r', rfl, hx, h2⟩ := (hk r hrm).cons_inv
    obtain ⟨y, r', rfl, hy, h2⟩ := h2.cons_inv
    obtain ⟨z, r', rfl, hz, h2⟩ := h2.cons_inv
    obtain ⟨u, r', rfl, hu, h2⟩ := h2.cons_inv
    obtain ⟨w, r', rfl, hw, h2⟩ := h2.cons_inv
    obtain rfl := h2.nil_inv
    obtain ⟨a, rfl, ha⟩ := hx.int_inv
    obtain ⟨b, rfl, hb⟩ := hy.int_inv
    obtain ⟨c, rfl, hc⟩ := hz.int_inv
    obtain ⟨d, rfl, hd⟩ := hu.int_inv
    obtain ⟨e, rfl, he⟩ := hw.int_inv
    exact ⟨⟨a, b, c, d, e⟩, rfl, ha, hb, hc, hd, he⟩)
  exact ⟨l, hr, by simpa using hm, hl⟩
theorem Shape.pairs_inv (s : Shape h (.sl [.str, .str]) v) : ∃ l : List Pr, Rows h 2 v (prsL l) ∧ l.length ≤ maxLen ∧ ∀ e ∈ l, e.k.size ≤ maxLen ∧ e.v.size ≤ maxLen := by
  obtain ⟨rows, hr, hm, hk⟩ := s.sl_inv
  obtain ⟨l, rfl, hl⟩ := rows_map (f := prR) (Q := fun e => e.k.size ≤ maxLen ∧ e.v.size ≤ maxLen) (rows := rows) (fun r hrm => by
    obtain ⟨x, r', rfl, hx, h2⟩ := (hk r hrm).cons_inv
    obtain ⟨y, r', rfl, hy, h2⟩ := h2.cons_inv
    obtain rfl := h2.nil_inv
    obtain ⟨a, rfl, ha⟩ := hx.str_inv
    obtain ⟨b, rfl, hb⟩ := hy.str_inv
    exact ⟨⟨a, b⟩, rfl, ha, hb⟩)
  exact ⟨l, hr, by simpa using hm, hl⟩
theorem ArgOk.graph (a : ArgOk h (true, [.int .i64, .sl [.int .i64, .int .i64, .int .i64, .int .i64, .int .i64]]) v) : ∃ size ev es, v = graphV size ev ∧ I64 size ∧ Rows h 5 ev (edges es) ∧ es.length ≤ maxLen := by
  obtain ⟨acs, k, rfl⟩ := a.row
  obtain ⟨v0, r, rfl, k0, k⟩ := k.cons_inv
  obtain ⟨v1, r, rfl, k1, k⟩ := k.cons_inv
  obtain rfl := k.nil_inv
  obtain ⟨n, rfl, hn⟩ := k0.int_inv
  obtain ⟨es, he, hm, _⟩ := k1.edges_inv
  exact ⟨n, v1, es, rfl, hn, he, hm⟩
def AqOk (x : Aq) : Prop := I64 x.op ∧ I64 x.a ∧ I64 x.b ∧ I64 x.w1 ∧ I64 x.w2 ∧ I64 x.w3
theorem ArgOk.ask (a : ArgOk h (true, [.int .i64, .int .i64, .int .i64, .int .i64, .int .i64, .int .i64]) v) : ∃ x : Aq, v = .agg ⟨aqR x⟩ ∧ AqOk x := by
  obtain ⟨acs, k, rfl⟩ := a.row
  obtain ⟨v0, r, rfl, k0, k⟩ := k.cons_inv
  obtain ⟨v1, r, rfl, k1, k⟩ := k.cons_inv
  obtain ⟨v2, r, rfl, k2, k⟩ := k.cons_inv
  obtain ⟨v3, r, rfl, k3, k⟩ := k.cons_inv
  obtain ⟨v4, r, rfl, k4, k⟩ := k.cons_inv
  obtain ⟨v5, r, rfl, k5, k⟩ := k.cons_inv
  obtain rfl := k.nil_inv
  obtain ⟨n0, rfl, h0⟩ := k0.int_inv
  obtain ⟨n1, rfl, h1⟩ := k1.int_inv
  obtain ⟨n2, rfl, h2⟩ := k2.int_inv
  obtain ⟨n3, rfl, h3⟩ := k3.int_inv
  obtain ⟨n4, rfl, h4⟩ := k4.int_inv
  obtain ⟨n5, rfl, h5⟩ := k5.int_inv
  exact ⟨⟨n0, n1, n2, n3, n4, n5⟩, rfl, h0, h1, h2, h3, h4, h5⟩
end
end Go.Proofs.YtgmljppiiighmaaGreatDoor.Ab
set_option linter.unusedSimpArgs false
set_option linter.unusedVariables false
set_option linter.unnecessarySimpa false
set_option maxHeartbeats 4000000
namespace Go.Proofs.YtgmljppiiighmaaGreatDoor.Ab
open Go.RowKit
section
variable {X : CallF} [LibX X] {h : Heap} {mv0 : Value} {ml0 : List Pr} {x1 : Int}
open Classical in
theorem l_WhoWith (hm0 : Rows h 2 mv0 (prsL ml0)) (hx0 : PrMax ml0) (hx1 : I64 x1) : C T X n_laws_FnExactWhoWith [mv0, .int .i64 x1] h = some (.bool true, h) := by
  refine C_go t_laws_FnExactWhoWith rfl ?_
  unfold F_laws_FnExactWhoWith
  obtain ⟨n0, zc0, zb0, zd0⟩ := z_szPairS (X := X) hm0 hx0 (n := 1048576) (by omega) (by omega)
  by_cases hn0 : n0 < 0
  · simp only [zc0, hn0, go_sem]
  have bm0 : PrBnd ml0 := zd0 (by omega)
  have q0 : h <+: h := List.prefix_refl h
  obtain ⟨v1, h1, c1, p1, o1⟩ := x_toPairS (X := X) (hm0.up q0) (by have := bm0.1; unfold lim; omega)
  have q1 := q0.trans p1
  have l1 := pre_len p1
  have c3 := k_spec_WhoWith (X := X) (id := x1) o1.rows (by have := bm0.1; omega)
  obtain ⟨v4, h4, c4, p4, o4⟩ := x_toPairS (X := X) (hm0.up q1) (by have := bm0.1; unfold lim; omega)
  have q4 := q1.trans p4
  have l4 := pre_len p4
  have c6 := k_impl_WhoWith (X := X) (id := x1) o4.rows (by have := bm0.1; unfold lim; omega)
  obtain ⟨v7, h7, c7, p7, o7⟩ := x_toPairS (X := X) (hm0.up q4) (by have := bm0.1; unfold lim; omega)
  have o4_7 := o4.up p7
  have q7 := q4.trans p7
  have l7 := pre_len p7
  have c8 := k_eqPairS (X := X) o4_7.rows o7.rows (by have := bm0.1; unfold lim; omega)
  obtain ⟨a, r, b, hx⟩ := whoV_form (whoO ml0 x1)
  rw [hx] at c3 c6
  simp only [zc0, hn0, c1, c3, c4, c6, c7, c8, List.prefix_refl, BEq.rfl, p1, p4, p7, go_sem]
  try exact finish_flat rfl q7
end
def ps_FnExactWhoWith : List (Bool × List CK) := [(false, [.sl [.str, .str]]), (false, [.int .i64])]
theorem law_FnExactWhoWith (h : Heap) (avs : List Value) (ha : All2 (ArgOk h) ps_FnExactWhoWith avs) : C T libX n_laws_FnExactWhoWith avs h = some (.bool true, h) := by
  obtain ⟨v0, r, rfl, k0, ha⟩ := ha.cons_inv
  obtain ⟨v1, r, rfl, k1, ha⟩ := ha.cons_inv
  obtain rfl := ha.nil_inv
  obtain ⟨ml0, hm0, hx0a, hx0b⟩ := k0.cell.pairs_inv
  have hx0 : PrMax ml0 := ⟨hx0a, hx0b⟩
  obtain ⟨x1, rfl, hx1⟩ := k1.cell.int_inv
  exact l_WhoWith hm0 hx0 hx1
end Go.Proofs.YtgmljppiiighmaaGreatDoor.Ab
