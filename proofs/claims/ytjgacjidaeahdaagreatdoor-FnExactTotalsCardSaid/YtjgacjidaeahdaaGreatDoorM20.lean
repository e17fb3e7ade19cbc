/- Joined: K61, K62, K63, P2, P4, P17, K31, K67, H12, Op3, LFnExactTotals. No conditions. -/
import Derived.Test.YtjgacjidaeahdaaGreatDoorM19
import Derived.Test.YtjgacjidaeahdaaGreatDoorM16
import Derived.Test.YtjgacjidaeahdaaGreatDoorM12
import Derived.Test.YtjgacjidaeahdaaGreatDoorM4
import Derived.Test.YtjgacjidaeahdaaGreatDoorM15
set_option linter.unusedSimpArgs false
set_option linter.unusedVariables false
set_option linter.unnecessarySimpa false
set_option maxHeartbeats 4000000
namespace Go.Proofs.YtjgacjidaeahdaaGreatDoor.Ab
open Go.RowKit
/-- A round that is there. -/
def RIn (m : List Pr) (r : Int) : Prop := StI cfR m ∧ ∃ R n : Nat, IsRnd m R ∧ r = (n : Int) ∧ n < R
open Classical in
noncomputable def roundC (m : List Pr) (r : Int) : CT := if RIn m r then rdI (textS m r.toNat) else ⟨0, [], [], [], [], false⟩
def poolT (m : List Pr) (r : Nat) : ByteArray := (getK m (qK r)).getD noT
open Classical in
noncomputable def roundP (m : List Pr) (r : Int) : List Int := if RIn m r then bytL (poolT m r.toNat) else []
/-- What is told of a round, in memory of its own. -/
def RndA (h hh : Heap) (v : Value) (P : List Int) (c : CT) : Prop :=
  ∃ pv ew mw yw gw, v = .tuple ⟨[pv, certV c.size ew mw yw gw, .bool c.ok]⟩ ∧ ∃ i0 i1 i2 i3 i4, (h.length ≤ i0 ∧ i0 ≤ i1 ∧ i1 ≤ i2 ∧ i2 ≤ i3 ∧ i3 ≤ i4 ∧ i4 ≤ hh.length) ∧ Own hh h.length i0 1 y_int pv (ints P) ∧ Own hh i1 i2 5 y_Edge ew (edges c.es) ∧ Own hh i2 i3 2 y_Couple mw (cps c.m) ∧ Own hh i3 i4 1 y_int yw (ints c.ys) ∧ OwnG hh i4 hh.length y_Group gw c.gs
/-- The same, of which it is not asked where it lies. -/
def RndW (h hh : Heap) (v : Value) (P : List Int) (c : CT) : Prop :=
  ∃ pv ew mw yw gw, v = .tuple ⟨[pv, certV c.size ew mw yw gw, .bool c.ok]⟩ ∧ Own hh h.length hh.length 1 y_int pv (ints P) ∧ Own hh h.length hh.length 5 y_Edge ew (edges c.es) ∧ Own hh h.length hh.length 2 y_Couple mw (cps c.m) ∧ Own hh h.length hh.length 1 y_int yw (ints c.ys) ∧ OwnG hh h.length hh.length y_Group gw c.gs
theorem RndA.weak {h hh : Heap} {v : Value} {P : List Int} {c : CT} (a : RndA h hh v P c) : RndW h hh v P c := by
  obtain ⟨pv, ew, mw, yw, gw, rfl, i0, i1, i2, i3, i4, hi, o0, o1, o2, o3, o4⟩ := a
  exact ⟨pv, ew, mw, yw, gw, rfl, o0.wide (Nat.le_refl _) (by omega), o1.wide (by omega) (by omega), o2.wide (by omega) (by omega), o3.wide (by omega) (by omega), o4.wide (by omega) (Nat.le_refl _)⟩
theorem Own.fl1 {h : Heap} {lo hi sz : Nat} {ty : TypeId} {v : Value} {rws : List (List Value)} (o : Own h lo hi sz ty v rws) (hf : flat1 v = true) : prim v = true := by
  rcases o.is with ⟨rfl, rfl⟩ | ⟨b, _, _, rfl, _⟩
  · rfl
  · exact hf
section
variable {X : CallF} [LibX X] {h : Heap} {m : List Pr} {mv : Value} {R : Nat} {r : Int}
theorem rin_facts (k : RIn m r) (hR : IsRnd m R) : ∃ n : Nat, r = n ∧ n < R ∧ StI cfR m ∧ (∃ w, getK m (qK n) = some w ∧ PoolIs m w ∧ (rdI (textS m n)).ok = true ∧ (rdI (textS m n)).size = (w.size : Int)) := by
  obtain ⟨st, R', n, h1, h2, h3⟩ := k
  obtain rfl := h1.one hR
  refine ⟨n, h2, h3, st, ?_⟩
  obtain ⟨w, p, k1, k2, k3, k4, k5⟩ := st_round st hR h3
  rw [← st_text st hR h3 k3] at k5
  exact ⟨w, k1, k2, k5.1, k5.2⟩
theorem k_impl_RoundOf (hm : Rows h 2 mv (prsL m)) (hl : m.length ≤ lim) : ∃ v hh, C T X n_impl_RoundOf [mv, .int .i64 r] h = some (v, hh) ∧ h <+: hh ∧ RndA h hh v (roundP m r) (roundC m r) := by
  refine C_ex t_impl_RoundOf rfl ?_
  unfold F_impl_RoundOf
  have c := k_impl_StateOk (X := X) hm hl
  unfold roundP roundC
  obtain ⟨R, hR⟩ := rnd_ex m
  by_cases st : StI cfR m
  · rw [tB_t st] at c
    have hR6 := st_rnd st hR
    have h4 := k_impl_roundsOf (X := X) hm hl hR
    rw [show min R 7 = R by omega] at h4
    have w1 : IntKind.i64.wrap ((R : Int) - 1) = (R : Int) - 1 := w64 (by omega) (by omega)
    by_cases k : RIn m r
    · rw [if_pos k, if_pos k]
      obtain ⟨n, rfl, hn, _, w, hw, hpi, hok, hsz⟩ := rin_facts k hR
      obtain ⟨_, np, _, _, hparts, _⟩ := st_round st hR hn
      have hmv := mapIs_v st.1
      have c1 : decide ((0 : Int) ≤ (n : Int)) = true := decide_eq_true (by omega)
      have c2 : decide ((n : Int) ≤ (R : Int) - 1) = true := decide_eq_true (by omega)
      have h2 := k_impl_two (X := X) (h := h) (n := n) (by omega)
      have hz := twoT_size (n := n) (by omega)
      have hz1 : (⟨[113]⟩ : Array UInt8).size + (twoT n).size ≤ 9223372036854775807 := by rw [asz]; omega
      have hg := k_impl_get (X := X) (k := qK n) hm hl
      unfold getV at hg
      rw [hw] at hg
      simp only [Option.getD_some, Option.isSome_some] at hg
      have hP : poolT m (n : Int).toNat = w := by unfold poolT; rw [Int.toNat_natCast, hw]; rfl
      rw [hP, Int.toNat_natCast]
      have hws := hpi.1
      simp only [c, h4, w1, k_impl_in, c1, c2, h2, hz1, qK_app, hg, zeros, fillAt, go_sem]
      refine w_for w.size (fun i t loc h' => t 0 = mv ∧ t 1 = .int .i64 (n : Int) ∧ t 7 = .string w ∧ t 36 = .int .i64 (w.size : Int) ∧ t 37 = .int .i64 i ∧ loc 5 = some [.int .i64 0, nilV, nilV, nilV, nilV] ∧ h <+: h' ∧ ∃ v, t 9 = v ∧ Own h' h.length h'.length 1 y_int v (ints ((List.range i).map fun i => ((byt w i : Nat) : Int)))) ⟨rfl, rfl, rfl, rfl, rfl, rfl, List.prefix_refl _, _, rfl, Own.nil⟩ ?_
      rintro i t loc h' hi ⟨t0, t1, t7, t36, t37, l5, hp, v, t9, o⟩
      simp only [t36, t37, go_sem]
      refine w_open (by simp only [go_sem]; rfl) ?_ ?_ <;> intro hc
      · have hi1 : i < w.size := by omega
        have hw : IntKind.i64.wrap ((i : Int) + 1) = ((i + 1 : Nat) : Int) := w64 (by omega) (by omega)
        have e0 : ixV (.string w) (.int .i64 i) = some (.int .u8 (byt w i : Nat)) := ix_byt hi1
        have b0 := byt_lt (s := w) (i := i)
        have w0 : IntKind.i64.wrap ((byt w i : Nat) : Int) = ((byt w i : Nat) : Int) := w64 (by omega) (by omega)
        obtain ⟨v2, h2, c3, q1, q2, o2⟩ := o.push1 (pre_len hp) [.int .i64 ((byt w i : Nat) : Int)] rfl (by rw [ints_len]; unfold lim; simp; omega)
        rw [Nat.max_eq_right q1] at o2
        simp only [t0, t1, t7, t9, t36, t37, l5, e0, w0, zeros, fillAt, c3, hw, go_sem]
        exact ⟨hi1, pre_push hp (Nat.le_refl _) q1 q2, v2, rfl, by rw [List.map_append]; simpa [ints] using o2⟩
      · have hin : i = w.size := by omega
        subst hin
        have hco := k_impl_certOf (X := X) (r := n) (by omega) hparts hmv (hm.up hp) hl
        have hcs := partsL_size hmv (r := n) (n := np)
        rw [← st_text st hR hn hparts] at hco hcs
        obtain ⟨v5, h5, c5, p5, ew, mw, yw, gw, rfl, i1, i2, i3, i4, hi5, o1, o2, o3, o4⟩ := k_impl_ReadCert (X := X) (h := h') (s := textS m n) (by have := hparts.1; omega)
        rw [hok] at c5
        unfold certV at c5
        simp only [t0, t1, t9, l5, hco, c5, p5, zeros, fillAt, go_sem]
        have hpp := hp.trans p5
        have ol := pre_len hp
        have o0 := o.up p5
        refine ⟨o.live, ?_⟩
        obtain ⟨hh, e, p1, hc⟩ := finish_cases (v := .tuple ⟨[v, .agg ⟨[.int .i64 (rdI (textS m n)).size, ew, mw, yw, gw]⟩, .bool true]⟩) hpp
        rw [e]
        dsimp only
        rcases hc with rfl | ⟨hf, rfl⟩
        · exact ⟨p1, v, ew, mw, yw, gw, by rw [hok]; rfl, h'.length, i1, i2, i3, i4, ⟨ol, by omega, by omega, by omega, by omega, by omega⟩, o0, o1, o2, o3, o4⟩
        · simp only [flat, List.all_cons, Bool.and_eq_true] at hf
          have hf2 : prim ew = true ∧ prim mw = true ∧ prim yw = true ∧ prim gw = true := by simpa [flat1, prim] using hf.2.1
          have hf' : prim v = true ∧ prim ew = true ∧ prim mw = true ∧ prim yw = true ∧ prim gw = true := ⟨o.fl1 hf.1, hf2⟩
          exact ⟨p1, v, ew, mw, yw, gw, by rw [hok]; rfl, List.length hh, List.length hh, List.length hh, List.length hh, List.length hh, ⟨pre_len p1, by omega, by omega, by omega, by omega, Nat.le_refl _⟩, o0.flatP hf'.1, o1.flatP hf'.2.1, o2.flatP hf'.2.2.1, o3.flatP hf'.2.2.2.1, o4.flatG hf'.2.2.2.2⟩
    · rw [if_neg k, if_neg k]
      have hr : ¬ (0 ≤ r ∧ r ≤ (R : Int) - 1) := fun q => k ⟨st, R, r.toNat, hR, by omega, by omega⟩
      have hb : (decide ((0 : Int) ≤ r) && decide (r ≤ (R : Int) - 1)) = false := by
        by_cases c1 : (0 : Int) ≤ r
        · have c2 : ¬ r ≤ (R : Int) - 1 := fun q => hr ⟨c1, q⟩
          simp [c2]
        · simp [c1]
      simp only [c, h4, w1, k_impl_in, hb, zeros, fillAt, go_sem]
      exact ⟨List.prefix_refl _, nilV, nilV, nilV, nilV, nilV, rfl, h.length, h.length, h.length, h.length, h.length, ⟨Nat.le_refl _, Nat.le_refl _, Nat.le_refl _, Nat.le_refl _, Nat.le_refl _, Nat.le_refl _⟩, Own.nil, Own.nil, Own.nil, Own.nil, OwnG.nil⟩
  · have k : ¬ RIn m r := fun q => st q.1
    rw [if_neg k, if_neg k]
    rw [tB_f st] at c
    simp only [c, zeros, fillAt, go_sem]
    exact ⟨List.prefix_refl _, nilV, nilV, nilV, nilV, nilV, rfl, h.length, h.length, h.length, h.length, h.length, ⟨Nat.le_refl _, Nat.le_refl _, Nat.le_refl _, Nat.le_refl _, Nat.le_refl _, Nat.le_refl _⟩, Own.nil, Own.nil, Own.nil, Own.nil, OwnG.nil⟩
end
section
variable {X : CallF} {h : Heap} {m : List Pr} {mv : Value} {R : Nat} {r : Int}
theorem k_spec_RoundOf (hm : Rows h 2 mv (prsL m)) (hl : m.length ≤ 1048576) : ∃ v hh, C T X n_spec_RoundOf [mv, .int .i64 r] h = some (v, hh) ∧ h <+: hh ∧ RndW h hh v (roundP m r) (roundC m r) := by
  have hl' : m.length ≤ lim := by unfold lim; omega
  refine C_ex t_spec_RoundOf rfl ?_
  unfold F_spec_RoundOf
  have c := k_spec_StateOk (X := X) hm hl'
  unfold roundP roundC
  obtain ⟨R, hR⟩ := rnd_ex m
  have bad : h <+: (h ++ [⟨[], 1, y_int, true⟩] : Heap) := List.prefix_append _ _
  have badO : Own (h ++ [⟨[], 1, y_int, true⟩] : Heap) h.length (h ++ [⟨[], 1, y_int, true⟩] : Heap).length 1 y_int (.slice (some ⟨h.length, 0, none⟩) 0 0) (ints []) := Acc.new.own
  have badF : ∀ w : Value, w = .tuple ⟨[.slice (some ⟨h.length, 0, none⟩) 0 0, .agg ⟨[.int .i64 0, nilV, nilV, nilV, nilV]⟩, .bool false]⟩ → h <+: (finish h (w, h ++ [⟨[], 1, y_int, true⟩])).2 ∧ RndW h (finish h (w, h ++ [⟨[], 1, y_int, true⟩])).2 (finish h (w, h ++ [⟨[], 1, y_int, true⟩])).1 [] ⟨0, [], [], [], [], false⟩ := fun w hw => by
    rw [finish_deep (by rw [hw]; simp [flat, flat1, prim])]
    exact ⟨bad, _, nilV, nilV, nilV, nilV, hw, badO, Own.nil, Own.nil, Own.nil, OwnG.nil⟩
  by_cases st : StI cfR m
  · rw [tB_t st] at c
    have hR6 := st_rnd st hR
    have h4 := k_spec_l13Rounds (X := X) hm hl hR
    have w1 : IntKind.i64.wrap ((R : Int) - 1) = (R : Int) - 1 := w64 (by omega) (by omega)
    by_cases k : RIn m r
    · rw [if_pos k, if_pos k]
      obtain ⟨n, rfl, hn, _, w, hw, hpi, hok, hsz⟩ := rin_facts k hR
      have hmv := mapIs_v st.1
      have c1 : decide ((0 : Int) ≤ (n : Int)) = true := decide_eq_true (by omega)
      have c2 : decide ((n : Int) ≤ (R : Int) - 1) = true := decide_eq_true (by omega)
      have hP : poolT m (n : Int).toNat = w := by unfold poolT; rw [Int.toNat_natCast, hw]; rfl
      rw [hP, Int.toNat_natCast]
      have htx := k_spec_l13Text (X := X) (r := n) (by omega) hmv hm hl
      have hts := textS_le hmv (r := n)
      have hml := st.1.1
      obtain ⟨v5, h5, c5, p5, ew, mw, yw, gw, rfl, o1, o2, o3, o4⟩ := k_spec_ReadCert (X := X) (h := h) (s := textS m n) (by omega)
      rw [rd_same] at c5 o1 o2 o3 o4
      rw [hok] at c5
      unfold certV at c5
      obtain ⟨v, h6, c6, p6, o0⟩ := k_spec_l13Pool (X := X) (r := n) (by omega) hmv (hm.up p5) hl'
      rw [hw, Option.getD_some] at o0
      have l5 := pre_len p5
      have l6 := pre_len p6
      simp only [c, h4, w1, k_spec_l01In, c1, c2, htx, c5, p5, c6, p6, zeros, fillAt, go_sem]
      have hpp := p5.trans p6
      refine ⟨o0.live, ?_⟩
      obtain ⟨hh, e, p1, hc⟩ := finish_cases (v := .tuple ⟨[v, .agg ⟨[.int .i64 (rdI (textS m n)).size, ew, mw, yw, gw]⟩, .bool true]⟩) hpp
      rw [e]
      dsimp only
      rcases hc with rfl | ⟨hf, rfl⟩
      · exact ⟨p1, v, ew, mw, yw, gw, by rw [hok]; rfl, o0.wide l5 (Nat.le_refl _), (o1.up p6).wide (Nat.le_refl _) l6, (o2.up p6).wide (Nat.le_refl _) l6, (o3.up p6).wide (Nat.le_refl _) l6, (o4.up p6).wide (Nat.le_refl _) l6⟩
      · simp only [flat, List.all_cons, Bool.and_eq_true] at hf
        have hf2 : prim ew = true ∧ prim mw = true ∧ prim yw = true ∧ prim gw = true := by simpa [flat1, prim] using hf.2.1
        exact ⟨p1, v, ew, mw, yw, gw, by rw [hok]; rfl, o0.flatP (o0.fl1 hf.1), o1.flatP hf2.1, o2.flatP hf2.2.1, o3.flatP hf2.2.2.1, o4.flatG hf2.2.2.2⟩
    · rw [if_neg k, if_neg k]
      have hr : ¬ (0 ≤ r ∧ r ≤ (R : Int) - 1) := fun q => k ⟨st, R, r.toNat, hR, by omega, by omega⟩
      have hb : (decide ((0 : Int) ≤ r) && decide (r ≤ (R : Int) - 1)) = false := by
        by_cases c1 : (0 : Int) ≤ r
        · have c2 : ¬ r ≤ (R : Int) - 1 := fun q => hr ⟨c1, q⟩
          simp [c2]
        · simp [c1]
      simp only [c, h4, w1, k_spec_l01In, hb, zeros, fillAt, go_sem]
      exact badF _ rfl
  · have k : ¬ RIn m r := fun q => st q.1
    rw [if_neg k, if_neg k]
    rw [tB_f st] at c
    simp only [c, zeros, fillAt, go_sem]
    exact badF _ rfl
end
end Go.Proofs.YtjgacjidaeahdaaGreatDoor.Ab
set_option linter.unusedSimpArgs false
set_option linter.unusedVariables false
set_option linter.unnecessarySimpa false
set_option maxHeartbeats 4000000
namespace Go.Proofs.YtjgacjidaeahdaaGreatDoor.Ab
open Go.RowKit
theorem rdI_ok {s : ByteArray} (h : (rdI s).ok = true) : CertOk (rdI s).size (rdI s).es (rdI s).m (rdI s).ys (rdI s).gs := by
  unfold rdI at h ⊢
  by_cases k : CokI s
  · rw [if_pos k]
    exact k.2.2
  · rw [if_neg k] at h
    cases h
section
variable {m : List Pr} {r : Int}
theorem rnd_facts (k : RIn m r) : (roundC m r).ok = true ∧ CertOk (roundC m r).size (roundC m r).es (roundC m r).m (roundC m r).ys (roundC m r).gs ∧ (roundC m r).size = ((roundP m r).length : Int) := by
  obtain ⟨R, hR⟩ := rnd_ex m
  obtain ⟨n, rfl, hn, st, w, hw, hpi, hok, hsz⟩ := rin_facts k hR
  unfold roundC roundP
  rw [if_pos k, if_pos k, Int.toNat_natCast]
  have hP : poolT m n = w := by unfold poolT; rw [hw]; rfl
  rw [hP, bytL_len]
  exact ⟨hok, rdI_ok hok, hsz⟩
theorem rnd_not (k : ¬ RIn m r) : roundC m r = ⟨0, [], [], [], [], false⟩ ∧ roundP m r = [] := by
  unfold roundC roundP
  rw [if_neg k, if_neg k]
  exact ⟨rfl, rfl⟩
theorem rnd_len : (roundC m r).m.length ≤ 100 := by
  by_cases k : RIn m r
  · have := (cert_lens (rnd_facts k).2.1).2.2.1
    omega
  · rw [(rnd_not k).1]
    simp
end
section
variable {X : CallF} [LibX X] {h : Heap} {m : List Pr} {mv : Value} {r : Int}
end
section
variable {X : CallF} {h : Heap} {m : List Pr} {mv : Value} {r : Int}
end
end Go.Proofs.YtjgacjidaeahdaaGreatDoor.Ab
set_option linter.unusedSimpArgs false
set_option linter.unusedVariables false
set_option linter.unnecessarySimpa false
set_option maxHeartbeats 4000000
namespace Go.Proofs.YtjgacjidaeahdaaGreatDoor.Ab
open Go.RowKit
noncomputable def rndsN (m : List Pr) : Nat := Classical.choose (rnd_ex m)
theorem rndsN_is (m : List Pr) : IsRnd m (rndsN m) := Classical.choose_spec (rnd_ex m)
section
variable {X : CallF} [LibX X] {h : Heap} {m : List Pr} {mv : Value} {id : Int}
end
section
variable {X : CallF} {h : Heap} {m : List Pr} {mv : Value} {id : Int}
end
end Go.Proofs.YtjgacjidaeahdaaGreatDoor.Ab
set_option linter.unusedSimpArgs false
set_option linter.unusedVariables false
set_option linter.unnecessarySimpa false
set_option maxHeartbeats 4000000
namespace Go.Proofs.YtjgacjidaeahdaaGreatDoor.Ab
theorem nodup_len : ∀ {n : Nat} {l : List Int}, l.Nodup → (∀ x ∈ l, 0 ≤ x ∧ x < n) → l.length ≤ n
  | 0, [], _, _ => Nat.le_refl _
  | 0, a :: l, _, h => by have := h a List.mem_cons_self; omega
  | n + 1, l, hn, h => by
    by_cases hm : (n : Int) ∈ l
    · have h1 := List.length_erase_of_mem hm
      have h2 := nodup_len (n := n) (hn.erase (n : Int)) fun x hx => by
        obtain ⟨h3, h4⟩ := (hn.mem_erase_iff).1 hx
        have := h x h4
        omega
      omega
    · have := nodup_len (n := n) hn fun x hx => by
        have h3 := h x hx
        have : x ≠ n := fun e => hm (e ▸ hx)
        omega
      omega
/-- Some of what hangs together with a vertex; of the first ones all neighbours are there. -/
structure Bfs (es : List E) (out : List Int) (n : Nat) (v : Int) (i : Nat) (L : List Int) : Prop where
  nodup : L.Nodup
  top : v ∈ L
  all : ∀ x ∈ L, (0 ≤ x ∧ x < n) ∧ ¬ x ∈ out ∧ Cn es out v x
  near : ∀ j, j < i → ∀ w, Adj es out (L.getD j 0) w → w ∈ L
theorem Bfs.len {es : List E} {out : List Int} {n : Nat} {v : Int} {i : Nat} {L : List Int} (b : Bfs es out n v i L) : L.length ≤ n := nodup_len b.nodup fun x hx => (b.all x hx).1
end Go.Proofs.YtjgacjidaeahdaaGreatDoor.Ab
set_option linter.unusedSimpArgs false
set_option linter.unusedVariables false
set_option linter.unnecessarySimpa false
set_option maxHeartbeats 4000000
namespace Go.Proofs.YtjgacjidaeahdaaGreatDoor.Ab
open Go.RowKit
/-- Two edges without a vertex of both. -/
def Apart (e f : E) : Prop := e.a ≠ f.a ∧ e.a ≠ f.b ∧ e.b ≠ f.a ∧ e.b ≠ f.b
theorem Apart.symm {e f : E} (h : Apart e f) : Apart f e := ⟨fun x => h.1 x.symm, fun x => h.2.2.1 x.symm, fun x => h.2.1 x.symm, fun x => h.2.2.2 x.symm⟩
/-- A pairing, of vertices that may be taken. -/
def Mt (es : List E) (P : Int → Prop) (l : List E) : Prop := (∀ e ∈ l, e ∈ es ∧ P e.a ∧ P e.b) ∧ l.Pairwise Apart
/-- So many couples are the most. -/
def Most (es : List E) (P : Int → Prop) (w : Nat) : Prop := (∃ l, Mt es P l ∧ l.length = w) ∧ ∀ l, Mt es P l → l.length ≤ w
theorem Mt.imp {es fs : List E} {P Q : Int → Prop} {l : List E} (h : Mt es P l) (hi : ∀ e ∈ es, P e.a → P e.b → e ∈ fs ∧ Q e.a ∧ Q e.b) : Mt fs Q l :=
  ⟨fun e he => hi e (h.1 e he).1 (h.1 e he).2.1 (h.1 e he).2.2, h.2⟩
theorem Most.congr {es fs : List E} {P Q : Int → Prop} {w : Nat} (h : Most es P w) (h1 : ∀ e ∈ es, P e.a → P e.b → e ∈ fs ∧ Q e.a ∧ Q e.b) (h2 : ∀ e ∈ fs, Q e.a → Q e.b → e ∈ es ∧ P e.a ∧ P e.b) : Most fs Q w := by
  obtain ⟨⟨l, a, b⟩, c⟩ := h
  exact ⟨⟨l, a.imp h1, b⟩, fun l hl => c l (hl.imp h2)⟩
/-- The most couples of edges without taken vertices. -/
def mm : List E → List Int → Nat
  | [], _ => 0
  | e :: es, u => if e.a ∈ u ∨ e.b ∈ u then mm es u else max (mm es u) (mm es (e.a :: e.b :: u) + 1)
end Go.Proofs.YtjgacjidaeahdaaGreatDoor.Ab
set_option linter.unusedSimpArgs false
set_option linter.unusedVariables false
set_option linter.unnecessarySimpa false
set_option maxHeartbeats 4000000
namespace Go.Proofs.YtjgacjidaeahdaaGreatDoor.Ab
open Go.RowKit
/-- Three sums. -/
structure S3 where
  x : Int
  y : Int
  z : Int
theorem S3.ext' {a b : S3} (h1 : a.x = b.x) (h2 : a.y = b.y) (h3 : a.z = b.z) : a = b := by cases a; cases b; simp only at h1 h2 h3; rw [h1, h2, h3]
def S3.add (a b : S3) : S3 := ⟨a.x + b.x, a.y + b.y, a.z + b.z⟩
def s0 : S3 := ⟨0, 0, 0⟩
def bet (a b : S3) : Prop := b.x < a.x ∨ a.x = b.x ∧ (b.y < a.y ∨ a.y = b.y ∧ b.z < a.z)
instance (a b : S3) : Decidable (bet a b) := by unfold bet; exact inferInstance
def wS (e : E) : S3 := ⟨e.w1, e.w2, e.w3⟩
def sumS : List E → S3
  | [] => s0
  | e :: l => (wS e).add (sumS l)
theorem add_as {a b c : S3} : (a.add b).add c = a.add (b.add c) := S3.ext' (Int.add_assoc _ _ _) (Int.add_assoc _ _ _) (Int.add_assoc _ _ _)
/-- These sums are the best. -/
def Best (es : List E) (P : Int → Prop) (w : S3) : Prop := (∃ l, Mt es P l ∧ sumS l = w) ∧ ∀ l, Mt es P l → ¬ bet (sumS l) w
theorem Best.congr {es fs : List E} {P Q : Int → Prop} {w : S3} (h : Best es P w) (h1 : ∀ e ∈ es, P e.a → P e.b → e ∈ fs ∧ Q e.a ∧ Q e.b) (h2 : ∀ e ∈ fs, Q e.a → Q e.b → e ∈ es ∧ P e.a ∧ P e.b) : Best fs Q w := by
  obtain ⟨⟨l, a, b⟩, c⟩ := h
  exact ⟨⟨l, a.imp h1, b⟩, fun l hl => c l (hl.imp h2)⟩
end Go.Proofs.YtjgacjidaeahdaaGreatDoor.Ab
set_option linter.unusedSimpArgs false
set_option linter.unusedVariables false
set_option linter.unnecessarySimpa false
set_option maxHeartbeats 4000000
namespace Go.Proofs.YtjgacjidaeahdaaGreatDoor.Ab
open Go.RowKit
section
variable {X : CallF} {h : Heap} {ev : Value} {es : List E} {size : Int}
theorem k_impl_Sums_plus {a b c x y z p q : Int} : C T X n_impl_Sums_plus [.agg ⟨[.int .i64 a, .int .i64 b, .int .i64 c]⟩, .agg ⟨[.int .i64 p, .int .i64 q, .int .i64 x, .int .i64 y, .int .i64 z]⟩] h = some (.agg ⟨[.int .i64 (IntKind.i64.wrap (a + x)), .int .i64 (IntKind.i64.wrap (b + y)), .int .i64 (IntKind.i64.wrap (c + z))]⟩, h) := by
  refine C_go t_impl_Sums_plus rfl ?_
  unfold F_impl_Sums_plus
  simp only [go_sem]
theorem gok_all {size : Int} {es : List E} (g : GOk size es) : ∀ e ∈ es, EOk size e := fun e he => by
  obtain ⟨i, hi, rfl⟩ := mem_getD (d := e0) he
  exact (g.2 i hi).1
end
end Go.Proofs.YtjgacjidaeahdaaGreatDoor.Ab
set_option linter.unusedSimpArgs false
set_option linter.unusedVariables false
set_option linter.unnecessarySimpa false
set_option maxHeartbeats 4000000
namespace Go.Proofs.YtjgacjidaeahdaaGreatDoor.Ab
open Go.RowKit
/-- What a couple is worth, and some. -/
def cpW (es : List E) (c : Cp) : S3 := wS (es.getD (edgeIx es c.a c.b).toNat e0)
def pS (es : List E) (l : List Cp) : S3 := l.foldl (fun s c => s.add (cpW es c)) s0
theorem pS_snoc {es : List E} {l : List Cp} {c : Cp} : pS es (l ++ [c]) = (pS es l).add (cpW es c) := by unfold pS; rw [List.foldl_append]; rfl
def S3In (s : S3) (b : Int) : Prop := (0 ≤ s.x ∧ s.x ≤ b) ∧ (0 ≤ s.y ∧ s.y ≤ b) ∧ 0 ≤ s.z ∧ s.z ≤ b
theorem S3In.add {s t : S3} {a b : Int} (h : S3In s a) (k : S3In t b) : S3In (s.add t) (a + b) := by
  unfold S3In S3.add at *
  simp only
  omega
/-- The couples of a pairing have edges. -/
theorem mok_edge {size : Int} {es : List E} {l : List Cp} (g : MOk size es l) {i : Nat} (hi : i < l.length) : ∃ j : Nat, edgeIx es (l.getD i c0).a (l.getD i c0).b = (j : Int) ∧ j < es.length ∧ S3In (wS (es.getD j e0)) 50 := by
  have h := (g.2 i hi).2.1
  rcases firstIx_cases (p := Join (l.getD i c0).a (l.getD i c0).b) e0 es with ⟨q1, _⟩ | ⟨j, q1, q2, _⟩
  · unfold edgeIx at h; omega
  · refine ⟨j, q1, q2, ?_⟩
    have e := gok_all g.1 _ (getD_mem (d := e0) q2)
    unfold EOk at e
    unfold S3In wS
    simp only
    omega
theorem pS_in {size : Int} {es : List E} {l : List Cp} (g : MOk size es l) : ∀ i, i ≤ l.length → S3In (pS es (l.take i)) (50 * i)
  | 0, _ => by
    rw [List.take_zero]
    exact ⟨⟨Int.le_refl _, Int.le_refl _⟩, ⟨Int.le_refl _, Int.le_refl _⟩, Int.le_refl _, Int.le_refl _⟩
  | i + 1, hi => by
    have ih := pS_in g i (by omega)
    rw [take_snocD' (d := c0) (by omega), pS_snoc]
    obtain ⟨j, h1, h2, h3⟩ := mok_edge g (i := i) (by omega)
    have e : cpW es (l.getD i c0) = wS (es.getD j e0) := by unfold cpW; rw [h1, Int.toNat_natCast]
    rw [e]
    have := ih.add h3
    have e2 : (50 : Int) * ((i + 1 : Nat) : Int) = 50 * (i : Int) + 50 := by omega
    rw [e2]
    exact this
theorem rnd_mok {m : List Pr} {r : Int} : (roundC m r).m = [] ∨ MOk (roundC m r).size (roundC m r).es (roundC m r).m := by
  by_cases k : RIn m r
  · exact .inr (rnd_facts k).2.1.2.1
  · exact .inl (by rw [(rnd_not k).1])
theorem rnd_elen {m : List Pr} {r : Int} : (roundC m r).es.length ≤ 100 := by
  by_cases k : RIn m r
  · have := (cert_lens (rnd_facts k).2.1).2.1; omega
  · rw [(rnd_not k).1]; exact Nat.zero_le _
theorem rnd_in {m : List Pr} {r : Int} {i : Nat} (hi : i ≤ (roundC m r).m.length) : S3In (pS (roundC m r).es ((roundC m r).m.take i)) (50 * i) := by
  rcases rnd_mok (m := m) (r := r) with h | h
  · rw [h] at hi ⊢
    have : i = 0 := by simpa using hi
    subst this
    exact ⟨⟨Int.le_refl _, Int.le_refl _⟩, ⟨Int.le_refl _, Int.le_refl _⟩, Int.le_refl _, Int.le_refl _⟩
  · exact pS_in h i hi
/-- All rounds' sums, up to one. -/
noncomputable def tS (m : List Pr) : Nat → S3
  | 0 => s0
  | n + 1 => (tS m n).add (pS (roundC m (n : Int)).es (roundC m (n : Int)).m)
theorem tS_in {m : List Pr} : ∀ n, S3In (tS m n) (5000 * n)
  | 0 => ⟨⟨Int.le_refl _, Int.le_refl _⟩, ⟨Int.le_refl _, Int.le_refl _⟩, Int.le_refl _, Int.le_refl _⟩
  | n + 1 => by
    have ih := tS_in (m := m) n
    have h1 := rnd_in (m := m) (r := (n : Int)) (Nat.le_refl _)
    rw [List.take_length] at h1
    have h2 := rnd_len (m := m) (r := (n : Int))
    have := ih.add h1
    unfold tS
    unfold S3In at *
    omega
def cntT (m : List Pr) (c : Nat) : Nat := (idsT m fun v => decide (byt v 0 = c)).length
open Classical in
noncomputable def totV (m : List Pr) : Value := if StI cfR m then
    .tuple ⟨[.agg ⟨[.int .i64 (rndsN m : Int), .int .i64 (cntT m 112 : Int), .int .i64 (cntT m 97 : Int), .int .i64 (cntT m 108 : Int), .int .i64 (tS m (rndsN m)).x, .int .i64 (tS m (rndsN m)).y, .int .i64 (tS m (rndsN m)).z]⟩, .bool true]⟩
  else .tuple ⟨[.agg ⟨[.int .i64 0, .int .i64 0, .int .i64 0, .int .i64 0, .int .i64 0, .int .i64 0, .int .i64 0]⟩, .bool false]⟩
section
variable {X : CallF} [LibX X] {h : Heap} {m : List Pr} {mv : Value} {id : Int}
theorem k_impl_Totals (hm : Rows h 2 mv (prsL m)) (hl : m.length ≤ lim) : C T X n_impl_Totals [mv] h = some (totV m, h) := by
  refine C_go t_impl_Totals rfl ?_
  unfold F_impl_Totals totV
  have c := k_impl_StateOk (X := X) hm hl
  by_cases st : StI cfR m
  · rw [tB_t st] at c
    rw [if_pos st]
    have hR := rndsN_is m
    have hR6 := st_rnd st hR
    obtain ⟨R, hRR⟩ : ∃ R, R = rndsN m := ⟨_, rfl⟩
    rw [← hRR] at hR hR6 ⊢
    have h4 := k_impl_roundsOf (X := X) hm hl hR
    rw [show min R 7 = R by omega] at h4
    obtain ⟨v1, h1, c1, p1, o1⟩ := k_impl_idsBy (X := X) (f := pp) hm hl
    rw [pp_nums, idsT_pre st hR (by omega)] at o1
    have c1' : C T X n_impl_idsBy [mv, .string ⟨⟨[112]⟩⟩] h = some (v1, h1) := c1
    obtain ⟨v2, h2, c2, p2, o2⟩ := k_impl_idsBy (X := X) (f := aT) (hm.up p1) hl
    rw [aT_nums, idsT_pre st hR (by omega)] at o2
    have c2' : C T X n_impl_idsBy [mv, .string ⟨⟨[97]⟩⟩] h1 = some (v2, h2) := c2
    obtain ⟨v3, h3, c3, p3, o3⟩ := k_impl_idsBy (X := X) (f := lT) (hm.up (p1.trans p2)) hl
    rw [lT_nums, idsT_pre st hR (by omega)] at o3
    have c3' : C T X n_impl_idsBy [mv, .string ⟨⟨[108]⟩⟩] h2 = some (v3, h3) := c3
    have n1 := o1.rows.lnm
    have n2 := o2.rows.lnm
    have n3 := o3.rows.lnm
    rw [natI_len] at n1 n2 n3
    have hq := (p1.trans p2).trans p3
    obtain ⟨A, hA⟩ : ∃ A, A = cntT m 112 := ⟨_, rfl⟩
    obtain ⟨B, hB⟩ : ∃ B, B = cntT m 97 := ⟨_, rfl⟩
    obtain ⟨D, hD⟩ : ∃ D, D = cntT m 108 := ⟨_, rfl⟩
    have n1' : lnV h1 v1 = some (.int .i64 (A : Int)) := by rw [hA]; exact n1
    have n2' : lnV h2 v2 = some (.int .i64 (B : Int)) := by rw [hB]; exact n2
    have n3' : lnV h3 v3 = some (.int .i64 (D : Int)) := by rw [hD]; exact n3
    rw [← hA, ← hB, ← hD]
    simp only [c, h4, c1', c2', c3', p1, p2, p3, n1', n2', n3', zeros, fillAt, go_sem]
    refine w_for R (fun n t loc h' => t 0 = mv ∧ t 28 = .int .i64 (R : Int) ∧ t 29 = .int .i64 n ∧ loc 2 = some [.int .i64 0, .int .i64 0, .int .i64 0, .int .i64 0, .int .i64 0, .int .i64 0, .int .i64 0] ∧ loc 4 = some [.int .i64 (R : Int), .int .i64 (A : Int), .int .i64 (B : Int), .int .i64 (D : Int), .int .i64 (tS m n).x, .int .i64 (tS m n).y, .int .i64 (tS m n).z] ∧ h <+: h') ⟨rfl, rfl, rfl, rfl, rfl, hq⟩ ?_
    rintro n t loc h' hn ⟨t0, t28, t29, l2, l4, hp⟩
    simp only [t28, t29, go_sem]
    refine w_open (by simp only [go_sem]; rfl) ?_ ?_ <;> intro hc
    · have hn1 : n < R := by omega
      have hw : IntKind.i64.wrap ((n : Int) + 1) = ((n + 1 : Nat) : Int) := w64 (by omega) (by omega)
      obtain ⟨v5, h5, k5, p5, a5⟩ := k_impl_RoundOf (X := X) (r := (n : Int)) (hm.up hp) hl
      obtain ⟨pv, ew, mw, yw, gw, rfl, o50, o51, o52, o53, o54⟩ := a5.weak
      unfold certV at k5
      obtain ⟨cc, hcc⟩ : ∃ cc, cc = roundC m (n : Int) := ⟨_, rfl⟩
      have hml := rnd_len (m := m) (r := (n : Int))
      have hel := rnd_elen (m := m) (r := (n : Int))
      have hmo := rnd_mok (m := m) (r := (n : Int))
      have hin := fun {i} (h : i ≤ (roundC m (n : Int)).m.length) => rnd_in (m := m) (r := (n : Int)) h
      have htn : tS m (n + 1) = (tS m n).add (pS (roundC m (n : Int)).es (roundC m (n : Int)).m) := rfl
      have htin := tS_in (m := m) n
      rw [← hcc] at k5 o51 o52 hml hel hmo htn
      obtain ⟨ok, hok⟩ : ∃ ok, ok = cc.ok := ⟨_, rfl⟩
      rw [← hok] at k5
      simp only [t0, t28, t29, l2, l4, k5, p5, o52.rows.lnm, zeros, fillAt, go_sem]
      refine w_for cc.m.length (fun i t loc h' => h' = h5 ∧ t 0 = mv ∧ t 28 = .int .i64 (R : Int) ∧ t 29 = .int .i64 (n : Int) ∧ t 40 = mw ∧ t 41 = .int .i64 (cc.m.length : Int) ∧ t 42 = .int .i64 i ∧ loc 2 = some [.int .i64 0, .int .i64 0, .int .i64 0, .int .i64 0, .int .i64 0, .int .i64 0, .int .i64 0] ∧ loc 7 = some [.int .i64 cc.size, ew, mw, yw, gw] ∧ ∃ T : S3, T = (tS m n).add (pS cc.es (cc.m.take i)) ∧ loc 4 = some [.int .i64 (R : Int), .int .i64 (A : Int), .int .i64 (B : Int), .int .i64 (D : Int), .int .i64 T.x, .int .i64 T.y, .int .i64 T.z]) ⟨rfl, rfl, rfl, rfl, rfl, rfl, rfl, rfl, rfl, _, rfl, by
        have : (tS m n).add (pS cc.es (cc.m.take 0)) = tS m n := S3.ext' (by simp [S3.add, pS, s0]) (by simp [S3.add, pS, s0]) (by simp [S3.add, pS, s0])
        rw [this]; rfl⟩ ?_
      rintro i t loc h' hi ⟨rfl, t0, t28, t29, t40, t41, t42, l2, l7, T, hT, l4⟩
      simp only [t41, t42, go_sem]
      refine w_open (by simp only [go_sem]; rfl) ?_ ?_ <;> intro hc
      · have hi1 : i < cc.m.length := by omega
        have hw : IntKind.i64.wrap ((i : Int) + 1) = ((i + 1 : Nat) : Int) := w64 (by omega) (by omega)
        have hMO : MOk cc.size cc.es cc.m := by
          rcases hmo with e | e
          · rw [e] at hi1; simp at hi1
          · exact e
        have el := cp_el o52.rows hi1
        obtain ⟨j, j1, j2, j3⟩ := mok_edge hMO hi1
        have hps := (pS_in hMO i (by omega))
        have hTin := htin.add hps
        rw [← hT] at hTin
        have hsn : (tS m n).add (pS cc.es (cc.m.take (i + 1))) = T.add (wS (cc.es.getD j e0)) := by
          rw [take_snocD' (d := c0) hi1, pS_snoc, hT, add_as]
          have : cpW cc.es (cc.m.getD i c0) = wS (cc.es.getD j e0) := by unfold cpW; rw [j1, Int.toNat_natCast]
          rw [this]
        obtain ⟨q, hqq⟩ : ∃ q, q = cc.m.getD i c0 := ⟨_, rfl⟩
        rw [← hqq] at el j1
        have ee := edge_el o51.rows j2
        have kea := k_impl_edgeAt (X := X) (size := cc.size) (x := q.a) (y := q.b) o51.rows (by unfold lim; omega)
        unfold graphV at kea
        rw [j1] at kea
        obtain ⟨e, he⟩ : ∃ e, e = cc.es.getD j e0 := ⟨_, rfl⟩
        rw [← he] at ee j3 hsn
        unfold S3In at hTin
        unfold S3In wS at j3
        simp only at j3
        have w1 : IntKind.i64.wrap (T.x + e.w1) = T.x + e.w1 := w64 (by omega) (by omega)
        have w2 : IntKind.i64.wrap (T.y + e.w2) = T.y + e.w2 := w64 (by omega) (by omega)
        have w3 : IntKind.i64.wrap (T.z + e.w3) = T.z + e.w3 := w64 (by omega) (by omega)
        simp only [t0, t28, t29, t40, t41, t42, l2, l4, l7, el.1, el.2.2.1, kea, ee.1, ee.2.2.1, k_impl_Sums_plus, w1, w2, w3, hw, zeros, fillAt, go_sem]
        exact ⟨hi1, _, hsn.symm, rfl⟩
      · have hin2 : i = cc.m.length := by omega
        subst hin2
        rw [List.take_length, ← htn] at hT
        simp only [t0, t28, t29, l2, l4, hw, go_sem]
        exact ⟨hn1, by rw [hT], hp.trans p5⟩
    · have hin : n = R := by omega
      subst hin
      simp only [l2, l4, go_sem]
      exact finish_flat rfl hp
  · rw [if_neg st]
    rw [tB_f st] at c
    simp only [c, zeros, fillAt, go_sem]
end
section
variable {X : CallF} {h : Heap} {m : List Pr} {mv : Value} {id : Int}
theorem k_spec_l09Sums {ev lv : Value} {es : List E} {l : List Cp} {size : Int} (he : Rows h 5 ev (edges es)) (hcp : Rows h 2 lv (cps l)) (hel : es.length ≤ 100) (hml : l.length ≤ 100) (hmo : l = [] ∨ MOk size es l) : C T X n_spec_l09Sums [graphV size ev, lv] h = some (.agg ⟨[.int .i64 (pS es l).x, .int .i64 (pS es l).y, .int .i64 (pS es l).z]⟩, h) := by
  refine C_go t_spec_l09Sums rfl ?_
  unfold F_spec_l09Sums graphV
  simp only [zeros, fillAt, go_sem]
  refine w_for l.length (fun i t loc h' => h' = h ∧ t 1 = lv ∧ t 6 = .int .i64 i ∧ loc 2 = some [.int .i64 size, ev] ∧ loc 4 = some [.int .i64 0, .int .i64 0, .int .i64 0] ∧ loc 5 = some [.int .i64 (pS es (l.take i)).x, .int .i64 (pS es (l.take i)).y, .int .i64 (pS es (l.take i)).z]) ⟨rfl, rfl, rfl, rfl, rfl, rfl⟩ ?_
  rintro i t loc h' hi ⟨rfl, t1, t6, l2, l4, l5⟩
  simp only [t1, t6, hcp.lnm, go_sem]
  refine w_open (by simp only [go_sem]; rfl) ?_ ?_ <;> intro hc
  · have hi1 : i < l.length := by omega
    have hw : IntKind.i64.wrap ((i : Int) + 1) = ((i + 1 : Nat) : Int) := w64 (by omega) (by omega)
    have hMO : MOk size es l := by
      rcases hmo with e | e
      · rw [e] at hi1; simp at hi1
      · exact e
    have el := cp_el hcp hi1
    obtain ⟨j, j1, j2, j3⟩ := mok_edge hMO hi1
    have hTin := (pS_in hMO i (by omega))
    have hsn : pS es (l.take (i + 1)) = (pS es (l.take i)).add (wS (es.getD j e0)) := by
      rw [take_snocD' (d := c0) hi1, pS_snoc]
      have : cpW es (l.getD i c0) = wS (es.getD j e0) := by unfold cpW; rw [j1, Int.toNat_natCast]
      rw [this]
    obtain ⟨T, hT⟩ : ∃ T, T = pS es (l.take i) := ⟨_, rfl⟩
    rw [← hT] at l5 hTin hsn
    obtain ⟨q, hqq⟩ : ∃ q, q = l.getD i c0 := ⟨_, rfl⟩
    rw [← hqq] at el j1
    have ee := edge_el he j2
    have kea := k_spec_l08At (X := X) (size := size) (x := q.a) (y := q.b) he (by unfold lim; omega)
    unfold graphV at kea
    rw [j1] at kea
    obtain ⟨e, hee⟩ : ∃ e, e = es.getD j e0 := ⟨_, rfl⟩
    rw [← hee] at ee j3 hsn
    unfold S3In at hTin
    unfold S3In wS at j3
    simp only at j3
    have w1 : IntKind.i64.wrap (T.x + e.w1) = T.x + e.w1 := w64 (by omega) (by omega)
    have w2 : IntKind.i64.wrap (T.y + e.w2) = T.y + e.w2 := w64 (by omega) (by omega)
    have w3 : IntKind.i64.wrap (T.z + e.w3) = T.z + e.w3 := w64 (by omega) (by omega)
    simp only [t1, t6, l2, l4, l5, el.1, el.2.1, el.2.2.2.1, el.2.2.2.2, kea, ee.1, ee.2.2.1, w1, w2, w3, hw, zeros, fillAt, go_sem]
    exact ⟨hi1, by rw [hsn]; rfl⟩
  · have hin : i = l.length := by omega
    subst hin
    rw [List.take_length] at l5
    simp only [l4, l5, go_sem]
theorem k_spec_Totals (hm : Rows h 2 mv (prsL m)) (hl : m.length ≤ 1048576) : C T X n_spec_Totals [mv] h = some (totV m, h) := by
  have hl' : m.length ≤ lim := by unfold lim; omega
  refine C_go t_spec_Totals rfl ?_
  unfold F_spec_Totals totV
  have c := k_spec_StateOk (X := X) hm hl'
  by_cases st : StI cfR m
  · rw [tB_t st] at c
    rw [if_pos st]
    have hR := rndsN_is m
    have hR6 := st_rnd st hR
    have hlen := idsT_len st hR
    obtain ⟨R, hRR⟩ : ∃ R, R = rndsN m := ⟨_, rfl⟩
    rw [← hRR] at hR hR6 ⊢
    have hml0 := st.1.1
    have h4 := k_spec_l13Rounds (X := X) hm hl hR
    obtain ⟨v1, h1, c1, p1, o1⟩ := k_spec_l13Ids (X := X) (f := aT) hm (by omega) (map_k st.1)
    rw [ids_a (m := m), idsM_st st hR] at o1
    have c1' : C T X n_spec_l13Ids [mv, .string ⟨⟨[97]⟩⟩] h = some (v1, h1) := c1
    obtain ⟨v2, h2, c2, p2, o2⟩ := k_spec_l13Ids (X := X) (f := lT) (hm.up p1) (by omega) (map_k st.1)
    have hlw : (fun v : ByteArray => decide (lT = noT) || decide (v = lT)) = fun v => decide (v = lT) := by
      funext v
      have : ¬ lT = noT := by decide
      simp [this]
    rw [hlw, idsM_st st hR] at o2
    have c2' : C T X n_spec_l13Ids [mv, .string ⟨⟨[108]⟩⟩] h1 = some (v2, h2) := c2
    obtain ⟨v3, h3, c3, p3, o3⟩ := k_spec_l13Ids (X := X) (f := noT) (hm.up (p1.trans p2)) (by omega) (map_k st.1)
    rw [ids_all (m := m), idsM_st st hR] at o3
    have c3' : C T X n_spec_l13Ids [mv, .string ⟨⟨[]⟩⟩] h2 = some (v3, h3) := c3
    have n1 := o1.rows.lnm
    have n2 := o2.rows.lnm
    have n3 := o3.rows.lnm
    rw [natI_len] at n1 n2 n3
    have hq := (p1.trans p2).trans p3
    obtain ⟨A, hA⟩ : ∃ A, A = cntT m 112 := ⟨_, rfl⟩
    obtain ⟨B, hB⟩ : ∃ B, B = cntT m 97 := ⟨_, rfl⟩
    obtain ⟨D, hD⟩ : ∃ D, D = cntT m 108 := ⟨_, rfl⟩
    have hB' : B = (idsT m tA).length := by rw [hB]; unfold cntT; rw [idsT_a st hR]; rfl
    have hD' : D = (idsT m fun v => decide (v = lT)).length := by rw [hD]; unfold cntT; rw [idsT_l st hR]
    have hA' : A = (idsT m fun v => decide (byt v 0 = 112)).length := hA
    obtain ⟨Z, hZ⟩ : ∃ Z, Z = (idsT m tAll).length := ⟨_, rfl⟩
    have hZ12 : Z ≤ 12 := by rw [hZ]; exact idsT_le
    have hsum : A + B + D = Z := by rw [hA', hB', hD', hZ]; exact hlen
    rw [← hB'] at n1
    rw [← hD'] at n2
    rw [← hZ] at n3
    rw [← hA, ← hB, ← hD]
    have w8 : IntKind.i64.wrap ((Z : Int) - (B : Int)) = (Z : Int) - (B : Int) := w64 (by omega) (by omega)
    have w9 : IntKind.i64.wrap ((Z : Int) - (B : Int) - (D : Int)) = (A : Int) := by rw [w64 (by omega) (by omega)]; omega
    simp only [c, h4, c1', c2', c3', p1, p2, p3, n1, n2, n3, w8, w9, zeros, fillAt, go_sem]
    refine w_for R (fun n t loc h' => t 0 = mv ∧ t 5 = .int .i64 n ∧ loc 2 = some [.int .i64 0, .int .i64 0, .int .i64 0, .int .i64 0, .int .i64 0, .int .i64 0, .int .i64 0] ∧ loc 4 = some [.int .i64 (R : Int), .int .i64 (A : Int), .int .i64 (B : Int), .int .i64 (D : Int), .int .i64 (tS m n).x, .int .i64 (tS m n).y, .int .i64 (tS m n).z] ∧ h <+: h') ⟨rfl, rfl, rfl, rfl, hq⟩ ?_
    rintro n t loc h' hn ⟨t0, t5, l2, l4, hp⟩
    simp only [t5, l4, go_sem]
    refine w_open (by simp only [go_sem]; rfl) ?_ ?_ <;> intro hc
    · have hn1 : n < R := by omega
      have hw : IntKind.i64.wrap ((n : Int) + 1) = ((n + 1 : Nat) : Int) := w64 (by omega) (by omega)
      obtain ⟨v5, h5, k5, p5, a5⟩ := k_spec_RoundOf (X := X) (r := (n : Int)) (hm.up hp) hl
      obtain ⟨pv, ew, mw, yw, gw, rfl, o50, o51, o52, o53, o54⟩ := a5
      unfold certV at k5
      obtain ⟨cc, hcc⟩ : ∃ cc, cc = roundC m (n : Int) := ⟨_, rfl⟩
      have hml := rnd_len (m := m) (r := (n : Int))
      have hel := rnd_elen (m := m) (r := (n : Int))
      have hmo := rnd_mok (m := m) (r := (n : Int))
      have htn : tS m (n + 1) = (tS m n).add (pS (roundC m (n : Int)).es (roundC m (n : Int)).m) := rfl
      have htin := tS_in (m := m) n
      have hrin := rnd_in (m := m) (r := (n : Int)) (Nat.le_refl _)
      rw [List.take_length] at hrin
      rw [← hcc] at k5 o51 o52 hml hel hmo htn hrin
      have ks := k_spec_l09Sums (X := X) o51.rows o52.rows hel hml hmo
      unfold graphV at ks
      obtain ⟨q, hqq⟩ : ∃ q, q = pS cc.es cc.m := ⟨_, rfl⟩
      rw [← hqq] at ks htn hrin
      obtain ⟨T0, hT0⟩ : ∃ T0, T0 = tS m n := ⟨_, rfl⟩
      rw [← hT0] at l4 htin htn ⊢
      unfold S3In at htin hrin
      have w1 : IntKind.i64.wrap (T0.x + q.x) = T0.x + q.x := w64 (by omega) (by omega)
      have w2 : IntKind.i64.wrap (T0.y + q.y) = T0.y + q.y := w64 (by omega) (by omega)
      have w3 : IntKind.i64.wrap (T0.z + q.z) = T0.z + q.z := w64 (by omega) (by omega)
      simp only [t0, t5, l2, l4, k5, p5, ks, w1, w2, w3, hw, zeros, fillAt, go_sem]
      exact ⟨hn1, by rw [htn]; rfl, hp.trans p5⟩
    · have hin : n = R := by omega
      subst hin
      simp only [l2, l4, go_sem]
      exact finish_flat rfl hp
  · rw [if_neg st]
    rw [tB_f st] at c
    simp only [c, zeros, fillAt, go_sem]
end
end Go.Proofs.YtjgacjidaeahdaaGreatDoor.Ab
set_option linter.unusedSimpArgs false
set_option linter.unusedVariables false
set_option linter.unnecessarySimpa false
set_option maxHeartbeats 4000000
namespace Go.Proofs.YtjgacjidaeahdaaGreatDoor.Ab
open Go.RowKit
section
variable {X : CallF} {h : Heap}
theorem k_eqSums {x y z : Int} : C T X n_laws_eqSums [.agg ⟨[.int .i64 x, .int .i64 y, .int .i64 z]⟩, .agg ⟨[.int .i64 x, .int .i64 y, .int .i64 z]⟩] h = some (.bool true, h) := by
  refine C_go t_laws_eqSums rfl ?_
  unfold F_laws_eqSums
  simp only [go_sem]
theorem k_eqTotal {a b c d x y z : Int} : C T X n_laws_eqTotal [.agg ⟨[.int .i64 a, .int .i64 b, .int .i64 c, .int .i64 d, .int .i64 x, .int .i64 y, .int .i64 z]⟩, .agg ⟨[.int .i64 a, .int .i64 b, .int .i64 c, .int .i64 d, .int .i64 x, .int .i64 y, .int .i64 z]⟩] h = some (.bool true, h) := by
  refine C_go t_laws_eqTotal rfl ?_
  unfold F_laws_eqTotal
  simp only [k_eqSums, go_sem]
theorem totV_form (m : List Pr) : ∃ (a b c d x y z : Int) (k : Bool), totV m = .tuple ⟨[.agg ⟨[.int .i64 a, .int .i64 b, .int .i64 c, .int .i64 d, .int .i64 x, .int .i64 y, .int .i64 z]⟩, .bool k]⟩ := by
  unfold totV
  split
  · exact ⟨_, _, _, _, _, _, _, _, rfl⟩
  · exact ⟨_, _, _, _, _, _, _, _, rfl⟩
end
end Go.Proofs.YtjgacjidaeahdaaGreatDoor.Ab
set_option linter.unusedSimpArgs false
set_option linter.unusedVariables false
set_option linter.unnecessarySimpa false
set_option maxHeartbeats 4000000
namespace Go.Proofs.YtjgacjidaeahdaaGreatDoor.Ab
open Go.RowKit
section
variable {h : Heap} {v : Value}
/-- A list of edges. -/
theorem Shape.edges_inv (s : Shape h (.sl [.int .i64, .int .i64, .int .i64, .int .i64, .int .i64]) v) : ∃ l : List E, Rows h 5 v (edges l) ∧ l.length ≤ maxLen ∧ ∀ e ∈ l, I64 e.a ∧ I64 e.b ∧ I64 e.w1 ∧ I64 e.w2 ∧ I64 e.w3 := by
  obtain ⟨rows, hr, hm, hk⟩ := s.sl_inv
  obtain ⟨l, rfl, hl⟩ := rows_map (f := edgeR) (Q := fun e => I64 e.a ∧ I64 e.b ∧ I64 e.w1 ∧ I64 e.w2 ∧ I64 e.w3) (rows := rows) (fun r hrm => by
    obtain ⟨x, r', rfl, hx, h2⟩ := (hk r hrm).cons_inv
    obtain ⟨y, r', rfl, hy, h2⟩ := h2.cons_inv
    obtain ⟨z, r', rfl, hz, h2⟩ := h2.cons_inv
    obtain ⟨u, r', rfl, hu, h2⟩ := h2.cons_inv
    obtain ⟨w, r', rfl, hw, h2⟩ := h2.cons_inv
    obtain rfl := h2.nil_inv
    obtain ⟨a, rfl, ha⟩ := hx.int_inv
    obtain ⟨b, rfl, hb⟩ := hy.int_inv
    obtain ⟨c, rfl, hc⟩ := hz.int_inv
    obtain ⟨d, rfl, hd⟩ := hu.int_inv
    obtain ⟨e, rfl, he⟩ := hw.int_inv
    exact ⟨⟨a, b, c, d, e⟩, rfl, ha, hb, hc, hd, he⟩)
  exact ⟨l, hr, by simpa using hm, hl⟩
theorem Shape.pairs_inv (s : Shape h (.sl [.str, .str]) v) : ∃ l : List Pr, Rows h 2 v (prsL l) ∧ l.length ≤ maxLen ∧ ∀ e ∈ l, e.k.size ≤ maxLen ∧ e.v.size ≤ maxLen := by
  obtain ⟨rows, hr, hm, hk⟩ := s.sl_inv
  obtain ⟨l, rfl, hl⟩ := rows_map (f := prR) (Q := fun e => e.k.size ≤ maxLen ∧ e.v.size ≤ maxLen) (rows := rows) (fun r hrm => by
    obtain ⟨x, r', rfl, hx, h2⟩ := (hk r hrm).cons_inv
    obtain ⟨y, r', rfl, hy, h2⟩ := h2.cons_inv
    obtain rfl := h2.nil_inv
    obtain ⟨a, rfl, ha⟩ := hx.str_inv
    obtain ⟨b, rfl, hb⟩ := hy.str_inv
    exact ⟨⟨a, b⟩, rfl, ha, hb⟩)
  exact ⟨l, hr, by simpa using hm, hl⟩
theorem ArgOk.graph (a : ArgOk h (true, [.int .i64, .sl [.int .i64, .int .i64, .int .i64, .int .i64, .int .i64]]) v) : ∃ size ev es, v = graphV size ev ∧ I64 size ∧ Rows h 5 ev (edges es) ∧ es.length ≤ maxLen := by
  obtain ⟨acs, k, rfl⟩ := a.row
  obtain ⟨v0, r, rfl, k0, k⟩ := k.cons_inv
  obtain ⟨v1, r, rfl, k1, k⟩ := k.cons_inv
  obtain rfl := k.nil_inv
  obtain ⟨n, rfl, hn⟩ := k0.int_inv
  obtain ⟨es, he, hm, _⟩ := k1.edges_inv
  exact ⟨n, v1, es, rfl, hn, he, hm⟩
def AqOk (x : Aq) : Prop := I64 x.op ∧ I64 x.a ∧ I64 x.b ∧ I64 x.w1 ∧ I64 x.w2 ∧ I64 x.w3
theorem ArgOk.ask (a : ArgOk h (true, [.int .i64, .int .i64, .int .i64, .int .i64, .int .i64, .int .i64]) v) : ∃ x : Aq, v = .agg ⟨aqR x⟩ ∧ AqOk x := by
  obtain ⟨acs, k, rfl⟩ := a.row
  obtain ⟨v0, r, rfl, k0, k⟩ := k.cons_inv
  obtain ⟨v1, r, rfl, k1, k⟩ := k.cons_inv
  obtain ⟨v2, r, rfl, k2, k⟩ := k.cons_inv
  obtain ⟨v3, r, rfl, k3, k⟩ := k.cons_inv
  obtain ⟨v4, r, rfl, k4, k⟩ := k.cons_inv
  obtain ⟨v5, r, rfl, k5, k⟩ := k.cons_inv
  obtain rfl := k.nil_inv
  obtain ⟨n0, rfl, h0⟩ := k0.int_inv
  obtain ⟨n1, rfl, h1⟩ := k1.int_inv
  obtain ⟨n2, rfl, h2⟩ := k2.int_inv
  obtain ⟨n3, rfl, h3⟩ := k3.int_inv
  obtain ⟨n4, rfl, h4⟩ := k4.int_inv
  obtain ⟨n5, rfl, h5⟩ := k5.int_inv
  exact ⟨⟨n0, n1, n2, n3, n4, n5⟩, rfl, h0, h1, h2, h3, h4, h5⟩
end
end Go.Proofs.YtjgacjidaeahdaaGreatDoor.Ab
set_option linter.unusedSimpArgs false
set_option linter.unusedVariables false
set_option linter.unnecessarySimpa false
set_option maxHeartbeats 4000000
namespace Go.Proofs.YtjgacjidaeahdaaGreatDoor.Ab
open Go.RowKit
section
variable {X : CallF} [LibX X] {h : Heap} {mv0 : Value} {ml0 : List Pr}
open Classical in
theorem l_Totals (hm0 : Rows h 2 mv0 (prsL ml0)) (hx0 : PrMax ml0) : C T X n_laws_FnExactTotals [mv0] h = some (.bool true, h) := by
  refine C_go t_laws_FnExactTotals rfl ?_
  unfold F_laws_FnExactTotals
  obtain ⟨n0, zc0, zb0, zd0⟩ := z_szPairS (X := X) hm0 hx0 (n := 1048576) (by omega) (by omega)
  by_cases hn0 : n0 < 0
  · simp only [zc0, hn0, go_sem]
  have bm0 : PrBnd ml0 := zd0 (by omega)
  have q0 : h <+: h := List.prefix_refl h
  obtain ⟨v1, h1, c1, p1, o1⟩ := x_toPairS (X := X) (hm0.up q0) (by have := bm0.1; unfold lim; omega)
  have q1 := q0.trans p1
  have l1 := pre_len p1
  have c2 := k_spec_Totals (X := X) o1.rows (by have := bm0.1; omega)
  obtain ⟨v3, h3, c3, p3, o3⟩ := x_toPairS (X := X) (hm0.up q1) (by have := bm0.1; unfold lim; omega)
  have q3 := q1.trans p3
  have l3 := pre_len p3
  have c4 := k_impl_Totals (X := X) o3.rows (by have := bm0.1; unfold lim; omega)
  obtain ⟨v5, h5, c5, p5, o5⟩ := x_toPairS (X := X) (hm0.up q3) (by have := bm0.1; unfold lim; omega)
  have o3_5 := o3.up p5
  have q5 := q3.trans p5
  have l5 := pre_len p5
  have c6 := k_eqPairS (X := X) o3_5.rows o5.rows (by have := bm0.1; unfold lim; omega)
  obtain ⟨a, b, c, d, x, y, z, k, hx⟩ := totV_form ml0
  rw [hx] at c2 c4
  simp only [zc0, hn0, c1, c2, c3, c4, c5, c6, k_eqTotal, List.prefix_refl, BEq.rfl, p1, p3, p5, go_sem]
  try exact finish_flat rfl q5
end
def ps_FnExactTotals : List (Bool × List CK) := [(false, [.sl [.str, .str]])]
theorem law_FnExactTotals (h : Heap) (avs : List Value) (ha : All2 (ArgOk h) ps_FnExactTotals avs) : C T libX n_laws_FnExactTotals avs h = some (.bool true, h) := by
  obtain ⟨v0, r, rfl, k0, ha⟩ := ha.cons_inv
  obtain rfl := ha.nil_inv
  obtain ⟨ml0, hm0, hx0a, hx0b⟩ := k0.cell.pairs_inv
  have hx0 : PrMax ml0 := ⟨hx0a, hx0b⟩
  exact l_Totals hm0 hx0
end Go.Proofs.YtjgacjidaeahdaaGreatDoor.Ab
