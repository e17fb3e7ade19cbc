/- Joined: K62, K63, K65, Op3, LFnExactShowRound. No conditions. -/
import Derived.Test.YtgmljppiiighmaaGreatDoorM19
import Derived.Test.YtgmljppiiighmaaGreatDoorM12
import Derived.Test.YtgmljppiiighmaaGreatDoorM4
import Derived.Test.YtgmljppiiighmaaGreatDoorM15
set_option linter.unusedSimpArgs false
set_option linter.unusedVariables false
set_option linter.unnecessarySimpa false
set_option maxHeartbeats 4000000
namespace Go.Proofs.YtgmljppiiighmaaGreatDoor.Ab
open Go.RowKit
theorem rdI_ok {s : ByteArray} (h : (rdI s).ok = true) : CertOk (rdI s).size (rdI s).es (rdI s).m (rdI s).ys (rdI s).gs := by
  unfold rdI at h ⊢
  by_cases k : CokI s
  · rw [if_pos k]
    exact k.2.2
  · rw [if_neg k] at h
    cases h
theorem cp_rng {size : Int} {es : List E} {l : List Cp} (g : MOk size es l) {i : Nat} (hi : i < l.length) : (0 ≤ (l.getD i c0).a ∧ (l.getD i c0).a < size) ∧ 0 ≤ (l.getD i c0).b ∧ (l.getD i c0).b < size := by
  have h := (mok_met g l.length (Nat.le_refl _)).2
  rw [List.take_length] at h
  have hm := getD_mem (d := c0) hi
  exact ⟨h _ (metL_mem.2 ⟨_, hm, .inl rfl⟩), h _ (metL_mem.2 ⟨_, hm, .inr rfl⟩)⟩
theorem bytL_rng {s : ByteArray} {x : Int} (h : x ∈ bytL s) : 0 ≤ x ∧ x < 256 := by
  unfold bytL at h
  obtain ⟨i, _, rfl⟩ := List.mem_map.1 h
  have := byt_lt (s := s) (i := i)
  omega
section
variable {m : List Pr} {r : Int}
theorem rnd_facts (k : RIn m r) : (roundC m r).ok = true ∧ CertOk (roundC m r).size (roundC m r).es (roundC m r).m (roundC m r).ys (roundC m r).gs ∧ (roundC m r).size = ((roundP m r).length : Int) := by
  obtain ⟨R, hR⟩ := rnd_ex m
  obtain ⟨n, rfl, hn, st, w, hw, hpi, hok, hsz⟩ := rin_facts k hR
  unfold roundC roundP
  rw [if_pos k, if_pos k, Int.toNat_natCast]
  have hP : poolT m n = w := by unfold poolT; rw [hw]; rfl
  rw [hP, bytL_len]
  exact ⟨hok, rdI_ok hok, hsz⟩
theorem rnd_not (k : ¬ RIn m r) : roundC m r = ⟨0, [], [], [], [], false⟩ ∧ roundP m r = [] := by
  unfold roundC roundP
  rw [if_neg k, if_neg k]
  exact ⟨rfl, rfl⟩
theorem rnd_cp {i : Nat} (hi : i < (roundC m r).m.length) : (0 ≤ ((roundC m r).m.getD i c0).a ∧ ((roundC m r).m.getD i c0).a < ((roundP m r).length : Int)) ∧ 0 ≤ ((roundC m r).m.getD i c0).b ∧ ((roundC m r).m.getD i c0).b < ((roundP m r).length : Int) := by
  by_cases k : RIn m r
  · obtain ⟨h1, h2, h3⟩ := rnd_facts k
    rw [← h3]
    exact cp_rng h2.2.1 hi
  · rw [(rnd_not k).1] at hi
    simp at hi
theorem rnd_len : (roundC m r).m.length ≤ 100 := by
  by_cases k : RIn m r
  · have := (cert_lens (rnd_facts k).2.1).2.2.1
    omega
  · rw [(rnd_not k).1]
    simp
theorem rnd_plen : (roundP m r).length ≤ 9 := by
  by_cases k : RIn m r
  · have h1 := (cert_lens (rnd_facts k).2.1).1
    have h2 := (rnd_facts k).2.2
    omega
  · rw [(rnd_not k).2]
    simp
theorem rnd_prng {x : Int} (h : x ∈ roundP m r) : 0 ≤ x ∧ x < 256 := by
  unfold roundP at h
  split at h
  · exact bytL_rng h
  · cases h
/-- The couples of a round, as ids. -/
noncomputable def coupF (m : List Pr) (r : Int) (c : Cp) : Cp := ⟨(roundP m r).getD c.a.toNat 0, (roundP m r).getD c.b.toNat 0⟩
noncomputable def coupL (m : List Pr) (r : Int) : List Cp := (roundC m r).m.map (coupF m r)
theorem coupL_len : (coupL m r).length ≤ 100 := by unfold coupL; rw [List.length_map]; exact rnd_len
theorem take_mapD {α β : Type} {d : α} {f : α → β} {l : List α} {i : Nat} (hi : i < l.length) : (l.take (i + 1)).map f = (l.take i).map f ++ [f (l.getD i d)] := by
  rw [take_snocD' (d := d) hi, List.map_append]; rfl
end
section
variable {X : CallF} [LibX X] {h : Heap} {m : List Pr} {mv : Value} {r : Int}
theorem k_impl_CouplesOf (hm : Rows h 2 mv (prsL m)) (hl : m.length ≤ lim) : ∃ v hh, C T X n_impl_CouplesOf [mv, .int .i64 r] h = some (.tuple ⟨[v, .bool (roundC m r).ok]⟩, hh) ∧ h <+: hh ∧ Own hh h.length hh.length 2 y_Couple v (cps (coupL m r)) := by
  suffices hs : ∃ w hh, C T X n_impl_CouplesOf [mv, .int .i64 r] h = some (w, hh) ∧ h <+: hh ∧ ∃ v, w = .tuple ⟨[v, .bool (roundC m r).ok]⟩ ∧ Own hh h.length hh.length 2 y_Couple v (cps (coupL m r)) by
    obtain ⟨w, hh, c, p, v, rfl, o⟩ := hs
    exact ⟨v, hh, c, p, o⟩
  refine C_ex t_impl_CouplesOf rfl ?_
  unfold F_impl_CouplesOf
  obtain ⟨v1, h1, c1, p1, a⟩ := k_impl_RoundOf (X := X) (r := r) hm hl
  obtain ⟨pv, ew, mw, yw, gw, rfl, o0, o1, o2, o3, o4⟩ := a.weak
  unfold certV at c1
  by_cases k : RIn m r
  · rw [(rnd_facts k).1] at c1 ⊢
    have hcl := rnd_len (m := m) (r := r)
    have hpl := rnd_plen (m := m) (r := r)
    simp only [c1, p1, o2.rows.lnm, zeros, fillAt, go_sem]
    refine w_for (roundC m r).m.length (fun i t loc h' => t 6 = pv ∧ t 22 = mw ∧ t 23 = .int .i64 ((roundC m r).m.length : Int) ∧ t 24 = .int .i64 i ∧ h1 <+: h' ∧ ∃ v, t 9 = v ∧ Own h' h1.length h'.length 2 y_Couple v (cps (((roundC m r).m.take i).map (coupF m r)))) ⟨rfl, rfl, rfl, rfl, List.prefix_refl _, _, rfl, Own.nil⟩ ?_
    rintro i t loc h' hi ⟨t6, t22, t23, t24, hp, v, t9, o⟩
    simp only [t23, t24, go_sem]
    refine w_open (by simp only [go_sem]; rfl) ?_ ?_ <;> intro hc
    · have hi1 : i < (roundC m r).m.length := by omega
      have hw : IntKind.i64.wrap ((i : Int) + 1) = ((i + 1 : Nat) : Int) := w64 (by omega) (by omega)
      have hel := cp_el (o2.rows.up hp) hi1
      have hrg := rnd_cp hi1
      obtain ⟨q, hq⟩ : ∃ q, q = (roundC m r).m.getD i c0 := ⟨_, rfl⟩
      rw [← hq] at hel hrg
      obtain ⟨a1, ha1⟩ := Int.eq_ofNat_of_zero_le hrg.1.1
      obtain ⟨b1, hb1⟩ := Int.eq_ofNat_of_zero_le hrg.2.1
      have ea := int_el (o0.rows.up hp) (i := a1) (by omega)
      have eb := int_el (o0.rows.up hp) (i := b1) (by omega)
      rw [ha1, hb1] at hel
      obtain ⟨v2, h2, c3, q1, q2, o5⟩ := o.push1 (pre_len hp) [.int .i64 ((roundP m r).getD a1 0), .int .i64 ((roundP m r).getD b1 0)] rfl (by simp; unfold lim; omega)
      rw [Nat.max_eq_right q1] at o5
      simp only [t6, t9, t22, t23, t24, hel.1, hel.2.2.1, ea.1, ea.2, eb.1, eb.2, zeros, fillAt, c3, o5.cells, hw, go_sem]
      refine ⟨hi1, pre_push hp (Nat.le_refl _) q1 q2, v2, rfl, ?_⟩
      rw [take_mapD (d := c0) hi1, ← hq]
      have e : coupF m r q = ⟨(roundP m r).getD a1 0, (roundP m r).getD b1 0⟩ := by unfold coupF; rw [ha1, hb1]; rfl
      rw [e]
      simpa [cps, cpR] using o5
    · have hin : i = (roundC m r).m.length := by omega
      subst hin
      rw [List.take_length] at o
      simp only [t9, go_sem]
      have hpp := p1.trans hp
      refine ⟨o.live, ?_⟩
      obtain ⟨hh, e, p2, hc⟩ := finish_cases (v := .tuple ⟨[v, .bool true]⟩) hpp
      rw [e]
      dsimp only
      rcases hc with rfl | ⟨hf, rfl⟩
      · exact ⟨p2, v, rfl, o.wide (pre_len p1) (Nat.le_refl _)⟩
      · simp only [flat, List.all_cons, Bool.and_eq_true] at hf
        exact ⟨p2, v, rfl, o.flatP (o.fl1 hf.1)⟩
  · have hk := rnd_not k
    have hL : coupL m r = [] := by unfold coupL; rw [hk.1]; rfl
    rw [hk.1] at c1 ⊢
    rw [hL]
    simp only [c1, p1, zeros, fillAt, go_sem]
    rw [finish_flat rfl p1]
    exact ⟨List.prefix_refl _, nilV, rfl, Own.nil⟩
end
section
variable {X : CallF} {h : Heap} {m : List Pr} {mv : Value} {r : Int}
theorem k_spec_CouplesOf (hm : Rows h 2 mv (prsL m)) (hl : m.length ≤ 1048576) : ∃ v hh, C T X n_spec_CouplesOf [mv, .int .i64 r] h = some (.tuple ⟨[v, .bool (roundC m r).ok]⟩, hh) ∧ h <+: hh ∧ Own hh h.length hh.length 2 y_Couple v (cps (coupL m r)) := by
  suffices hs : ∃ w hh, C T X n_spec_CouplesOf [mv, .int .i64 r] h = some (w, hh) ∧ h <+: hh ∧ ∃ v, w = .tuple ⟨[v, .bool (roundC m r).ok]⟩ ∧ Own hh h.length hh.length 2 y_Couple v (cps (coupL m r)) by
    obtain ⟨w, hh, c, p, v, rfl, o⟩ := hs
    exact ⟨v, hh, c, p, o⟩
  refine C_ex t_spec_CouplesOf rfl ?_
  unfold F_spec_CouplesOf
  obtain ⟨v1, h1, c1, p1, a⟩ := k_spec_RoundOf (X := X) (r := r) hm hl
  obtain ⟨pv, ew, mw, yw, gw, rfl, o0, o1, o2, o3, o4⟩ := a
  unfold certV at c1
  have hcl := rnd_len (m := m) (r := r)
  have hpl := rnd_plen (m := m) (r := r)
  simp only [c1, p1, zeros, fillAt, go_sem]
  refine w_for (roundC m r).m.length (fun i t loc h' => t 6 = pv ∧ t 8 = .bool (roundC m r).ok ∧ loc 7 = some [.int .i64 (roundC m r).size, ew, mw, yw, gw] ∧ t 10 = .int .i64 i ∧ h1 <+: h' ∧ ∃ v, t 9 = v ∧ Own h' h1.length h'.length 2 y_Couple v (cps (((roundC m r).m.take i).map (coupF m r)))) ⟨rfl, rfl, rfl, rfl, List.prefix_append _ _, _, rfl, Acc.new.own⟩ ?_
  rintro i t loc h' hi ⟨t6, t8, l7, t10, hp, v, t9, o⟩
  have ln := (o2.rows.up hp).lnm
  simp only [t10, l7, ln, go_sem]
  refine w_open (by simp only [go_sem]; rfl) ?_ ?_ <;> intro hc
  · have hi1 : i < (roundC m r).m.length := by omega
    have hw : IntKind.i64.wrap ((i : Int) + 1) = ((i + 1 : Nat) : Int) := w64 (by omega) (by omega)
    have hel := cp_el (o2.rows.up hp) hi1
    have hrg := rnd_cp hi1
    obtain ⟨q, hq⟩ : ∃ q, q = (roundC m r).m.getD i c0 := ⟨_, rfl⟩
    rw [← hq] at hel hrg
    obtain ⟨a1, ha1⟩ := Int.eq_ofNat_of_zero_le hrg.1.1
    obtain ⟨b1, hb1⟩ := Int.eq_ofNat_of_zero_le hrg.2.1
    have ea := int_el (o0.rows.up hp) (i := a1) (by omega)
    have eb := int_el (o0.rows.up hp) (i := b1) (by omega)
    rw [ha1, hb1] at hel
    obtain ⟨v2, h2, c3, q1, q2, o5⟩ := o.push1 (pre_len hp) [.int .i64 ((roundP m r).getD a1 0), .int .i64 ((roundP m r).getD b1 0)] rfl (by simp; unfold lim; omega)
    rw [Nat.max_eq_right q1] at o5
    simp only [t6, t8, t9, t10, l7, hel.1, hel.2.1, hel.2.2.2.1, hel.2.2.2.2, ea.1, ea.2, eb.1, eb.2, zeros, fillAt, c3, o5.cells, hw, go_sem]
    refine ⟨hi1, pre_push hp (Nat.le_refl _) q1 q2, v2, rfl, ?_⟩
    rw [take_mapD (d := c0) hi1, ← hq]
    have e : coupF m r q = ⟨(roundP m r).getD a1 0, (roundP m r).getD b1 0⟩ := by unfold coupF; rw [ha1, hb1]; rfl
    rw [e]
    simpa [cps, cpR] using o5
  · have hin : i = (roundC m r).m.length := by omega
    subst hin
    rw [List.take_length] at o
    simp only [t8, t9, go_sem]
    have hpp := p1.trans hp
    refine ⟨o.live, ?_⟩
    obtain ⟨hh, e, p2, hc⟩ := finish_cases (v := .tuple ⟨[v, .bool (roundC m r).ok]⟩) hpp
    rw [e]
    dsimp only
    rcases hc with rfl | ⟨hf, rfl⟩
    · exact ⟨p2, v, rfl, o.wide (pre_len p1) (Nat.le_refl _)⟩
    · simp only [flat, List.all_cons, Bool.and_eq_true] at hf
      exact ⟨p2, v, rfl, o.flatP (o.fl1 hf.1)⟩
end
end Go.Proofs.YtgmljppiiighmaaGreatDoor.Ab
set_option linter.unusedSimpArgs false
set_option linter.unusedVariables false
set_option linter.unnecessarySimpa false
set_option maxHeartbeats 4000000
namespace Go.Proofs.YtgmljppiiighmaaGreatDoor.Ab
open Go.RowKit
theorem rin_of {m : List Pr} {R n : Nat} (st : StI cfR m) (hR : IsRnd m R) (hn : n < R) : RIn m (n : Int) := ⟨st, R, n, hR, rfl, hn⟩
theorem roundP_in {m : List Pr} {R n : Nat} (st : StI cfR m) (hR : IsRnd m R) (hn : n < R) : roundP m (n : Int) = bytL (poolT m n) := by
  unfold roundP
  rw [if_pos (rin_of st hR hn), Int.toNat_natCast]
section
variable {X : CallF} [LibX X] {h : Heap} {m : List Pr} {mv : Value} {id : Int}
end
section
variable {X : CallF} {h : Heap} {m : List Pr} {mv : Value} {id : Int}
end
end Go.Proofs.YtgmljppiiighmaaGreatDoor.Ab
set_option linter.unusedSimpArgs false
set_option linter.unusedVariables false
set_option linter.unnecessarySimpa false
set_option maxHeartbeats 4000000
namespace Go.Proofs.YtgmljppiiighmaaGreatDoor.Ab
open Go.RowKit
def spT : ByteArray := ⟨⟨[32]⟩⟩
def plT : ByteArray := ⟨⟨[43]⟩⟩
def rouT : ByteArray := ⟨⟨[114, 111, 117, 110, 100, 32]⟩⟩
def colT : ByteArray := ⟨⟨[58]⟩⟩
def aloT : ByteArray := ⟨⟨[59, 32, 97, 108, 111, 110, 101, 58]⟩⟩
def sdT (a : Nat) : ByteArray := spT ++ decT a
def cpT (c : Cp) : ByteArray := (sdT c.a.toNat ++ plT) ++ decT c.b.toNat
def headT (n : Nat) : ByteArray := (rouT ++ decT n) ++ colT
def coT (b : ByteArray) (l : List Cp) : ByteArray := l.foldl (fun s c => s ++ cpT c) b
def alT (met : List Int) (b : ByteArray) (l : List Int) : ByteArray := l.foldl (fun s x => if x ∈ met then s else s ++ sdT x.toNat) b
theorem coT_snoc {b : ByteArray} {l : List Cp} {c : Cp} : coT b (l ++ [c]) = coT b l ++ cpT c := by unfold coT; rw [List.foldl_append]; rfl
theorem alT_snoc {met : List Int} {b : ByteArray} {l : List Int} {x : Int} : alT met b (l ++ [x]) = if x ∈ met then alT met b l else alT met b l ++ sdT x.toNat := by unfold alT; rw [List.foldl_append]; rfl
theorem sdT_size {a : Nat} (h : a < 256) : (sdT a).size ≤ 4 := by
  have := decT_size (n := a) (k := 3) (by omega) (by omega)
  have e : spT.size = 1 := rfl
  unfold sdT
  rw [ByteArray.size_append]
  omega
theorem cpT_size {c : Cp} (ha : 0 ≤ c.a ∧ c.a < 256) (hb : 0 ≤ c.b ∧ c.b < 256) : (cpT c).size ≤ 8 := by
  have h1 := sdT_size (a := c.a.toNat) (by omega)
  have h2 := decT_size (n := c.b.toNat) (k := 3) (by omega) (by omega)
  have e : plT.size = 1 := rfl
  unfold cpT
  rw [ByteArray.size_append, ByteArray.size_append]
  omega
def CpR (l : List Cp) : Prop := ∀ c ∈ l, (0 ≤ c.a ∧ c.a < 256) ∧ 0 ≤ c.b ∧ c.b < 256
theorem coT_size : ∀ {l : List Cp} {b : ByteArray}, CpR l → (coT b l).size ≤ b.size + 8 * l.length
  | [], b, _ => Nat.le_refl _
  | c :: l, b, h => by
    have h1 := h c List.mem_cons_self
    have ih := coT_size (l := l) (b := b ++ cpT c) fun x hx => h x (List.mem_cons_of_mem _ hx)
    have h2 := cpT_size h1.1 h1.2
    show (coT (b ++ cpT c) l).size ≤ _
    rw [ByteArray.size_append] at ih
    rw [List.length_cons]
    omega
theorem alT_size {met : List Int} : ∀ {l : List Int} {b : ByteArray}, (∀ x ∈ l, 0 ≤ x ∧ x < 256) → (alT met b l).size ≤ b.size + 4 * l.length
  | [], b, _ => Nat.le_refl _
  | x :: l, b, h => by
    have h1 := h x List.mem_cons_self
    show (alT met (if x ∈ met then b else b ++ sdT x.toNat) l).size ≤ _
    have ih := fun b => alT_size (met := met) (l := l) (b := b) fun y hy => h y (List.mem_cons_of_mem _ hy)
    have h2 := sdT_size (a := x.toNat) (by omega)
    rw [List.length_cons]
    by_cases g : x ∈ met
    · rw [if_pos g]; have := ih b; omega
    · rw [if_neg g]
      have := ih (b ++ sdT x.toNat)
      rw [ByteArray.size_append] at this
      omega
/-- A round as text. -/
noncomputable def showT (m : List Pr) (r : Int) : ByteArray :=
  if (roundC m r).ok = true then alT (metL (coupL m r)) (coT (headT r.toNat) (coupL m r) ++ aloT) (roundP m r) else noT
section
variable {m : List Pr} {r : Int}
theorem coup_rng : CpR (coupL m r) := fun c hc => by
  unfold coupL at hc
  obtain ⟨q, hq, rfl⟩ := List.mem_map.1 hc
  obtain ⟨i, hi, rfl⟩ := mem_getD (d := c0) hq
  have h := rnd_cp hi
  unfold coupF
  obtain ⟨a1, ha1⟩ := Int.eq_ofNat_of_zero_le h.1.1
  obtain ⟨b1, hb1⟩ := Int.eq_ofNat_of_zero_le h.2.1
  rw [ha1, hb1]
  exact ⟨rnd_prng (getD_mem (d := 0) (by rw [Int.toNat_natCast]; omega)), rnd_prng (getD_mem (d := 0) (by rw [Int.toNat_natCast]; omega))⟩
end
section
variable {X : CallF} [LibX X] {h : Heap} {m : List Pr} {mv : Value} {r : Int}
theorem k_impl_ShowRound (hm : Rows h 2 mv (prsL m)) (hl : m.length ≤ lim) : C T X n_impl_ShowRound [mv, .int .i64 r] h = some (.string (showT m r), h) := by
  refine C_go t_impl_ShowRound rfl ?_
  unfold F_impl_ShowRound showT
  obtain ⟨cv, h1, k1, p1, o1⟩ := k_impl_CouplesOf (X := X) (r := r) hm hl
  by_cases k : RIn m r
  · have hok := (rnd_facts k).1
    rw [hok] at k1
    rw [if_pos hok]
    obtain ⟨R, hR⟩ := rnd_ex m
    obtain ⟨n, rfl, hn, st, _⟩ := rin_facts k hR
    have hR6 := st_rnd st hR
    rw [Int.toNat_natCast]
    obtain ⟨L, hL⟩ : ∃ L, L = coupL m (n : Int) := ⟨_, rfl⟩
    have hLl : L.length ≤ 100 := by rw [hL]; exact coupL_len
    have hLr : CpR L := by rw [hL]; exact coup_rng
    rw [← hL] at o1 ⊢
    have kd := k_impl_Decimal (X := X) (h := h1) (n := n) (by omega)
    have hds := decT_size (n := n) (k := 1) (by omega) (by omega)
    have z1 : (⟨[114, 111, 117, 110, 100, 32]⟩ : Array UInt8).size + (decT n).size ≤ 9223372036854775807 := by
      have : (⟨[114, 111, 117, 110, 100, 32]⟩ : Array UInt8).size = 6 := rfl
      omega
    obtain ⟨H1, hH1⟩ : ∃ H1, H1 = rouT ++ decT n := ⟨_, rfl⟩
    have e1 : (⟨⟨[114, 111, 117, 110, 100, 32]⟩⟩ : ByteArray) ++ decT n = H1 := hH1.symm
    have hrs : H1.size ≤ 7 := by rw [hH1, ByteArray.size_append]; have : rouT.size = 6 := rfl; omega
    have z2 : H1.size + (⟨[58]⟩ : Array UInt8).size ≤ 9223372036854775807 := by rw [asz]; omega
    have e2 : H1 ++ (⟨⟨[58]⟩⟩ : ByteArray) = headT n := by rw [hH1]; rfl
    have hhs : (headT n).size ≤ 8 := by rw [← e2, ByteArray.size_append]; have : (⟨⟨[58]⟩⟩ : ByteArray).size = 1 := rfl; omega
    simp only [k1, p1, kd, z1, e1, z2, e2, o1.rows.lnm, zeros, fillAt, go_sem]
    refine w_for L.length (fun i t loc h' => t 0 = mv ∧ t 1 = .int .i64 (n : Int) ∧ t 28 = cv ∧ t 29 = .int .i64 (L.length : Int) ∧ t 30 = .int .i64 i ∧ h1 <+: h' ∧ t 7 = .string (coT (headT n) (L.take i)) ∧ ∃ v, t 8 = v ∧ Own h' h1.length h'.length 1 y_int v (ints (metL (L.take i)))) ⟨rfl, rfl, rfl, rfl, rfl, List.prefix_refl _, rfl, nilV, rfl, Own.nil⟩ ?_
    rintro i t loc h' hi ⟨t0, t1, t28, t29, t30, hp, t7, v, t8, o⟩
    simp only [t29, t30, go_sem]
    refine w_open (by simp only [go_sem]; rfl) ?_ ?_ <;> intro hc
    · have hi1 : i < L.length := by omega
      have hw : IntKind.i64.wrap ((i : Int) + 1) = ((i + 1 : Nat) : Int) := w64 (by omega) (by omega)
      have el := cp_el (o1.rows.up hp) hi1
      have hqr := hLr _ (getD_mem (d := c0) hi1)
      have hts := coT_size (b := headT n) (l := L.take i) fun x hx => hLr x (List.mem_of_mem_take hx)
      have htl : (L.take i).length ≤ i := List.length_take_le ..
      have hsn := coT_snoc (b := headT n) (l := L.take i) (c := L.getD i c0)
      rw [← take_snocD' (d := c0) hi1] at hsn
      have hme := metL_snoc (m := L.take i) (c := L.getD i c0)
      rw [← take_snocD' (d := c0) hi1] at hme
      have hmz : (metL (L.take i)).length ≤ 200 := by rw [metL_len]; omega
      obtain ⟨q, hq⟩ : ∃ q, q = L.getD i c0 := ⟨_, rfl⟩
      rw [← hq] at el hqr hsn hme
      obtain ⟨S, hS⟩ : ∃ S, S = coT (headT n) (L.take i) := ⟨_, rfl⟩
      rw [← hS] at t7 hts hsn
      have hcs := cpT_size hqr.1 hqr.2
      obtain ⟨v2, h2, c3, q1, q2, o2⟩ := o.push (pre_len hp) [[.int .i64 q.a], [.int .i64 q.b]] (by simp) (by simp) (by rw [ints_len]; simp; unfold lim; omega)
      simp only [List.flatten_cons, List.flatten_nil, List.append_nil, List.cons_append, List.nil_append, List.length_cons, List.length_nil, Nat.zero_add, Nat.reduceAdd] at c3
      rw [Nat.max_eq_right q1] at o2
      obtain ⟨a1, ha1⟩ := Int.eq_ofNat_of_zero_le hqr.1.1
      obtain ⟨b1, hb1⟩ := Int.eq_ofNat_of_zero_le hqr.2.1
      obtain ⟨C1, hC1⟩ : ∃ C1, C1 = cpT q := ⟨_, rfl⟩
      obtain ⟨C2, hC2⟩ : ∃ C2, C2 = sdT a1 ++ plT := ⟨_, rfl⟩
      have hcp : C2 ++ decT b1 = C1 := by rw [hC1, hC2]; unfold cpT; rw [ha1, hb1]; rfl
      rw [← hC1] at hcs hsn
      have d1 := k_impl_Decimal (X := X) (h := h') (n := a1) (by omega)
      have d2 := k_impl_Decimal (X := X) (h := h') (n := b1) (by omega)
      have s1 := decT_size (n := a1) (k := 3) (by omega) (by omega)
      have s2 := decT_size (n := b1) (k := 3) (by omega) (by omega)
      have s3 := sdT_size (a := a1) (by omega)
      have y1 : (⟨[32]⟩ : Array UInt8).size + (decT a1).size ≤ 9223372036854775807 := by rw [asz]; omega
      have f1 : (⟨⟨[32]⟩⟩ : ByteArray) ++ decT a1 = sdT a1 := rfl
      have y2 : (sdT a1).size + (⟨[43]⟩ : Array UInt8).size ≤ 9223372036854775807 := by rw [asz]; omega
      have f2 : sdT a1 ++ (⟨⟨[43]⟩⟩ : ByteArray) = C2 := hC2.symm
      have y3 : C2.size + (decT b1).size ≤ 9223372036854775807 := by rw [hC2, ByteArray.size_append]; have : plT.size = 1 := rfl; omega
      have y4 : S.size + C1.size ≤ 9223372036854775807 := by omega
      rw [ha1, hb1] at el c3
      simp only [t0, t1, t7, t8, t28, t29, t30, el.1, el.2.2.1, d1, d2, y1, f1, y2, f2, y3, hcp, y4, c3, hw, zeros, fillAt, go_sem]
      refine ⟨hi1, pre_push hp (Nat.le_refl _) q1 q2, by rw [hsn], v2, rfl, ?_⟩
      rw [hme]
      rw [ha1, hb1] at o2 ⊢
      simpa [ints] using o2
    · have hin : i = L.length := by omega
      subst hin
      rw [List.take_length] at t7 o
      have hts := coT_size (b := headT n) (l := L) hLr
      obtain ⟨S, hS⟩ : ∃ S, S = coT (headT n) L := ⟨_, rfl⟩
      rw [← hS] at t7 hts ⊢
      have y5 : S.size + (⟨[59, 32, 97, 108, 111, 110, 101, 58]⟩ : Array UInt8).size ≤ 9223372036854775807 := by
        have : (⟨[59, 32, 97, 108, 111, 110, 101, 58]⟩ : Array UInt8).size = 8 := rfl
        omega
      have f5 : S ++ (⟨⟨[59, 32, 97, 108, 111, 110, 101, 58]⟩⟩ : ByteArray) = S ++ aloT := rfl
      have hS2 : (S ++ aloT).size ≤ 1000 := by rw [ByteArray.size_append]; have : aloT.size = 8 := rfl; omega
      obtain ⟨S2, hS2e⟩ : ∃ S2, S2 = S ++ aloT := ⟨_, rfl⟩
      rw [← hS2e] at f5 hS2 ⊢
      obtain ⟨v5, h5, k5, p5, a5⟩ := k_impl_RoundOf (X := X) (r := (n : Int)) (hm.up (p1.trans hp)) hl
      obtain ⟨pv, ew, mw, yw, gw, rfl, o50, o51, o52, o53, o54⟩ := a5.weak
      unfold certV at k5
      obtain ⟨P, hP⟩ : ∃ P, P = roundP m (n : Int) := ⟨_, rfl⟩
      have hPl : P.length ≤ 9 := by rw [hP]; exact rnd_plen
      have hPr : ∀ x ∈ P, 0 ≤ x ∧ x < 256 := by rw [hP]; exact fun x hx => rnd_prng hx
      rw [← hP] at o50 ⊢
      have o5 := o.rows.up p5
      have hmz : (metL L).length ≤ 200 := by rw [metL_len]; omega
      have lnP := o50.rows.lnm
      simp only [t0, t1, t7, t8, y5, f5, k5, p5, lnP, zeros, fillAt, go_sem]
      refine w_for P.length (fun i t loc h' => h' = h5 ∧ t 8 = v ∧ t 62 = pv ∧ t 63 = .int .i64 (P.length : Int) ∧ t 64 = .int .i64 i ∧ t 7 = .string (alT (metL L) S2 (P.take i))) ⟨rfl, rfl, rfl, rfl, rfl, rfl⟩ ?_
      rintro i t loc h' hi ⟨rfl, t8, t62, t63, t64, t7⟩
      simp only [t63, t64, go_sem]
      refine w_open (by simp only [go_sem]; rfl) ?_ ?_ <;> intro hc
      · have hi1 : i < P.length := by omega
        have hw : IntKind.i64.wrap ((i : Int) + 1) = ((i + 1 : Nat) : Int) := w64 (by omega) (by omega)
        have el := int_el o50.rows hi1
        have hqr := hPr _ (getD_mem (d := 0) hi1)
        have hts := alT_size (met := metL L) (b := S2) (l := P.take i) fun x hx => hPr x (List.mem_of_mem_take hx)
        have htl : (P.take i).length ≤ i := List.length_take_le ..
        have hsn := alT_snoc (met := metL L) (b := S2) (l := P.take i) (x := P.getD i 0)
        rw [← take_snocD' (d := 0) hi1] at hsn
        obtain ⟨q, hq⟩ : ∃ q, q = P.getD i 0 := ⟨_, rfl⟩
        rw [← hq] at el hqr hsn
        obtain ⟨S3, hS3⟩ : ∃ S3, S3 = alT (metL L) S2 (P.take i) := ⟨_, rfl⟩
        rw [← hS3] at t7 hts hsn
        obtain ⟨a1, rfl⟩ := Int.eq_ofNat_of_zero_le hqr.1
        rw [Int.toNat_natCast] at hsn
        have ch := k_impl_hasInt (X := X) (n := (a1 : Int)) o5 (by unfold lim; omega)
        have d1 := k_impl_Decimal (X := X) (h := h') (n := a1) (by omega)
        have s1 := decT_size (n := a1) (k := 3) (by omega) (by omega)
        have s3 := sdT_size (a := a1) (by omega)
        have y1 : (⟨[32]⟩ : Array UInt8).size + (decT a1).size ≤ 9223372036854775807 := by rw [asz]; omega
        have f1 : (⟨⟨[32]⟩⟩ : ByteArray) ++ decT a1 = sdT a1 := rfl
        have y2 : S3.size + (sdT a1).size ≤ 9223372036854775807 := by omega
        by_cases g : (a1 : Int) ∈ metL L
        · rw [if_pos g] at hsn
          simp only [t7, t8, t62, t63, t64, el.1, el.2, ch, g, hw, zeros, fillAt, go_sem]
          exact ⟨hi1, by rw [hsn]⟩
        · rw [if_neg g] at hsn
          simp only [t7, t8, t62, t63, t64, el.1, el.2, ch, g, d1, y1, f1, y2, hw, zeros, fillAt, go_sem]
          exact ⟨hi1, by rw [hsn]⟩
      · have hin : i = P.length := by omega
        subst hin
        rw [List.take_length] at t7
        simp only [t7, go_sem]
        exact finish_flat rfl ((p1.trans hp).trans p5)
  · have hk := rnd_not k
    rw [hk.1] at k1
    have hno : ¬ (roundC m r).ok = true := by rw [hk.1]; simp
    rw [if_neg hno]
    simp only [k1, p1, zeros, fillAt, go_sem]
    exact finish_flat rfl p1
end
section
variable {X : CallF} {h : Heap} {m : List Pr} {mv : Value} {r : Int}
theorem k_spec_ShowRound (hm : Rows h 2 mv (prsL m)) (hl : m.length ≤ 1048576) : C T X n_spec_ShowRound [mv, .int .i64 r] h = some (.string (showT m r), h) := by
  have hl' : m.length ≤ lim := by unfold lim; omega
  refine C_go t_spec_ShowRound rfl ?_
  unfold F_spec_ShowRound showT
  obtain ⟨cv, h1, k1, p1, o1⟩ := k_spec_CouplesOf (X := X) (r := r) hm hl
  by_cases k : RIn m r
  · have hok := (rnd_facts k).1
    rw [hok] at k1
    rw [if_pos hok]
    obtain ⟨R, hR⟩ := rnd_ex m
    obtain ⟨n, rfl, hn, st, _⟩ := rin_facts k hR
    have hR6 := st_rnd st hR
    rw [Int.toNat_natCast]
    obtain ⟨L, hL⟩ : ∃ L, L = coupL m (n : Int) := ⟨_, rfl⟩
    have hLl : L.length ≤ 100 := by rw [hL]; exact coupL_len
    have hLr : CpR L := by rw [hL]; exact coup_rng
    rw [← hL] at o1 ⊢
    have kd := k_spec_Decimal (X := X) (h := h1) (n := n) (by omega)
    have hds := decT_size (n := n) (k := 1) (by omega) (by omega)
    have z1 : (⟨[114, 111, 117, 110, 100, 32]⟩ : Array UInt8).size + (decT n).size ≤ 9223372036854775807 := by
      have : (⟨[114, 111, 117, 110, 100, 32]⟩ : Array UInt8).size = 6 := rfl
      omega
    obtain ⟨H1, hH1⟩ : ∃ H1, H1 = rouT ++ decT n := ⟨_, rfl⟩
    have e1 : (⟨⟨[114, 111, 117, 110, 100, 32]⟩⟩ : ByteArray) ++ decT n = H1 := hH1.symm
    have hrs : H1.size ≤ 7 := by rw [hH1, ByteArray.size_append]; have : rouT.size = 6 := rfl; omega
    have z2 : H1.size + (⟨[58]⟩ : Array UInt8).size ≤ 9223372036854775807 := by rw [asz]; omega
    have e2 : H1 ++ (⟨⟨[58]⟩⟩ : ByteArray) = headT n := by rw [hH1]; rfl
    have hhs : (headT n).size ≤ 8 := by rw [← e2, ByteArray.size_append]; have : (⟨⟨[58]⟩⟩ : ByteArray).size = 1 := rfl; omega
    simp only [k1, p1, kd, z1, e1, z2, e2, zeros, fillAt, go_sem]
    refine w_for L.length (fun i t loc h' => t 0 = mv ∧ t 1 = .int .i64 (n : Int) ∧ t 5 = cv ∧ t 9 = .int .i64 i ∧ h1 <+: h' ∧ t 7 = .string (coT (headT n) (L.take i)) ∧ ∃ v, t 8 = v ∧ Own h' h1.length h'.length 1 y_int v (ints (metL (L.take i)))) ⟨rfl, rfl, rfl, rfl, List.prefix_append _ _, rfl, _, rfl, Acc.new.own⟩ ?_
    rintro i t loc h' hi ⟨t0, t1, t5, t9, hp, t7, v, t8, o⟩
    simp only [t5, t9, (o1.rows.up hp).lnm, go_sem]
    refine w_open (by simp only [go_sem]; rfl) ?_ ?_ <;> intro hc
    · have hi1 : i < L.length := by omega
      have hw : IntKind.i64.wrap ((i : Int) + 1) = ((i + 1 : Nat) : Int) := w64 (by omega) (by omega)
      have el := cp_el (o1.rows.up hp) hi1
      have hqr := hLr _ (getD_mem (d := c0) hi1)
      have hts := coT_size (b := headT n) (l := L.take i) fun x hx => hLr x (List.mem_of_mem_take hx)
      have htl : (L.take i).length ≤ i := List.length_take_le ..
      have hsn := coT_snoc (b := headT n) (l := L.take i) (c := L.getD i c0)
      rw [← take_snocD' (d := c0) hi1] at hsn
      have hme := metL_snoc (m := L.take i) (c := L.getD i c0)
      rw [← take_snocD' (d := c0) hi1] at hme
      have hmz : (metL (L.take i)).length ≤ 200 := by rw [metL_len]; omega
      obtain ⟨q, hq⟩ : ∃ q, q = L.getD i c0 := ⟨_, rfl⟩
      rw [← hq] at el hqr hsn hme
      obtain ⟨S, hS⟩ : ∃ S, S = coT (headT n) (L.take i) := ⟨_, rfl⟩
      rw [← hS] at t7 hts hsn
      obtain ⟨v2, h2, c3, q1, q2, o2⟩ := o.push (pre_len hp) [[.int .i64 q.a], [.int .i64 q.b]] (by simp) (by simp) (by rw [ints_len]; simp; unfold lim; omega)
      simp only [List.flatten_cons, List.flatten_nil, List.append_nil, List.cons_append, List.nil_append, List.length_cons, List.length_nil, Nat.zero_add, Nat.reduceAdd] at c3
      rw [Nat.max_eq_right q1] at o2
      obtain ⟨a1, ha1⟩ := Int.eq_ofNat_of_zero_le hqr.1.1
      obtain ⟨b1, hb1⟩ := Int.eq_ofNat_of_zero_le hqr.2.1
      have d1 := k_spec_Decimal (X := X) (h := h') (n := a1) (by omega)
      have d2 := k_spec_Decimal (X := X) (h := h') (n := b1) (by omega)
      have s1 := decT_size (n := a1) (k := 3) (by omega) (by omega)
      have s2 := decT_size (n := b1) (k := 3) (by omega) (by omega)
      obtain ⟨D1, hD1⟩ : ∃ D1, D1 = S ++ spT := ⟨_, rfl⟩
      obtain ⟨D2, hD2⟩ : ∃ D2, D2 = D1 ++ decT a1 := ⟨_, rfl⟩
      obtain ⟨D3, hD3⟩ : ∃ D3, D3 = D2 ++ plT := ⟨_, rfl⟩
      obtain ⟨D4, hD4⟩ : ∃ D4, D4 = D3 ++ decT b1 := ⟨_, rfl⟩
      have g1 : D1.size = S.size + 1 := by rw [hD1, ByteArray.size_append]; rfl
      have g2 : D2.size = D1.size + (decT a1).size := by rw [hD2, ByteArray.size_append]
      have g3 : D3.size = D2.size + 1 := by rw [hD3, ByteArray.size_append]; rfl
      have y1 : S.size + (⟨[32]⟩ : Array UInt8).size ≤ 9223372036854775807 := by rw [asz]; omega
      have f1 : S ++ (⟨⟨[32]⟩⟩ : ByteArray) = D1 := hD1.symm
      have y2 : D1.size + (decT a1).size ≤ 9223372036854775807 := by omega
      have y3 : D2.size + (⟨[43]⟩ : Array UInt8).size ≤ 9223372036854775807 := by rw [asz]; omega
      have f3 : D2 ++ (⟨⟨[43]⟩⟩ : ByteArray) = D3 := hD3.symm
      have y4 : D3.size + (decT b1).size ≤ 9223372036854775807 := by omega
      have hsn' : coT (headT n) (L.take (i + 1)) = D4 := by
        rw [hsn, hD4, hD3, hD2, hD1]
        unfold cpT sdT
        rw [ha1, hb1]
        simp only [ByteArray.append_assoc]
        rfl
      rw [ha1, hb1] at el c3
      simp only [t0, t1, t5, t7, t8, t9, el.1, el.2.1, el.2.2.2.1, el.2.2.2.2, d1, d2, y1, f1, y2, ← hD2, y3, f3, y4, ← hD4, c3, hw, zeros, fillAt, go_sem]
      refine ⟨List.prefix_refl _, List.prefix_refl _, hi1, pre_push hp (Nat.le_refl _) q1 q2, by rw [hsn'], v2, rfl, ?_⟩
      rw [hme]
      rw [ha1, hb1] at o2 ⊢
      simpa [ints] using o2
    · have hin : i = L.length := by omega
      subst hin
      rw [List.take_length] at t7 o
      have hts := coT_size (b := headT n) (l := L) hLr
      obtain ⟨S, hS⟩ : ∃ S, S = coT (headT n) L := ⟨_, rfl⟩
      rw [← hS] at t7 hts ⊢
      have y5 : S.size + (⟨[59, 32, 97, 108, 111, 110, 101, 58]⟩ : Array UInt8).size ≤ 9223372036854775807 := by
        have : (⟨[59, 32, 97, 108, 111, 110, 101, 58]⟩ : Array UInt8).size = 8 := rfl
        omega
      have f5 : S ++ (⟨⟨[59, 32, 97, 108, 111, 110, 101, 58]⟩⟩ : ByteArray) = S ++ aloT := rfl
      have hS2 : (S ++ aloT).size ≤ 1000 := by rw [ByteArray.size_append]; have : aloT.size = 8 := rfl; omega
      obtain ⟨S2, hS2e⟩ : ∃ S2, S2 = S ++ aloT := ⟨_, rfl⟩
      rw [← hS2e] at f5 hS2 ⊢
      obtain ⟨pv, h5, k5, p5, o50⟩ := k_spec_l13Pool (X := X) (r := n) (by omega) (mapIs_v st.1) (hm.up (p1.trans hp)) hl'
      have hPo := roundP_in st hR hn
      unfold poolT at hPo
      rw [← hPo] at o50
      obtain ⟨P, hP⟩ : ∃ P, P = roundP m (n : Int) := ⟨_, rfl⟩
      have hPl : P.length ≤ 9 := by rw [hP]; exact rnd_plen
      have hPr : ∀ x ∈ P, 0 ≤ x ∧ x < 256 := by rw [hP]; exact fun x hx => rnd_prng hx
      rw [← hP] at o50 ⊢
      have o5 := o.rows.up p5
      have hmz : (metL L).length ≤ 200 := by rw [metL_len]; omega
      simp only [t0, t1, t7, t8, y5, f5, k5, p5, zeros, fillAt, go_sem]
      refine w_for P.length (fun i t loc h' => h' = h5 ∧ t 8 = v ∧ t 10 = pv ∧ t 11 = .int .i64 i ∧ t 7 = .string (alT (metL L) S2 (P.take i))) ⟨rfl, rfl, rfl, rfl, rfl⟩ ?_
      rintro i t loc h' hi ⟨rfl, t8, t10, t11, t7⟩
      simp only [t10, t11, o50.rows.lnm, go_sem]
      refine w_open (by simp only [go_sem]; rfl) ?_ ?_ <;> intro hc
      · have hi1 : i < P.length := by omega
        have hw : IntKind.i64.wrap ((i : Int) + 1) = ((i + 1 : Nat) : Int) := w64 (by omega) (by omega)
        have el := int_el o50.rows hi1
        have hqr := hPr _ (getD_mem (d := 0) hi1)
        have hts := alT_size (met := metL L) (b := S2) (l := P.take i) fun x hx => hPr x (List.mem_of_mem_take hx)
        have htl : (P.take i).length ≤ i := List.length_take_le ..
        have hsn := alT_snoc (met := metL L) (b := S2) (l := P.take i) (x := P.getD i 0)
        rw [← take_snocD' (d := 0) hi1] at hsn
        obtain ⟨q, hq⟩ : ∃ q, q = P.getD i 0 := ⟨_, rfl⟩
        rw [← hq] at el hqr hsn
        obtain ⟨S3, hS3⟩ : ∃ S3, S3 = alT (metL L) S2 (P.take i) := ⟨_, rfl⟩
        rw [← hS3] at t7 hts hsn
        obtain ⟨a1, rfl⟩ := Int.eq_ofNat_of_zero_le hqr.1
        rw [Int.toNat_natCast] at hsn
        have ch := k_spec_l03In (X := X) (n := (a1 : Int)) o5 (by unfold lim; omega)
        have d1 := k_spec_Decimal (X := X) (h := h') (n := a1) (by omega)
        have s1 := decT_size (n := a1) (k := 3) (by omega) (by omega)
        obtain ⟨D1, hD1⟩ : ∃ D1, D1 = S3 ++ spT := ⟨_, rfl⟩
        obtain ⟨D2, hD2⟩ : ∃ D2, D2 = D1 ++ decT a1 := ⟨_, rfl⟩
        have g1 : D1.size = S3.size + 1 := by rw [hD1, ByteArray.size_append]; rfl
        have y1 : S3.size + (⟨[32]⟩ : Array UInt8).size ≤ 9223372036854775807 := by rw [asz]; omega
        have f1 : S3 ++ (⟨⟨[32]⟩⟩ : ByteArray) = D1 := hD1.symm
        have y2 : D1.size + (decT a1).size ≤ 9223372036854775807 := by omega
        by_cases g : (a1 : Int) ∈ metL L
        · rw [if_pos g] at hsn
          simp only [t7, t8, t10, t11, el.1, el.2, ch, g, hw, zeros, fillAt, go_sem]
          exact ⟨hi1, by rw [hsn]⟩
        · rw [if_neg g] at hsn
          have hsn' : alT (metL L) S2 (P.take (i + 1)) = D2 := by
            rw [hsn, hD2, hD1]
            unfold sdT
            rw [ByteArray.append_assoc]
          simp only [t7, t8, t10, t11, el.1, el.2, ch, g, d1, y1, f1, y2, ← hD2, hw, zeros, fillAt, go_sem]
          exact ⟨hi1, by rw [hsn']⟩
      · have hin : i = P.length := by omega
        subst hin
        rw [List.take_length] at t7
        simp only [t7, go_sem]
        exact finish_flat rfl ((p1.trans hp).trans p5)
  · have hk := rnd_not k
    rw [hk.1] at k1
    have hno : ¬ (roundC m r).ok = true := by rw [hk.1]; simp
    rw [if_neg hno]
    simp only [k1, p1, zeros, fillAt, go_sem]
    exact finish_flat rfl p1
end
end Go.Proofs.YtgmljppiiighmaaGreatDoor.Ab
set_option linter.unusedSimpArgs false
set_option linter.unusedVariables false
set_option linter.unnecessarySimpa false
set_option maxHeartbeats 4000000
namespace Go.Proofs.YtgmljppiiighmaaGreatDoor.Ab
open Go.RowKit
section
variable {h : Heap} {v : Value}
/-- A list of edges. -/
theorem Shape.edges_inv (s : Shape h (.sl [.int .i64, .int .i64, .int .i64, .int .i64, .int .i64]) v) : ∃ l : List E, Rows h 5 v (edges l) ∧ l.length ≤ maxLen ∧ ∀ e ∈ l, I64 e.a ∧ I64 e.b ∧ I64 e.w1 ∧ I64 e.w2 ∧ I64 e.w3 := by
  obtain ⟨rows, hr, hm, hk⟩ := s.sl_inv
  obtain ⟨l, rfl, hl⟩ := rows_map (f := edgeR) (Q := fun e => I64 e.a ∧ I64 e.b ∧ I64 e.w1 ∧ I64 e.w2 ∧ I64 e.w3) (rows := rows) (fun r hrm => by
    obtain ⟨x, r', rfl, hx, h2⟩ := (hk r hrm).cons_inv
    obtain ⟨y, r', rfl, hy, h2⟩ := h2.cons_inv
    obtain ⟨z, r', rfl, hz, h2⟩ := h2.cons_inv
    obtain ⟨u, r', rfl, hu, h2⟩ := h2.cons_inv
    obtain ⟨w, r', rfl, hw, h2⟩ := h2.cons_inv
    obtain rfl := h2.nil_inv
    obtain ⟨a, rfl, ha⟩ := hx.int_inv
    obtain ⟨b, rfl, hb⟩ := hy.int_inv
    obtain ⟨c, rfl, hc⟩ := hz.int_inv
    obtain ⟨d, rfl, hd⟩ := hu.int_inv
    obtain ⟨e, rfl, he⟩ := hw.int_inv
    exact ⟨⟨a, b, c, d, e⟩, rfl, ha, hb, hc, hd, he⟩)
  exact ⟨l, hr, by simpa using hm, hl⟩
theorem Shape.pairs_inv (s : Shape h (.sl [.str, .str]) v) : ∃ l : List Pr, Rows h 2 v (prsL l) ∧ l.length ≤ maxLen ∧ ∀ e ∈ l, e.k.size ≤ maxLen ∧ e.v.size ≤ maxLen := by
  obtain ⟨rows, hr, hm, hk⟩ := s.sl_inv
  obtain ⟨l, rfl, hl⟩ := rows_map (f := prR) (Q := fun e => e.k.size ≤ maxLen ∧ e.v.size ≤ maxLen) (rows := rows) (fun r hrm => by
    obtain ⟨x, r', rfl, hx, h2⟩ := (hk r hrm).cons_inv
    obtain ⟨y, r', rfl, hy, h2⟩ := h2.cons_inv
    obtain rfl := h2.nil_inv
    obtain ⟨a, rfl, ha⟩ := hx.str_inv
    obtain ⟨b, rfl, hb⟩ := hy.str_inv
    exact ⟨⟨a, b⟩, rfl, ha, hb⟩)
  exact ⟨l, hr, by simpa using hm, hl⟩
theorem ArgOk.graph (a : ArgOk h (true, [.int .i64, .sl [.int .i64, .int .i64, .int .i64, .int .i64, .int .i64]]) v) : ∃ size ev es, v = graphV size ev ∧ I64 size ∧ Rows h 5 ev (edges es) ∧ es.length ≤ maxLen := by
  obtain ⟨acs, k, rfl⟩ := a.row
  obtain ⟨v0, r, rfl, k0, k⟩ := k.cons_inv
  obtain ⟨v1, r, rfl, k1, k⟩ := k.cons_inv
  obtain rfl := k.nil_inv
  obtain ⟨n, rfl, hn⟩ := k0.int_inv
  obtain ⟨es, he, hm, _⟩ := k1.edges_inv
  exact ⟨n, v1, es, rfl, hn, he, hm⟩
def AqOk (x : Aq) : Prop := I64 x.op ∧ I64 x.a ∧ I64 x.b ∧ I64 x.w1 ∧ I64 x.w2 ∧ I64 x.w3
theorem ArgOk.ask (a : ArgOk h (true, [.int .i64, .int .i64, .int .i64, .int .i64, .int .i64, .int .i64]) v) : ∃ x : Aq, v = .agg ⟨aqR x⟩ ∧ AqOk x := by
  obtain ⟨acs, k, rfl⟩ := a.row
  obtain ⟨v0, r, rfl, k0, k⟩ := k.cons_inv
  obtain ⟨v1, r, rfl, k1, k⟩ := k.cons_inv
  obtain ⟨v2, r, rfl, k2, k⟩ := k.cons_inv
  obtain ⟨v3, r, rfl, k3, k⟩ := k.cons_inv
  obtain ⟨v4, r, rfl, k4, k⟩ := k.cons_inv
  obtain ⟨v5, r, rfl, k5, k⟩ := k.cons_inv
  obtain rfl := k.nil_inv
  obtain ⟨n0, rfl, h0⟩ := k0.int_inv
  obtain ⟨n1, rfl, h1⟩ := k1.int_inv
  obtain ⟨n2, rfl, h2⟩ := k2.int_inv
  obtain ⟨n3, rfl, h3⟩ := k3.int_inv
  obtain ⟨n4, rfl, h4⟩ := k4.int_inv
  obtain ⟨n5, rfl, h5⟩ := k5.int_inv
  exact ⟨⟨n0, n1, n2, n3, n4, n5⟩, rfl, h0, h1, h2, h3, h4, h5⟩
end
end Go.Proofs.YtgmljppiiighmaaGreatDoor.Ab
set_option linter.unusedSimpArgs false
set_option linter.unusedVariables false
set_option linter.unnecessarySimpa false
set_option maxHeartbeats 4000000
namespace Go.Proofs.YtgmljppiiighmaaGreatDoor.Ab
open Go.RowKit
section
variable {X : CallF} [LibX X] {h : Heap} {mv0 : Value} {ml0 : List Pr} {x1 : Int}
open Classical in
theorem l_ShowRound (hm0 : Rows h 2 mv0 (prsL ml0)) (hx0 : PrMax ml0) (hx1 : I64 x1) : C T X n_laws_FnExactShowRound [mv0, .int .i64 x1] h = some (.bool true, h) := by
  refine C_go t_laws_FnExactShowRound rfl ?_
  unfold F_laws_FnExactShowRound
  obtain ⟨n0, zc0, zb0, zd0⟩ := z_szPairS (X := X) hm0 hx0 (n := 1048576) (by omega) (by omega)
  by_cases hn0 : n0 < 0
  · simp only [zc0, hn0, go_sem]
  have bm0 : PrBnd ml0 := zd0 (by omega)
  have q0 : h <+: h := List.prefix_refl h
  obtain ⟨v1, h1, c1, p1, o1⟩ := x_toPairS (X := X) (hm0.up q0) (by have := bm0.1; unfold lim; omega)
  have q1 := q0.trans p1
  have l1 := pre_len p1
  have c3 := k_spec_ShowRound (X := X) (r := x1) o1.rows (by have := bm0.1; omega)
  obtain ⟨v4, h4, c4, p4, o4⟩ := x_toPairS (X := X) (hm0.up q1) (by have := bm0.1; unfold lim; omega)
  have q4 := q1.trans p4
  have l4 := pre_len p4
  have c6 := k_impl_ShowRound (X := X) (r := x1) o4.rows (by have := bm0.1; unfold lim; omega)
  obtain ⟨v7, h7, c7, p7, o7⟩ := x_toPairS (X := X) (hm0.up q4) (by have := bm0.1; unfold lim; omega)
  have o4_7 := o4.up p7
  have q7 := q4.trans p7
  have l7 := pre_len p7
  have c8 := k_eqPairS (X := X) o4_7.rows o7.rows (by have := bm0.1; unfold lim; omega)
  simp only [zc0, hn0, c1, c3, c4, c6, c7, c8, List.prefix_refl, BEq.rfl, p1, p4, p7, go_sem]
  try exact finish_flat rfl q7
end
def ps_FnExactShowRound : List (Bool × List CK) := [(false, [.sl [.str, .str]]), (false, [.int .i64])]
theorem law_FnExactShowRound (h : Heap) (avs : List Value) (ha : All2 (ArgOk h) ps_FnExactShowRound avs) : C T libX n_laws_FnExactShowRound avs h = some (.bool true, h) := by
  obtain ⟨v0, r, rfl, k0, ha⟩ := ha.cons_inv
  obtain ⟨v1, r, rfl, k1, ha⟩ := ha.cons_inv
  obtain rfl := ha.nil_inv
  obtain ⟨ml0, hm0, hx0a, hx0b⟩ := k0.cell.pairs_inv
  have hx0 : PrMax ml0 := ⟨hx0a, hx0b⟩
  obtain ⟨x1, rfl, hx1⟩ := k1.cell.int_inv
  exact l_ShowRound hm0 hx0 hx1
end Go.Proofs.YtgmljppiiighmaaGreatDoor.Ab
