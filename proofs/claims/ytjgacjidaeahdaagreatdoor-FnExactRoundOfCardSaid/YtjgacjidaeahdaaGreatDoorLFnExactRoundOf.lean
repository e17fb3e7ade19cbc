/- The law FnExactRoundOf, of arguments as they are shown. No conditions. -/
import Derived.Test.YtjgacjidaeahdaaGreatDoorM15
import Derived.Test.YtjgacjidaeahdaaGreatDoorM17
import Derived.Test.YtjgacjidaeahdaaGreatDoorM20
set_option linter.unusedSimpArgs false
set_option linter.unusedVariables false
set_option linter.unnecessarySimpa false
set_option maxHeartbeats 4000000
namespace Go.Proofs.YtjgacjidaeahdaaGreatDoor.Ab
open Go.RowKit
theorem totG_bnd : ∀ {gs : List Gp}, (∀ g ∈ gs, g.ms.length < 100) → totG gs ≤ 101 * gs.length
  | [], _ => Nat.le_refl _
  | g :: gs, h => by
    have h1 := h g List.mem_cons_self
    have ih := totG_bnd (gs := gs) fun x q => h x (List.mem_cons_of_mem _ q)
    unfold totG
    rw [List.length_cons]
    omega
theorem rnd_bnd {m : List Pr} {r : Int} : CertBnd (roundC m r).es (roundC m r).m (roundC m r).ys (roundC m r).gs ∧ certM (roundC m r).es (roundC m r).m (roundC m r).ys (roundC m r).gs ≤ 1000000 := by
  by_cases k : RIn m r
  · obtain ⟨k1, k2, k3, k4, k5, k6⟩ := cert_lens (rnd_facts k).2.1
    have := totG_bnd k6
    refine ⟨⟨by omega, by omega, ⟨by omega, by omega, fun g hg => by have := k6 g hg; omega⟩, by omega⟩, ?_⟩
    unfold certM
    omega
  · rw [(rnd_not k).1]
    exact ⟨⟨Nat.zero_le _, Nat.zero_le _, ⟨Nat.zero_le _, Nat.zero_le _, fun g hg => absurd hg List.not_mem_nil⟩, Nat.zero_le _⟩, Nat.zero_le _⟩
section
variable {X : CallF} [LibX X] {h : Heap} {mv0 : Value} {ml0 : List Pr} {x1 : Int}
open Classical in
theorem l_RoundOf (hm0 : Rows h 2 mv0 (prsL ml0)) (hx0 : PrMax ml0) : C T X n_laws_FnExactRoundOf [mv0, .int .i64 x1] h = some (.bool true, h) := by
  refine C_go t_laws_FnExactRoundOf rfl ?_
  unfold F_laws_FnExactRoundOf
  obtain ⟨n0, zc0, zb0, zd0⟩ := z_szPairS (X := X) hm0 hx0 (n := 1048576) (by omega) (by omega)
  by_cases hn0 : n0 < 0
  · simp only [zc0, hn0, go_sem]
  have bm0 : PrBnd ml0 := zd0 (by omega)
  have bl : ml0.length ≤ lim := by have := bm0.1; unfold lim; omega
  obtain ⟨P, hPe⟩ : ∃ P, P = roundP ml0 x1 := ⟨_, rfl⟩
  obtain ⟨c, hce⟩ : ∃ c, c = roundC ml0 x1 := ⟨_, rfl⟩
  have hP9 : P.length ≤ 9 := by rw [hPe]; exact rnd_plen
  have hP : P.length ≤ lim := by unfold lim; omega
  have hB : CertBnd c.es c.m c.ys c.gs ∧ certM c.es c.m c.ys c.gs ≤ 1000000 := by rw [hce]; exact rnd_bnd
  obtain ⟨⟨B1, B2, B3, B4⟩, hM⟩ := hB
  have q0 : h <+: h := List.prefix_refl h
  obtain ⟨v1, h1, c1, p1, o1⟩ := x_toPairS (X := X) (hm0.up q0) bl
  have q1 := q0.trans p1
  have l1 := pre_len p1
  obtain ⟨w3, h3, c3, p3, r3⟩ := k_spec_RoundOf (X := X) (r := x1) o1.rows bm0.1
  rw [← hPe, ← hce] at r3
  obtain ⟨pw, ew, mw, yw, gw, rfl, w1, w2, w3, w4, w5⟩ := r3
  have q3 := q1.trans p3
  have l3 := pre_len p3
  obtain ⟨v4, h4, c4, p4, o4⟩ := x_toPairS (X := X) (hm0.up q3) bl
  have q4 := q3.trans p4
  have l4 := pre_len p4
  obtain ⟨w6, h6, c6, p6, r6⟩ := k_impl_RoundOf (X := X) (r := x1) o4.rows bl
  rw [← hPe, ← hce] at r6
  obtain ⟨pg, eg, mg, yg, gg, rfl, i0, i1, i2, i3, i4, hi, g1, g2, g3, g4, g5⟩ := r6
  have q6 := q4.trans p6
  have l6 := pre_len p6
  have w1 := (w1.up p4).up p6
  have w2 := (w2.up p4).up p6
  have w3 := (w3.up p4).up p6
  have w4 := (w4.up p4).up p6
  have w5 := (w5.up p4).up p6
  have o4 := o4.up p6
  have e1 := k_eqIntS (X := X) g1.rows w1.rows hP
  have e2 := k_eqCert (X := X) (size := c.size) g2.rows w2.rows g3.rows w3.rows g4.rows w4.rows g5.rows w5.rows B1 B2 B3
  obtain ⟨v8, h8, c8, p8, o8⟩ := x_toPairS (X := X) (hm0.up q6) bl
  have w1 := w1.up p8
  have w2 := w2.up p8
  have w3 := w3.up p8
  have w4 := w4.up p8
  have w5 := w5.up p8
  have o4 := o4.up p8
  have g1 := g1.up p8
  have g2 := g2.up p8
  have g3 := g3.up p8
  have g4 := g4.up p8
  have g5 := g5.up p8
  have q8 := q6.trans p8
  have l8 := pre_len p8
  have c9 := k_eqPairS (X := X) o4.rows o8.rows bl
  obtain ⟨h10, c10, s10⟩ := m_markPairS (X := X) o4 bl (k := 1) (by have := bm0.1; omega)
  have l10 := s10.len
  have w1 := w1.same s10 (by omega)
  have w2 := w2.same s10 (by omega)
  have w3 := w3.same s10 (by omega)
  have w4 := w4.same s10 (by omega)
  have w5 := w5.same s10 (by omega)
  have g1 := g1.same s10 (by omega)
  have g2 := g2.same s10 (by omega)
  have g3 := g3.same s10 (by omega)
  have g4 := g4.same s10 (by omega)
  have g5 := g5.same s10 (by omega)
  have q10 := s10.pre q8 (by omega)
  have km : ¬ ((((1 + ml0.length * 2) : Nat) : Int) < 0) := by omega
  have e3 := k_eqIntS (X := X) g1.rows w1.rows hP
  have e4 := k_eqCert (X := X) (size := c.size) g2.rows w2.rows g3.rows w3.rows g4.rows w4.rows g5.rows w5.rows B1 B2 B3
  obtain ⟨h12, c12, s12, a12⟩ := k_markIntS (X := X) g1 (by rw [ints_len]; exact hP) (k := 1) (by omega)
  rw [ints_len] at c12 a12
  have l12 := s12.len
  have w1 := w1.same s12 (by omega)
  have w2 := w2.same s12 (by omega)
  have w3 := w3.same s12 (by omega)
  have w4 := w4.same s12 (by omega)
  have w5 := w5.same s12 (by omega)
  have g2 := g2.same s12 (by omega)
  have g3 := g3.same s12 (by omega)
  have g4 := g4.same s12 (by omega)
  have g5 := g5.same s12 (by omega)
  have q12 := s12.pre q10 (by omega)
  obtain ⟨K, hK⟩ : ∃ K, K = 1 + P.length * 1 := ⟨_, rfl⟩
  rw [← hK] at c12
  have hKb : K ≤ 10 := by omega
  obtain ⟨h13, c13, s13, k13⟩ := k_markCertK (X := X) (size := c.size) (k := K) g2 g3 g4 g5 ⟨hi.2.2.1, hi.2.2.2.1, hi.2.2.2.2.1, by omega⟩ ⟨B1, B2, B3, B4⟩ (by omega)
  have l13 := s13.len
  have w1 := w1.same s13 (by omega)
  have w2 := w2.same s13 (by omega)
  have w3 := w3.same s13 (by omega)
  have w4 := w4.same s13 (by omega)
  have w5 := w5.same s13 (by omega)
  have a12 := a12.same s13 (by omega)
  have q13 := s13.pre q12 (by omega)
  have d1 := k_heldIntS (X := X) (n := P.length) a12.rows hP (by omega)
  rw [← hK] at d1
  have d2 := k_heldCertK (X := X) (size := c.size) k13 ⟨B1, B2, B3, B4⟩ (by omega)
  obtain ⟨v14, h14, c14, p14, o14⟩ := x_toPairS (X := X) (hm0.up q13) bl
  have q14 := q13.trans p14
  obtain ⟨w16, h16, c16, p16, r16⟩ := k_impl_RoundOf (X := X) (r := x1) o14.rows bl
  rw [← hPe, ← hce] at r16
  obtain ⟨ph, eh, mh, yh, gh, rfl, b1, b2, b3, b4, b5⟩ := r16.weak
  have w1 := (w1.up p14).up p16
  have w2 := (w2.up p14).up p16
  have w3 := (w3.up p14).up p16
  have w4 := (w4.up p14).up p16
  have w5 := (w5.up p14).up p16
  have a12 := (a12.up p14).up p16
  have k13 := (k13.up p14).up p16
  have q16 := q14.trans p16
  have e5 := k_eqIntS (X := X) b1.rows w1.rows hP
  have e6 := k_eqCert (X := X) (size := c.size) b2.rows w2.rows b3.rows w3.rows b4.rows w4.rows b5.rows w5.rows B1 B2 B3
  have d3 := k_heldIntS (X := X) (n := P.length) a12.rows hP (by omega)
  rw [← hK] at d3
  have d4 := k_heldCertK (X := X) (size := c.size) k13 ⟨B1, B2, B3, B4⟩ (by omega)
  have one : ((1 : Nat) : Int) = 1 := rfl
  rw [one] at c10 c12 d1 d3
  have kK : ¬ ((K : Nat) : Int) < 0 := by omega
  obtain ⟨Z, hZ⟩ : ∃ Z, Z = K + certM c.es c.m c.ys c.gs := ⟨_, rfl⟩
  rw [← hZ] at c13 d2 d4
  have kM : ¬ ((Z : Nat) : Int) < 0 := by omega
  unfold certV at *
  simp only [zc0, hn0, c1, c3, c4, c6, e1, e2, c8, c9, c10, km, e3, e4, c12, c13, d1, d2, kK, kM, c14, c16, e5, e6, d3, d4, List.prefix_refl, BEq.rfl, p1, p3, p4, p6, p8, p14, p16, go_sem]
  try exact finish_flat rfl q16
end
def ps_FnExactRoundOf : List (Bool × List CK) := [(false, [.sl [.str, .str]]), (false, [.int .i64])]
theorem law_FnExactRoundOf (h : Heap) (avs : List Value) (ha : All2 (ArgOk h) ps_FnExactRoundOf avs) : C T libX n_laws_FnExactRoundOf avs h = some (.bool true, h) := by
  obtain ⟨v0, r, rfl, k0, ha⟩ := ha.cons_inv
  obtain ⟨v1, r, rfl, k1, ha⟩ := ha.cons_inv
  obtain rfl := ha.nil_inv
  obtain ⟨ml0, hm0, hx0a, hx0b⟩ := k0.cell.pairs_inv
  have hx0 : PrMax ml0 := ⟨hx0a, hx0b⟩
  obtain ⟨x1, rfl, hx1⟩ := k1.cell.int_inv
  exact l_RoundOf hm0 hx0
end Go.Proofs.YtjgacjidaeahdaaGreatDoor.Ab
