/- The law FnExactReadCert, of arguments as they are shown. No conditions. -/
import Derived.Test.YtioogligololoaaH9
import Derived.Test.YtioogligololoaaK33
import Derived.Test.YtioogligololoaaK34
import Derived.Test.YtioogligololoaaOp3
set_option linter.unusedSimpArgs false
set_option linter.unusedVariables false
set_option linter.unnecessarySimpa false
set_option maxHeartbeats 4000000
namespace Go.Proofs.Ytioogligololoaa.Ab
open Go.RowKit
section
variable {X : CallF} {h : Heap} {s : ByteArray}

theorem totG_bnd : ∀ {gs : List Gp}, (∀ g ∈ gs, g.ms.length < 100) → totG gs ≤ 101 * gs.length
  | [], _ => Nat.le_refl _
  | g :: gs, h => by
    have h1 := h g List.mem_cons_self
    have ih := totG_bnd (gs := gs) fun x q => h x (List.mem_cons_of_mem _ q)
    unfold totG
    rw [List.length_cons]
    omega
theorem rdI_bnd (s : ByteArray) : CertBnd (rdI s).es (rdI s).m (rdI s).ys (rdI s).gs := by
  unfold rdI
  by_cases ok : CokI s
  · rw [if_pos ok]
    obtain ⟨k1, k2, k3, k4, k5, k6⟩ := cert_lens ok.2.2
    have := totG_bnd k6
    simp only
    exact ⟨by omega, by omega, ⟨by omega, by omega, fun g hg => by have := k6 g hg; omega⟩, by omega⟩
  · rw [if_neg ok]
    exact ⟨Nat.zero_le _, Nat.zero_le _, ⟨Nat.zero_le _, Nat.zero_le _, fun g hg => absurd hg List.not_mem_nil⟩, Nat.zero_le _⟩

open Classical in
theorem l_ReadCert : C T X n_laws_FnExactReadCert [.string s] h = some (.bool true, h) := by
  refine C_go t_laws_FnExactReadCert rfl ?_
  unfold F_laws_FnExactReadCert
  by_cases hz : (s.size : Int) > 1048576
  · simp only [hz, go_sem, reduceIte, Nat.reduceEqDiff, Nat.reduceAdd, Nat.reduceMul, Nat.reduceLT, Nat.reduceLeDiff, reduceCtorEq, ne_eq, Int.reduceEq, Int.reduceLT, Int.reduceLE, Int.reduceNeg, Int.reduceToNat]
  have hs : s.size ≤ 1048576 := by omega
  obtain ⟨v1, h1, c1, p1, e1, m1, y1, g1, rfl, oe1, om1, oy1, og1⟩ := k_spec_ReadCert (X := X) (h := h) hs
  rw [rd_same] at c1 oe1 om1 oy1 og1
  obtain ⟨v2, h2, c2, p2, e2, m2, y2, g2, rfl, i1, i2, i3, i4, hi, oe2, om2, oy2, og2⟩ := k_impl_ReadCert (X := X) (h := h1) hs
  obtain ⟨B1, B2, B3, B4⟩ := rdI_bnd s
  have q2 := p1.trans p2
  have c3 := k_eqCert (X := X) (size := (rdI s).size) oe2.rows (oe1.up p2).rows om2.rows (om1.up p2).rows oy2.rows (oy1.up p2).rows og2.rows (og1.up p2).rows B1 B2 B3
  obtain ⟨h4, c4, s4, k4⟩ := k_markCert (X := X) (size := (rdI s).size) oe2 om2 oy2 og2 ⟨hi.2.1, hi.2.2.1, hi.2.2.2.1, hi.2.2.2.2⟩ ⟨B1, B2, B3, B4⟩
  have c5 := k_heldCert (X := X) (size := (rdI s).size) k4 ⟨B1, B2, B3, B4⟩
  obtain ⟨v6, h6, c6, p6, e6, m6, y6, g6, rfl, j1, j2, j3, j4, hj, oe6, om6, oy6, og6⟩ := k_impl_ReadCert (X := X) (h := h4) hs
  -- what the reference told was not touched by the marks
  have w1 : h1.length ≤ i1 := hi.1
  have oe4 := ((oe1.up p2).same s4 (.inl w1)).up p6
  have om4 := ((om1.up p2).same s4 (.inl w1)).up p6
  have oy4 := ((oy1.up p2).same s4 (.inl w1)).up p6
  have og4 := ((og1.up p2).same s4 (.inl w1)).up p6
  have c7 := k_eqCert (X := X) (size := (rdI s).size) oe6.rows oe4.rows om6.rows om4.rows oy6.rows oy4.rows og6.rows og4.rows B1 B2 B3
  have c8 := k_heldCert (X := X) (size := (rdI s).size) (k4.up p6) ⟨B1, B2, B3, B4⟩
  have hp4 : h <+: h4 := s4.pre q2 (by have := pre_len p1; omega)
  have hp6 := hp4.trans p6
  obtain ⟨K, hK⟩ : ∃ K : Nat, K = 1 + certM (rdI s).es (rdI s).m (rdI s).ys (rdI s).gs := ⟨_, rfl⟩
  rw [← hK] at c4 c5 c8
  have hneg : ¬ ((K : Nat) : Int) < 0 := by omega
  unfold certV at *
  simp only [hz, c1, c2, c3, c4, c5, c6, c7, c8, hneg, go_sem, reduceIte, Nat.reduceEqDiff, Nat.reduceAdd, Nat.reduceMul, Nat.reduceLT, Nat.reduceLeDiff, reduceCtorEq, ne_eq, Int.reduceEq, Int.reduceLT, Int.reduceLE, Int.reduceNeg, Int.reduceToNat]
  exact finish_flat rfl hp6
end

def ps_FnExactReadCert : List (Bool × List CK) := [(false, [.str])]
theorem law_FnExactReadCert (h : Heap) (avs : List Value) (ha : All2 (ArgOk h) ps_FnExactReadCert avs) : C T noX n_laws_FnExactReadCert avs h = some (.bool true, h) := by
  obtain ⟨v0, r, rfl, k0, ha⟩ := ha.cons_inv
  obtain rfl := ha.nil_inv
  obtain ⟨s, rfl, _⟩ := k0.cell.str_inv
  exact l_ReadCert
end Go.Proofs.Ytioogligololoaa.Ab
