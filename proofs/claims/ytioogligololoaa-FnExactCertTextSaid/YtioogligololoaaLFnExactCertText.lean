/- The law FnExactCertText, of arguments as they are shown. No conditions. -/
import Derived.Test.YtioogligololoaaH8
import Derived.Test.YtioogligololoaaOp3
import Derived.Test.YtioogligololoaaOp4
set_option linter.unusedSimpArgs false
set_option linter.unusedVariables false
set_option linter.unnecessarySimpa false
set_option maxHeartbeats 4000000
namespace Go.Proofs.Ytioogligololoaa.Ab
open Go.RowKit
section
variable {X : CallF} {h : Heap} {ev mv yv gv : Value} {es : List E} {m : List Cp} {gs : List Gp} {ys : List Int} {size : Int}

theorem ArgOk.cert {v : Value} (a : ArgOk h (true, [.int .i64, .sl [.int .i64, .int .i64, .int .i64, .int .i64, .int .i64], .sl [.int .i64, .int .i64], .sl [.int .i64], .sl [.sl [.int .i64], .int .i64]]) v) :
    ∃ size ev mv yv gv es m ys gs, v = certV size ev mv yv gv ∧ Rows h 5 ev (edges es) ∧ es.length ≤ maxLen ∧ Rows h 2 mv (cps m) ∧ m.length ≤ maxLen ∧ Rows h 1 yv (ints ys) ∧ RowsG h gv gs ∧ PfMax ys gs := by
  obtain ⟨acs, k, rfl⟩ := a.row
  obtain ⟨v0, r, rfl, k0, k⟩ := k.cons_inv
  obtain ⟨v1, r, rfl, k1, k⟩ := k.cons_inv
  obtain ⟨v2, r, rfl, k2, k⟩ := k.cons_inv
  obtain ⟨v3, r, rfl, k3, k⟩ := k.cons_inv
  obtain ⟨v4, r, rfl, k4, k⟩ := k.cons_inv
  obtain rfl := k.nil_inv
  obtain ⟨z, rfl, _⟩ := k0.int_inv
  obtain ⟨es, e1, e2, _⟩ := k1.edges_inv
  obtain ⟨m, m1, m2, _⟩ := k2.couples_inv
  obtain ⟨ys, h1, h2, h3⟩ := k3.ints_inv
  obtain ⟨gs, h4, h5, h6⟩ := k4.groups_inv
  exact ⟨z, v1, v2, v3, v4, es, m, ys, gs, rfl, e1, e2, m1, m2, h1, h4, h2, h5, h6, h3⟩

open Classical in
theorem l_CertText (he : Rows h 5 ev (edges es)) (hem : es.length ≤ maxLen) (hm : Rows h 2 mv (cps m)) (hmm : m.length ≤ maxLen) (hy : Rows h 1 yv (ints ys)) (hg : RowsG h gv gs) (hp : PfMax ys gs) : C T X n_laws_FnExactCertText [certV size ev mv yv gv] h = some (.bool true, h) := by
  refine C_go t_laws_FnExactCertText rfl ?_
  unfold F_laws_FnExactCertText
  obtain ⟨n0, zc0, zb0, zd0⟩ := z_szCert (X := X) (size := size) he hem hm hmm hy hg hp (n := 1048576) (by omega) (by omega)
  by_cases hn0 : n0 < 0
  · unfold certV at *
    simp only [zc0, hn0, go_sem, reduceIte, Nat.reduceEqDiff, Nat.reduceAdd, Nat.reduceMul, Nat.reduceLT, Nat.reduceLeDiff, reduceCtorEq, ne_eq, Int.reduceEq, Int.reduceLT, Int.reduceLE, Int.reduceNeg, Int.reduceToNat]
  obtain ⟨b1, b2, b3⟩ := zd0 (by omega)
  have lm : es.length ≤ lim := by unfold lim; omega
  obtain ⟨e1, m1, y1, g1, h1, c1, p1, oe1, om1, oy1, og1⟩ := x_toCert (X := X) (size := size) he b1 hm b2 hy hg b3
  have c2 := k_spec_CertText (X := X) (size := size) oe1.rows om1.rows oy1.rows og1.rows lm b2 b3
  obtain ⟨e3, m3, y3, g3, h3, c3, p3, oe3, om3, oy3, og3⟩ := x_toCert (X := X) (size := size) (he.up p1) b1 (hm.up p1) b2 (hy.up p1) (hg.up p1) b3
  have c4 := k_impl_CertText (X := X) (size := size) oe3.rows om3.rows oy3.rows og3.rows lm b2 b3
  have q3 := p1.trans p3
  obtain ⟨e5, m5, y5, g5, h5, c5, p5, oe5, om5, oy5, og5⟩ := x_toCert (X := X) (size := size) (he.up q3) b1 (hm.up q3) b2 (hy.up q3) (hg.up q3) b3
  have c6 := k_eqCert (X := X) (size := size) (oe3.up p5).rows oe5.rows (om3.up p5).rows om5.rows (oy3.up p5).rows oy5.rows (og3.up p5).rows og5.rows b1 b2 b3
  unfold certV at *
  simp only [zc0, hn0, c1, c2, c3, c4, c5, c6, List.prefix_refl, BEq.rfl, p1, p3, p5, go_sem, reduceIte, Nat.reduceEqDiff, Nat.reduceAdd, Nat.reduceMul, Nat.reduceLT, Nat.reduceLeDiff, reduceCtorEq, ne_eq, Int.reduceEq, Int.reduceLT, Int.reduceLE, Int.reduceNeg, Int.reduceToNat]
  try exact finish_flat rfl (q3.trans p5)
end

def ps_FnExactCertText : List (Bool × List CK) := [(true, [.int .i64, .sl [.int .i64, .int .i64, .int .i64, .int .i64, .int .i64], .sl [.int .i64, .int .i64], .sl [.int .i64], .sl [.sl [.int .i64], .int .i64]])]
theorem law_FnExactCertText (h : Heap) (avs : List Value) (ha : All2 (ArgOk h) ps_FnExactCertText avs) : C T noX n_laws_FnExactCertText avs h = some (.bool true, h) := by
  obtain ⟨v0, r, rfl, k0, ha⟩ := ha.cons_inv
  obtain rfl := ha.nil_inv
  obtain ⟨size, ev, mv, yv, gv, es, m, ys, gs, rfl, h1, h2, h3, h4, h5, h6, h7⟩ := k0.cert
  exact l_CertText h1 h2 h3 h4 h5 h6 h7
end Go.Proofs.Ytioogligololoaa.Ab
