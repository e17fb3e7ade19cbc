/- Contracts of the laws' helpers for certificates. No conditions. -/
import Derived.Test.YtioogligololoaaH6
import Derived.Test.YtioogligololoaaK32
set_option linter.unusedSimpArgs false
set_option linter.unusedVariables false
set_option linter.unnecessarySimpa false
set_option maxHeartbeats 4000000
namespace Go.Proofs.Ytioogligololoaa.Ab
open Go.RowKit
section
variable {X : CallF} {h : Heap} {ev ev' mv mv' yv yv' gv gv' : Value} {es : List E} {m : List Cp} {gs : List Gp} {ys : List Int} {n size : Int}

theorem z_szCert (he : Rows h 5 ev (edges es)) (hem : es.length ≤ maxLen) (hm : Rows h 2 mv (cps m)) (hmm : m.length ≤ maxLen) (hy : Rows h 1 yv (ints ys)) (hg : RowsG h gv gs) (hp : PfMax ys gs) (h0 : 0 ≤ n) (h1 : n ≤ 1048576) :
    ∃ k, C T X n_laws_szCert [certV size ev mv yv gv, .int .i64 n] h = some (.int .i64 k, h) ∧ k ≤ 1048576 ∧ (0 ≤ k → es.length ≤ 1048576 ∧ m.length ≤ 1048576 ∧ PfBnd ys gs) := by
  obtain ⟨n0, zc0, zb0, zd0⟩ := z_szGraph (X := X) (size := size) he hem (n := n) h0 h1
  by_cases hn0 : n0 < 0
  · refine ⟨-1, C_go t_laws_szCert rfl ?_, by omega, fun h => by omega⟩
    unfold F_laws_szCert certV
    unfold graphV at zc0
    simp only [zc0, hn0, go_sem, reduceIte, Nat.reduceEqDiff, Nat.reduceAdd, Nat.reduceMul, Nat.reduceLT, Nat.reduceLeDiff, reduceCtorEq, ne_eq, Int.reduceEq, Int.reduceLT, Int.reduceLE, Int.reduceNeg, Int.reduceToNat]
  obtain ⟨n1, zc1, zb1, zd1⟩ := z_szCoupleS (X := X) hm hmm (n := n0) (by omega) (by omega)
  by_cases hn1 : n1 < 0
  · refine ⟨-1, C_go t_laws_szCert rfl ?_, by omega, fun h => by omega⟩
    unfold F_laws_szCert certV
    unfold graphV at zc0
    simp only [zc0, hn0, zc1, hn1, go_sem, reduceIte, Nat.reduceEqDiff, Nat.reduceAdd, Nat.reduceMul, Nat.reduceLT, Nat.reduceLeDiff, reduceCtorEq, ne_eq, Int.reduceEq, Int.reduceLT, Int.reduceLE, Int.reduceNeg, Int.reduceToNat]
  obtain ⟨n2, zc2, zb2, zd2⟩ := z_szProof (X := X) hy hg hp (n := n1) (by omega) (by omega)
  by_cases hn2 : n2 < 0
  · refine ⟨-1, C_go t_laws_szCert rfl ?_, by omega, fun h => by omega⟩
    unfold F_laws_szCert certV
    unfold graphV at zc0
    unfold proofV at zc2
    simp only [zc0, hn0, zc1, hn1, zc2, hn2, go_sem, reduceIte, Nat.reduceEqDiff, Nat.reduceAdd, Nat.reduceMul, Nat.reduceLT, Nat.reduceLeDiff, reduceCtorEq, ne_eq, Int.reduceEq, Int.reduceLT, Int.reduceLE, Int.reduceNeg, Int.reduceToNat]
  refine ⟨n2, C_go t_laws_szCert rfl ?_, by omega, fun h => ⟨zd0 (by omega), zd1 (by omega), zd2 (by omega)⟩⟩
  unfold F_laws_szCert certV
  unfold graphV at zc0
  unfold proofV at zc2
  simp only [zc0, hn0, zc1, hn1, zc2, hn2, go_sem, reduceIte, Nat.reduceEqDiff, Nat.reduceAdd, Nat.reduceMul, Nat.reduceLT, Nat.reduceLeDiff, reduceCtorEq, ne_eq, Int.reduceEq, Int.reduceLT, Int.reduceLE, Int.reduceNeg, Int.reduceToNat]

theorem OwnG.cells {lo hi : Nat} {ty : TypeId} (o : OwnG h lo hi ty gv gs) : cellsOf gv = some [gv] := by obtain ⟨vs, o, _⟩ := o; exact o.cells

theorem x_toCert (he : Rows h 5 ev (edges es)) (hel : es.length ≤ 1048576) (hm : Rows h 2 mv (cps m)) (hml : m.length ≤ 1048576) (hy : Rows h 1 yv (ints ys)) (hg : RowsG h gv gs) (hb : PfBnd ys gs) :
    ∃ ew mw yw gw hh, C T X n_laws_toCert [certV size ev mv yv gv] h = some (certV size ew mw yw gw, hh) ∧ h <+: hh ∧ Own hh h.length hh.length 5 y_Edge ew (edges es) ∧ Own hh h.length hh.length 2 y_Couple mw (cps m) ∧ Own hh h.length hh.length 1 y_int yw (ints ys) ∧ OwnG hh h.length hh.length y_Group gw gs := by
  have c1 := k_toGraph (X := X) (size := size) he (by unfold lim; omega)
  obtain ⟨h1, hh1⟩ : ∃ h1 : Heap, h1 = h ++ [⟨(edges es).flatten, 5, y_Edge, true⟩] := ⟨_, rfl⟩
  have p1 : h <+: h1 := by rw [hh1]; exact List.prefix_append _ _
  have o1 : Own h1 h.length h1.length 5 y_Edge (.slice (some ⟨h.length, 0, none⟩) es.length es.length) (edges es) := by
    rw [hh1]
    have := Own.all (h := h) (ty := y_Edge) (map_row (l := es) edgeR_len); rw [List.length_map] at this; exact this
  rw [← hh1] at c1
  obtain ⟨mw, h2, c2, p2, o2⟩ := x_toCoupleS (X := X) (hm.up p1) (by unfold lim; omega)
  obtain ⟨yw, gw, h3, c3, p3, o3, o4⟩ := x_toProof (X := X) (hy.up (p1.trans p2)) (hg.up (p1.trans p2)) hb
  have l1 := pre_len p1
  have l2 := pre_len p2
  have l3 := pre_len p3
  refine ⟨_, mw, yw, gw, h3, C_go t_laws_toCert rfl ?_, p1.trans (p2.trans p3), (o1.up (p2.trans p3)).wide (Nat.le_refl _) (by omega), (o2.up p3).wide l1 l3, o3.wide (by omega) (Nat.le_refl _), o4.wide (by omega) (Nat.le_refl _)⟩
  unfold F_laws_toCert certV
  unfold graphV at c1
  unfold proofV at c3
  simp only [c1, c2, c3, o2.cells, o3.cells, o4.cells, go_sem, reduceIte, Nat.reduceEqDiff, Nat.reduceAdd, Nat.reduceMul, Nat.reduceLT, Nat.reduceLeDiff, reduceCtorEq, ne_eq, Int.reduceEq, Int.reduceLT, Int.reduceLE, Int.reduceNeg, Int.reduceToNat]
  exact finish_deep (by simp [flat, prim])

theorem k_eqCert (ha : Rows h 5 ev (edges es)) (hb : Rows h 5 ev' (edges es)) (hm : Rows h 2 mv (cps m)) (hm' : Rows h 2 mv' (cps m)) (hy : Rows h 1 yv (ints ys)) (hy' : Rows h 1 yv' (ints ys)) (hg : RowsG h gv gs) (hg' : RowsG h gv' gs) (hel : es.length ≤ 1048576) (hml : m.length ≤ 1048576) (hp : PfBnd ys gs) :
    C T X n_laws_eqCert [certV size ev mv yv gv, certV size ev' mv' yv' gv'] h = some (.bool true, h) := by
  have c1 := k_eqGraph (X := X) (size := size) ha hb (by unfold lim; omega)
  have c2 := k_eqCoupleS (X := X) hm hm' (by unfold lim; omega)
  have c3 := k_eqProof (X := X) hy hy' hg hg' hp
  refine C_go t_laws_eqCert rfl ?_
  unfold F_laws_eqCert certV
  unfold graphV at c1
  unfold proofV at c3
  simp only [c1, c2, c3, go_sem, reduceIte, Nat.reduceEqDiff, Nat.reduceAdd, Nat.reduceMul, Nat.reduceLT, Nat.reduceLeDiff, reduceCtorEq, ne_eq, Int.reduceEq, Int.reduceLT, Int.reduceLE, Int.reduceNeg, Int.reduceToNat]
end
end Go.Proofs.Ytioogligololoaa.Ab
