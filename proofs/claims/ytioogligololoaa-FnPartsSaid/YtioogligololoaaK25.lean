/- Contracts: what a proof certifies. No conditions. -/
import Derived.Test.YtioogligololoaaK24
import Derived.Test.YtioogligololoaaK17
set_option linter.unusedSimpArgs false
set_option linter.unusedVariables false
set_option linter.unnecessarySimpa false
set_option maxHeartbeats 4000000
namespace Go.Proofs.Ytioogligololoaa.Ab
open Go.RowKit
/-- What the couples of a pairing are worth. -/
def worthL (es : List E) (m : List Cp) : Int := m.foldl (fun s c => s + scalar (es.getD (edgeIx es c.a c.b).toNat e0).w1 (es.getD (edgeIx es c.a c.b).toNat e0).w2 (es.getD (edgeIx es c.a c.b).toNat e0).w3) 0
def scAt (es : List E) (c : Cp) : Int := scalar (es.getD (edgeIx es c.a c.b).toNat e0).w1 (es.getD (edgeIx es c.a c.b).toNat e0).w2 (es.getD (edgeIx es c.a c.b).toNat e0).w3
theorem worthL_take {es : List E} {m : List Cp} {i : Nat} (hi : i < m.length) : worthL es (m.take (i + 1)) = worthL es (m.take i) + scAt es (m.getD i c0) := by
  unfold worthL
  rw [take_getD (d := c0) hi, List.foldl_append]
  rfl
theorem ix_lt {es : List E} {a b : Int} (h : 0 ≤ edgeIx es a b) : ∃ k : Nat, edgeIx es a b = k ∧ k < es.length := by
  unfold edgeIx at *
  rcases firstIx_cases (p := Join a b) e0 es with ⟨h1, _⟩ | ⟨i, h1, h2, _⟩
  · omega
  · exact ⟨i, h1, h2⟩
theorem scAt_bnd {size : Int} {es : List E} {m : List Cp} (g : MOk size es m) {i : Nat} (hi : i < m.length) : 0 ≤ scAt es (m.getD i c0) ∧ scAt es (m.getD i c0) ≤ 5000000 := by
  obtain ⟨k, h1, h2⟩ := ix_lt (g.2 i hi).2.1
  have hE := gok_mem g.1 (getD_mem (d := e0) h2)
  unfold EOk at hE
  unfold scAt
  rw [h1]
  simp only [Int.toNat_natCast]
  unfold scalar
  omega
theorem worthL_bnd {size : Int} {es : List E} {m : List Cp} (g : MOk size es m) : ∀ i, i ≤ m.length → 0 ≤ worthL es (m.take i) ∧ worthL es (m.take i) ≤ 5000000 * i := by
  intro i
  induction i with
  | zero => intro _; simp [worthL]
  | succ i ih =>
    intro hi
    have h1 := ih (by omega)
    have h2 := scAt_bnd g (show i < m.length by omega)
    rw [worthL_take (by omega)]
    omega
def CertOk (size : Int) (es : List E) (m : List Cp) (ys : List Int) (gs : List Gp) : Prop := PfOk size es ys gs ∧ MOk size es m ∧ 2 * worthL es m = weightL ys gs
section
variable {X : CallF} {h : Heap} {v w ev yv gv mv : Value} {ys : List Int} {gs : List Gp} {es : List E} {m : List Cp} {size : Int}

theorem k_spec_l11Worth (he : Rows h 5 ev (edges es)) (hm : Rows h 2 mv (cps m)) (hl : es.length ≤ lim) (hml : m.length ≤ 1048576) (g : MOk size es m) : C T X n_spec_l11Worth [graphV size ev, mv] h = some (.int .i64 (worthL es m), h) := by
  have hgl := mok_len g
  have g11 := g.1.1
  have hwb := worthL_bnd g
  refine C_go t_spec_l11Worth rfl ?_
  unfold F_spec_l11Worth graphV
  simp only [go_sem, reduceIte, Nat.reduceEqDiff, Nat.reduceAdd, Nat.reduceMul, Nat.reduceLT, Nat.reduceLeDiff, reduceCtorEq, ne_eq, Int.reduceEq, Int.reduceLT, Int.reduceLE, Int.reduceNeg, Int.reduceToNat]
  refine w_for m.length (fun i t loc h' => h' = h ∧ t 1 = mv ∧ loc 2 = some [.int .i64 size, ev] ∧ t 5 = .int .i64 (worthL es (m.take i)) ∧ t 6 = .int .i64 i) ⟨rfl, rfl, rfl, rfl, rfl⟩ ?_
  rintro i t loc h' hi ⟨rfl, t1, l2, t5, t6⟩
  simp only [t1, t6, hm.lnm, go_sem, reduceIte, Nat.reduceEqDiff, Nat.reduceAdd, Nat.reduceMul, Nat.reduceLT, Nat.reduceLeDiff, reduceCtorEq, ne_eq, Int.reduceEq, Int.reduceLT, Int.reduceLE, Int.reduceNeg, Int.reduceToNat]
  refine w_open (by simp only [go_sem, reduceIte, Nat.reduceEqDiff, Nat.reduceAdd, Nat.reduceMul, Nat.reduceLT, Nat.reduceLeDiff, reduceCtorEq, ne_eq, Int.reduceEq, Int.reduceLT, Int.reduceLE, Int.reduceNeg, Int.reduceToNat]; rfl) ?_ ?_ <;> intro hc
  · have hi1 : i < m.length := by omega
    have hw : IntKind.i64.wrap ((i : Int) + 1) = ((i + 1 : Nat) : Int) := w64 (by omega) (by omega)
    have hel := cp_el hm hi1
    have cat := k_spec_l08At (X := X) (size := size) (x := (m.getD i c0).a) (y := (m.getD i c0).b) he hl
    obtain ⟨k, h1, h2⟩ := ix_lt (g.2 i hi1).2.1
    rw [h1] at cat
    have hek := edge_el he h2
    have hWk := eok_w (gok_mem g.1 (getD_mem (d := e0) h2))
    have csc := k_spec_Scalar (X := X) (h := h') hWk
    have hsc : scalar (es.getD k e0).w1 (es.getD k e0).w2 (es.getD k e0).w3 = scAt es (m.getD i c0) := by unfold scAt; rw [h1]; rfl
    rw [hsc] at csc
    have hst := worthL_take (es := es) hi1
    have b1 := hwb i (by omega)
    have b2 := scAt_bnd g hi1
    have hw2 : IntKind.i64.wrap (worthL es (m.take i) + scAt es (m.getD i c0)) = worthL es (m.take (i + 1)) := by rw [hst]; exact w64 (by omega) (by omega)
    unfold graphV at cat
    unfold edgeV edgeR at csc
    simp only [t1, l2, t5, t6, hel.1, hel.2.1, hel.2.2.2.1, hel.2.2.2.2, cat, hek.1, hek.2.2.1, csc, hw2, hw, List.prefix_refl, go_sem, reduceIte, Nat.reduceEqDiff, Nat.reduceAdd, Nat.reduceMul, Nat.reduceLT, Nat.reduceLeDiff, reduceCtorEq, ne_eq, Int.reduceEq, Int.reduceLT, Int.reduceLE, Int.reduceNeg, Int.reduceToNat]
    exact hi1
  · have hil : i = m.length := by omega
    subst hil
    rw [List.take_length] at t5
    simp only [t5, go_sem, reduceIte, Nat.reduceEqDiff, Nat.reduceAdd, Nat.reduceMul, Nat.reduceLT, Nat.reduceLeDiff, reduceCtorEq, ne_eq, Int.reduceEq, Int.reduceLT, Int.reduceLE, Int.reduceNeg, Int.reduceToNat]

open Classical in
theorem k_spec_Certifies (he : Rows h 5 ev (edges es)) (hm : Rows h 2 mv (cps m)) (hy : Rows h 1 yv (ints ys)) (hg : RowsG h gv gs) (hl : es.length ≤ lim) (hml : m.length ≤ 1048576) (hb : PfBnd ys gs) :
    C T X n_spec_Certifies [graphV size ev, mv, proofV yv gv] h = some (.bool (decide (CertOk size es m ys gs)), h) := by
  have k1 := k_spec_ProofOk (X := X) (size := size) he hy hg hl hb
  have k2 := k_spec_MatchOk (X := X) (size := size) he hm hl hml
  refine C_go t_spec_Certifies rfl ?_
  unfold F_spec_Certifies
  by_cases p : PfOk size es ys gs
  rotate_left
  · have hr : ¬ CertOk size es m ys gs := fun h => p h.1
    unfold graphV proofV at *
    simp only [k1, p, hr, List.prefix_refl, go_sem, reduceIte, Nat.reduceEqDiff, Nat.reduceAdd, Nat.reduceMul, Nat.reduceLT, Nat.reduceLeDiff, reduceCtorEq, ne_eq, Int.reduceEq, Int.reduceLT, Int.reduceLE, Int.reduceNeg, Int.reduceToNat]
  by_cases g : MOk size es m
  rotate_left
  · have hr : ¬ CertOk size es m ys gs := fun h => g h.2.1
    unfold graphV proofV at *
    simp only [k1, k2, p, g, hr, List.prefix_refl, go_sem, reduceIte, Nat.reduceEqDiff, Nat.reduceAdd, Nat.reduceMul, Nat.reduceLT, Nat.reduceLeDiff, reduceCtorEq, ne_eq, Int.reduceEq, Int.reduceLT, Int.reduceLE, Int.reduceNeg, Int.reduceToNat]
  have f := pfOk_fit p
  have hwb := weight_bnd f
  have cw := k_spec_l11Sum (X := X) hy hg f
  have c2 := k_spec_l11Worth (X := X) he hm hl hml g
  have b1 := worthL_bnd g m.length (Nat.le_refl _)
  rw [List.take_length] at b1
  have hgl := mok_len g
  have g11 := g.1.1
  have hw2 : IntKind.i64.wrap (2 * worthL es m) = 2 * worthL es m := w64 (by omega) (by omega)
  by_cases q : 2 * worthL es m = weightL ys gs
  · have hr : CertOk size es m ys gs := ⟨p, g, q⟩
    unfold graphV proofV at *
    simp only [k1, k2, p, g, cw, c2, hw2, decide_eq_true q, hr, List.prefix_refl, go_sem, reduceIte, Nat.reduceEqDiff, Nat.reduceAdd, Nat.reduceMul, Nat.reduceLT, Nat.reduceLeDiff, reduceCtorEq, ne_eq, Int.reduceEq, Int.reduceLT, Int.reduceLE, Int.reduceNeg, Int.reduceToNat]
  · have hr : ¬ CertOk size es m ys gs := fun h => q h.2.2
    unfold graphV proofV at *
    simp only [k1, k2, p, g, cw, c2, hw2, q, hr, List.prefix_refl, go_sem, reduceIte, Nat.reduceEqDiff, Nat.reduceAdd, Nat.reduceMul, Nat.reduceLT, Nat.reduceLeDiff, reduceCtorEq, ne_eq, Int.reduceEq, Int.reduceLT, Int.reduceLE, Int.reduceNeg, Int.reduceToNat]

open Classical in
theorem k_impl_Certifies (he : Rows h 5 ev (edges es)) (hm : Rows h 2 mv (cps m)) (hy : Rows h 1 yv (ints ys)) (hg : RowsG h gv gs) (hl : es.length ≤ lim) (hml : m.length ≤ 1048576) (hb : PfBnd ys gs) :
    C T X n_impl_Certifies [graphV size ev, mv, proofV yv gv] h = some (.bool (decide (CertOk size es m ys gs)), h) := by
  have k1 := k_impl_ProofOk (X := X) (size := size) he hy hg hl hb
  have k2 := k_impl_MatchOk (X := X) (size := size) he hm hl hml
  refine C_go t_impl_Certifies rfl ?_
  unfold F_impl_Certifies
  by_cases p : PfOk size es ys gs
  rotate_left
  · have hr : ¬ CertOk size es m ys gs := fun h => p h.1
    unfold graphV proofV at *
    simp only [k1, p, hr, List.prefix_refl, go_sem, reduceIte, Nat.reduceEqDiff, Nat.reduceAdd, Nat.reduceMul, Nat.reduceLT, Nat.reduceLeDiff, reduceCtorEq, ne_eq, Int.reduceEq, Int.reduceLT, Int.reduceLE, Int.reduceNeg, Int.reduceToNat]
  by_cases g : MOk size es m
  rotate_left
  · have hr : ¬ CertOk size es m ys gs := fun h => g h.2.1
    unfold graphV proofV at *
    simp only [k1, k2, p, g, hr, List.prefix_refl, go_sem, reduceIte, Nat.reduceEqDiff, Nat.reduceAdd, Nat.reduceMul, Nat.reduceLT, Nat.reduceLeDiff, reduceCtorEq, ne_eq, Int.reduceEq, Int.reduceLT, Int.reduceLE, Int.reduceNeg, Int.reduceToNat]
  have f := pfOk_fit p
  have hwt := weight_bnd f
  have cw := k_impl_weight (X := X) hy hg f fun i hi => (p.2.2.1 i hi).1.1.2.1
  have hwb := worthL_bnd g
  have hgl := mok_len g
  have g11 := g.1.1
  unfold graphV proofV at *
  simp only [k1, k2, p, g, hm.lnm, go_sem, reduceIte, Nat.reduceEqDiff, Nat.reduceAdd, Nat.reduceMul, Nat.reduceLT, Nat.reduceLeDiff, reduceCtorEq, ne_eq, Int.reduceEq, Int.reduceLT, Int.reduceLE, Int.reduceNeg, Int.reduceToNat]
  refine w_for m.length (fun i t loc h' => h' = h ∧ loc 3 = some [.int .i64 size, ev] ∧ loc 5 = some [yv, gv] ∧ t 7 = .int .i64 (worthL es (m.take i)) ∧ t 20 = mv ∧ t 21 = .int .i64 m.length ∧ t 22 = .int .i64 i) ⟨rfl, rfl, rfl, rfl, rfl, rfl, rfl⟩ ?_
  rintro i t loc h' hi ⟨rfl, l3, l5, t7, t20, t21, t22⟩
  simp only [t21, t22, go_sem, reduceIte, Nat.reduceEqDiff, Nat.reduceAdd, Nat.reduceMul, Nat.reduceLT, Nat.reduceLeDiff, reduceCtorEq, ne_eq, Int.reduceEq, Int.reduceLT, Int.reduceLE, Int.reduceNeg, Int.reduceToNat]
  refine w_open (by simp only [go_sem, reduceIte, Nat.reduceEqDiff, Nat.reduceAdd, Nat.reduceMul, Nat.reduceLT, Nat.reduceLeDiff, reduceCtorEq, ne_eq, Int.reduceEq, Int.reduceLT, Int.reduceLE, Int.reduceNeg, Int.reduceToNat]; rfl) ?_ ?_ <;> intro hc
  · have hi1 : i < m.length := by omega
    have hw : IntKind.i64.wrap ((i : Int) + 1) = ((i + 1 : Nat) : Int) := w64 (by omega) (by omega)
    have hel := cp_el hm hi1
    have cat := k_impl_edgeAt (X := X) (size := size) (x := (m.getD i c0).a) (y := (m.getD i c0).b) he hl
    obtain ⟨k, h1, h2⟩ := ix_lt (g.2 i hi1).2.1
    rw [h1] at cat
    have hek := edge_el he h2
    have hWk := eok_w (gok_mem g.1 (getD_mem (d := e0) h2))
    have csc := k_impl_Scalar (X := X) (h := h') hWk
    have hsc : scalar (es.getD k e0).w1 (es.getD k e0).w2 (es.getD k e0).w3 = scAt es (m.getD i c0) := by unfold scAt; rw [h1]; rfl
    rw [hsc] at csc
    have hst := worthL_take (es := es) hi1
    have b1 := hwb i (by omega)
    have b2 := scAt_bnd g hi1
    have hw2 : IntKind.i64.wrap (worthL es (m.take i) + scAt es (m.getD i c0)) = worthL es (m.take (i + 1)) := by rw [hst]; exact w64 (by omega) (by omega)
    unfold graphV at cat
    unfold edgeV edgeR at csc
    simp only [l3, l5, t7, t20, t21, t22, hel.1, hel.2.2.1, cat, hek.1, hek.2.2.1, csc, hw2, hw, List.prefix_refl, go_sem, reduceIte, Nat.reduceEqDiff, Nat.reduceAdd, Nat.reduceMul, Nat.reduceLT, Nat.reduceLeDiff, reduceCtorEq, ne_eq, Int.reduceEq, Int.reduceLT, Int.reduceLE, Int.reduceNeg, Int.reduceToNat]
    exact hi1
  · have hil : i = m.length := by omega
    subst hil
    have b1 := hwb m.length (Nat.le_refl _)
    rw [List.take_length] at t7 b1
    have hw2 : IntKind.i64.wrap (2 * worthL es m) = 2 * worthL es m := w64 (by omega) (by omega)
    by_cases q : 2 * worthL es m = weightL ys gs
    · have hr : CertOk size es m ys gs := ⟨p, g, q⟩
      simp only [l5, t7, cw, hw2, decide_eq_true q, hr, List.prefix_refl, go_sem, reduceIte, Nat.reduceEqDiff, Nat.reduceAdd, Nat.reduceMul, Nat.reduceLT, Nat.reduceLeDiff, reduceCtorEq, ne_eq, Int.reduceEq, Int.reduceLT, Int.reduceLE, Int.reduceNeg, Int.reduceToNat]
    · have hr : ¬ CertOk size es m ys gs := fun h => q h.2.2
      simp only [l5, t7, cw, hw2, q, hr, List.prefix_refl, go_sem, reduceIte, Nat.reduceEqDiff, Nat.reduceAdd, Nat.reduceMul, Nat.reduceLT, Nat.reduceLeDiff, reduceCtorEq, ne_eq, Int.reduceEq, Int.reduceLT, Int.reduceLE, Int.reduceNeg, Int.reduceToNat]
end
end Go.Proofs.Ytioogligololoaa.Ab
