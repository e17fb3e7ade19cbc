/- Contracts: a certificate in bytes. No conditions. -/
import Derived.Test.YtioogligololoaaK5
import Derived.Test.YtioogligololoaaK25
set_option linter.unusedSimpArgs false
set_option linter.unusedVariables false
set_option linter.unnecessarySimpa false
set_option maxHeartbeats 4000000
namespace Go.Proofs.Ytioogligololoaa.Ab
open Go.RowKit

theorem catV_two {s : ByteArray} {l m : List Int} : catV s (l ++ m) = catV (catV s l) m := by simp [catV, List.foldl_append]
theorem catV_to {a : ByteArray} {l m : List Int} : catV a l ++ catV noT m = catV a (l ++ m) := by rw [catV_from, catV_two]

def numsE (es : List E) : List Int := es.flatMap fun e => [e.a, e.b, e.w1, e.w2, e.w3]
def numsC (m : List Cp) : List Int := m.flatMap fun c => [c.a, c.b]
def numsG (gs : List Gp) : List Int := gs.flatMap fun g => (g.ms.length : Int) :: (g.ms ++ [g.z])
def certN (size : Int) (es : List E) (m : List Cp) (ys : List Int) (gs : List Gp) : List Int :=
  size :: (es.length : Int) :: (numsE es ++ ((m.length : Int) :: (numsC m ++ (ys ++ ((gs.length : Int) :: numsG gs)))))
def certT (size : Int) (es : List E) (m : List Cp) (ys : List Int) (gs : List Gp) : ByteArray := catV noT (certN size es m ys gs)

theorem take_snocD {α : Type} {d : α} {l : List α} {i : Nat} (hi : i < l.length) : l.take (i + 1) = l.take i ++ [l.getD i d] := by
  rw [List.take_add_one, List.getElem?_eq_getElem hi, List.getD_eq_getElem?_getD, List.getElem?_eq_getElem hi]
  rfl
theorem numsE_snoc {es : List E} {i : Nat} (hi : i < es.length) : numsE (es.take (i + 1)) = numsE (es.take i) ++ [(es.getD i e0).a, (es.getD i e0).b, (es.getD i e0).w1, (es.getD i e0).w2, (es.getD i e0).w3] := by
  rw [take_snocD (d := e0) hi]; unfold numsE; rw [List.flatMap_append]; rfl
theorem numsC_snoc {m : List Cp} {i : Nat} (hi : i < m.length) : numsC (m.take (i + 1)) = numsC (m.take i) ++ [(m.getD i c0).a, (m.getD i c0).b] := by
  rw [take_snocD (d := c0) hi]; unfold numsC; rw [List.flatMap_append]; rfl
theorem numsG_snoc {gs : List Gp} {i : Nat} (hi : i < gs.length) : numsG (gs.take (i + 1)) = numsG (gs.take i) ++ (((gs.getD i g0).ms.length : Int) :: ((gs.getD i g0).ms ++ [(gs.getD i g0).z])) := by
  rw [take_snocD (d := g0) hi]; unfold numsG; rw [List.flatMap_append]; simp

/-- A literal of a call's own shows its numbers. -/
theorem litRows {h : Heap} {ty : TypeId} {l : List Int} : Rows (h ++ [⟨l.map fun n => .int .i64 n, 1, ty, false⟩]) 1 (.slice (some ⟨h.length, 0, none⟩) l.length l.length) (ints l) := by
  refine ⟨ints_row, .inr ⟨h.length, 0, l.length, ⟨l.map fun n => .int .i64 n, 1, ty, false⟩, by rw [ints_len], by simp, rfl, by simp, by rw [ints_len]; exact Nat.le_refl _, ?_⟩⟩
  rw [ints_len, ints_flat, List.drop_zero, Nat.mul_one]
  exact List.take_of_length_le (by simp)

def certV (size : Int) (ev mv yv gv : Value) : Value := .agg ⟨[.int .i64 size, ev, mv, yv, gv]⟩

section
variable {X : CallF} {h : Heap} {ev yv gv mv : Value} {ys : List Int} {gs : List Gp} {es : List E} {m : List Cp} {size : Int}

theorem lit1 {g : Heap} {a : Int} : litArg 1 1 y_int g (some [.int .i64 a]) = some (.slice (some ⟨g.length, 0, none⟩) 1 1, g ++ [⟨[.int .i64 a], 1, y_int, false⟩]) := litArg_some ⟨rfl, by omega, by unfold lim; omega⟩
theorem lit2 {g : Heap} {a b : Int} : litArg 2 1 y_int g (some [.int .i64 a, .int .i64 b]) = some (.slice (some ⟨g.length, 0, none⟩) 2 2, g ++ [⟨[.int .i64 a, .int .i64 b], 1, y_int, false⟩]) := litArg_some ⟨rfl, by omega, by unfold lim; omega⟩
theorem lit5 {g : Heap} {a b c d e : Int} : litArg 5 1 y_int g (some [.int .i64 a, .int .i64 b, .int .i64 c, .int .i64 d, .int .i64 e]) = some (.slice (some ⟨g.length, 0, none⟩) 5 5, g ++ [⟨[.int .i64 a, .int .i64 b, .int .i64 c, .int .i64 d, .int .i64 e], 1, y_int, false⟩]) := litArg_some ⟨rfl, by omega, by unfold lim; omega⟩
theorem vars1 {g : Heap} {a : Int} : C T X n_impl_vars [.slice (some ⟨g.length, 0, none⟩) 1 1] (g ++ [⟨[.int .i64 a], 1, y_int, false⟩]) = some (.string (catV noT [a]), g ++ [⟨[.int .i64 a], 1, y_int, false⟩]) := k_impl_vars (litRows (l := [a])) (by simp)
theorem vars2 {g : Heap} {a b : Int} : C T X n_impl_vars [.slice (some ⟨g.length, 0, none⟩) 2 2] (g ++ [⟨[.int .i64 a, .int .i64 b], 1, y_int, false⟩]) = some (.string (catV noT [a, b]), g ++ [⟨[.int .i64 a, .int .i64 b], 1, y_int, false⟩]) := k_impl_vars (litRows (l := [a, b])) (by simp)
theorem vars5 {g : Heap} {a b c d e : Int} : C T X n_impl_vars [.slice (some ⟨g.length, 0, none⟩) 5 5] (g ++ [⟨[.int .i64 a, .int .i64 b, .int .i64 c, .int .i64 d, .int .i64 e], 1, y_int, false⟩]) = some (.string (catV noT [a, b, c, d, e]), g ++ [⟨[.int .i64 a, .int .i64 b, .int .i64 c, .int .i64 d, .int .i64 e], 1, y_int, false⟩]) := k_impl_vars (litRows (l := [a, b, c, d, e])) (by simp)

theorem numsE_len : (numsE es).length = 5 * es.length := by
  unfold numsE
  induction es with
  | nil => rfl
  | cons e es ih => rw [List.flatMap_cons, List.length_append, ih, List.length_cons]; simp; omega
theorem numsC_len : (numsC m).length = 2 * m.length := by
  unfold numsC
  induction m with
  | nil => rfl
  | cons e m ih => rw [List.flatMap_cons, List.length_append, ih, List.length_cons]; simp; omega
theorem numsG_len (hb : ∀ g ∈ gs, g.ms.length ≤ 1048576) : (numsG gs).length ≤ 1048578 * gs.length := by
  unfold numsG
  induction gs with
  | nil => exact Nat.le_refl _
  | cons e gs ih =>
    have := ih fun g hg => hb g (List.mem_cons_of_mem _ hg)
    have := hb e List.mem_cons_self
    rw [List.flatMap_cons, List.length_append, List.length_cons]
    simp only [List.length_cons, List.length_append, List.length_nil]
    omega
theorem fitV {l m : List Int} (h : l.length + m.length ≤ 100000000000000) : (catV noT l).size + (catV noT m).size ≤ 9223372036854775807 := by
  have h1 := catV_size (s := noT) (l := l)
  have h2 := catV_size (s := noT) (l := m)
  have h3 : noT.size = 0 := rfl
  omega

open Classical in
theorem k_impl_CertText (he : Rows h 5 ev (edges es)) (hm : Rows h 2 mv (cps m)) (hy : Rows h 1 yv (ints ys)) (hg : RowsG h gv gs) (hl : es.length ≤ lim) (hml : m.length ≤ 1048576) (hb : PfBnd ys gs) :
    C T X n_impl_CertText [certV size ev mv yv gv] h = some (.tuple ⟨[.string (if CertOk size es m ys gs then certT size es m ys gs else noT), .bool (decide (CertOk size es m ys gs))]⟩, h) := by
  have hc := k_impl_Certifies (X := X) (size := size) he hm hy hg hl hml hb
  refine C_go t_impl_CertText rfl ?_
  unfold F_impl_CertText certV
  unfold graphV proofV at hc
  by_cases g : CertOk size es m ys gs
  rotate_left
  · rw [if_neg g]
    simp only [hc, g, go_sem, reduceIte, Nat.reduceEqDiff, Nat.reduceAdd, Nat.reduceMul, Nat.reduceLT, Nat.reduceLeDiff, reduceCtorEq, ne_eq, Int.reduceEq, Int.reduceLT, Int.reduceLE, Int.reduceNeg, Int.reduceToNat]
  rw [if_pos g]
  unfold lim at hl
  simp only [hc, g, he.lnm, zeros, fillAt, lit2, vars2, go_sem, reduceIte, Nat.reduceEqDiff, Nat.reduceAdd, Nat.reduceMul, Nat.reduceLT, Nat.reduceLeDiff, reduceCtorEq, ne_eq, Int.reduceEq, Int.reduceLT, Int.reduceLE, Int.reduceNeg, Int.reduceToNat]
  obtain ⟨H1, hH1⟩ : ∃ H1 : Heap, H1 = h ++ [⟨[.int .i64 size, .int .i64 es.length], 1, y_int, false⟩] := ⟨_, rfl⟩
  have hp1 : h <+: H1 := by rw [hH1]; exact List.prefix_append _ _
  rw [← hH1]
  simp only [(he.up hp1).lnm, go_sem, reduceIte, Nat.reduceEqDiff, Nat.reduceAdd, Nat.reduceMul, Nat.reduceLT, Nat.reduceLeDiff, reduceCtorEq, ne_eq, Int.reduceEq, Int.reduceLT, Int.reduceLE, Int.reduceNeg, Int.reduceToNat]
  obtain ⟨A, hA⟩ : ∃ A : List Int, A = [size, (es.length : Int)] := ⟨_, rfl⟩
  rw [← hA]
  have hAl : A.length = 2 := by rw [hA]; rfl
  refine w_for es.length (fun i t loc h' => loc 1 = some [.int .i64 size, ev, mv, yv, gv] ∧ t 30 = ev ∧ t 31 = .int .i64 es.length ∧ t 32 = .int .i64 i ∧ h <+: h' ∧ t 4 = .string (catV noT (A ++ numsE (es.take i)))) ⟨rfl, rfl, rfl, rfl, hp1, by rw [List.take_zero]; unfold numsE; rw [List.flatMap_nil, List.append_nil]; rfl⟩ ?_
  rintro i t loc h2 hi ⟨l1, t30, t31, t32, hp, t4⟩
  simp only [t31, t32, go_sem, reduceIte, Nat.reduceEqDiff, Nat.reduceAdd, Nat.reduceMul, Nat.reduceLT, Nat.reduceLeDiff, reduceCtorEq, ne_eq, Int.reduceEq, Int.reduceLT, Int.reduceLE, Int.reduceNeg, Int.reduceToNat]
  refine w_open (by simp only [go_sem, reduceIte, Nat.reduceEqDiff, Nat.reduceAdd, Nat.reduceMul, Nat.reduceLT, Nat.reduceLeDiff, reduceCtorEq, ne_eq, Int.reduceEq, Int.reduceLT, Int.reduceLE, Int.reduceNeg, Int.reduceToNat]; rfl) ?_ ?_ <;> intro hc
  · have hi1 : i < es.length := by omega
    have hw : IntKind.i64.wrap ((i : Int) + 1) = ((i + 1 : Nat) : Int) := w64 (by omega) (by omega)
    have el := edge_el (he.up hp) hi1
    have ft := fitV (l := A ++ numsE (es.take i)) (m := [(es.getD i e0).a, (es.getD i e0).b, (es.getD i e0).w1, (es.getD i e0).w2, (es.getD i e0).w3]) (by rw [List.length_append, numsE_len, List.length_take]; simp; omega)
    simp only [l1, t4, t30, t31, t32, el.1, el.2.2.1, zeros, fillAt, lit5, vars5, catV_to, ft, hw, go_sem, reduceIte, Nat.reduceEqDiff, Nat.reduceAdd, Nat.reduceMul, Nat.reduceLT, Nat.reduceLeDiff, reduceCtorEq, ne_eq, Int.reduceEq, Int.reduceLT, Int.reduceLE, Int.reduceNeg, Int.reduceToNat]
    exact ⟨hi1, hp.trans (List.prefix_append _ _), by rw [numsE_snoc hi1, List.append_assoc]⟩
  have hin : i = es.length := by omega
  subst hin
  rw [List.take_length] at t4
  obtain ⟨A1, hA1⟩ : ∃ A1 : List Int, A1 = A ++ numsE es := ⟨_, rfl⟩
  rw [← hA1] at t4
  have hA1l : A1.length = 2 + 5 * es.length := by rw [hA1, List.length_append, numsE_len, hAl]
  have ft := fitV (l := A1) (m := [(m.length : Int)]) (by simp; omega)
  obtain ⟨H2, hH2⟩ : ∃ H2 : Heap, H2 = h2 ++ [⟨[.int .i64 m.length], 1, y_int, false⟩] := ⟨_, rfl⟩
  have hp2 : h <+: H2 := by rw [hH2]; exact hp.trans (List.prefix_append _ _)
  have hv2 : C T X n_impl_vars [.slice (some ⟨h2.length, 0, none⟩) 1 1] H2 = some (.string (catV noT [(m.length : Int)]), H2) := by rw [hH2]; exact vars1
  simp only [l1, t4, zeros, fillAt, (hm.up hp).lnm, lit1, hv2, catV_to, ft, ← hH2, (hm.up hp2).lnm, go_sem, reduceIte, Nat.reduceEqDiff, Nat.reduceAdd, Nat.reduceMul, Nat.reduceLT, Nat.reduceLeDiff, reduceCtorEq, ne_eq, Int.reduceEq, Int.reduceLT, Int.reduceLE, Int.reduceNeg, Int.reduceToNat]
  obtain ⟨A2, hA2⟩ : ∃ A2 : List Int, A2 = A1 ++ [(m.length : Int)] := ⟨_, rfl⟩
  rw [← hA2]
  have hA2l : A2.length = 3 + 5 * es.length := by rw [hA2, List.length_append, hA1l]; simp; omega
  clear t4 t30 t31 t32 hp l1
  refine w_for m.length (fun i t loc h' => loc 1 = some [.int .i64 size, ev, mv, yv, gv] ∧ t 59 = mv ∧ t 60 = .int .i64 m.length ∧ t 61 = .int .i64 i ∧ h <+: h' ∧ t 4 = .string (catV noT (A2 ++ numsC (m.take i)))) ⟨rfl, rfl, rfl, rfl, hp2, by rw [List.take_zero]; unfold numsC; rw [List.flatMap_nil, List.append_nil]; rfl⟩ ?_
  rintro i t loc h3 hi2 ⟨l1, t59, t60, t61, hp, t4⟩
  simp only [t60, t61, go_sem, reduceIte, Nat.reduceEqDiff, Nat.reduceAdd, Nat.reduceMul, Nat.reduceLT, Nat.reduceLeDiff, reduceCtorEq, ne_eq, Int.reduceEq, Int.reduceLT, Int.reduceLE, Int.reduceNeg, Int.reduceToNat]
  refine w_open (by simp only [go_sem, reduceIte, Nat.reduceEqDiff, Nat.reduceAdd, Nat.reduceMul, Nat.reduceLT, Nat.reduceLeDiff, reduceCtorEq, ne_eq, Int.reduceEq, Int.reduceLT, Int.reduceLE, Int.reduceNeg, Int.reduceToNat]; rfl) ?_ ?_ <;> intro hc
  · have hi1 : i < m.length := by omega
    have hw : IntKind.i64.wrap ((i : Int) + 1) = ((i + 1 : Nat) : Int) := w64 (by omega) (by omega)
    have el := cp_el (hm.up hp) hi1
    have ft := fitV (l := A2 ++ numsC (m.take i)) (m := [(m.getD i c0).a, (m.getD i c0).b]) (by rw [List.length_append, numsC_len, List.length_take]; simp; omega)
    simp only [l1, t4, t59, t60, t61, el.1, el.2.2.1, zeros, fillAt, lit2, vars2, catV_to, ft, hw, go_sem, reduceIte, Nat.reduceEqDiff, Nat.reduceAdd, Nat.reduceMul, Nat.reduceLT, Nat.reduceLeDiff, reduceCtorEq, ne_eq, Int.reduceEq, Int.reduceLT, Int.reduceLE, Int.reduceNeg, Int.reduceToNat]
    exact ⟨hi1, hp.trans (List.prefix_append _ _), by rw [numsC_snoc hi1, List.append_assoc]⟩
  have hin : i = m.length := by omega
  subst hin
  rw [List.take_length] at t4
  obtain ⟨A3, hA3⟩ : ∃ A3 : List Int, A3 = A2 ++ numsC m := ⟨_, rfl⟩
  rw [← hA3] at t4
  have hA3l : A3.length = 3 + 5 * es.length + 2 * m.length := by rw [hA3, List.length_append, hA2l, numsC_len]
  have hvy := k_impl_vars (X := X) (hy.up hp) (by have := hb.1; omega)
  have ft1 := fitV (l := ys) (m := [(gs.length : Int)]) (by have := hb.1; simp; omega)
  have ft2 := fitV (l := A3) (m := ys ++ [(gs.length : Int)]) (by have := hb.1; simp; omega)
  obtain ⟨H3, hH3⟩ : ∃ H3 : Heap, H3 = h3 ++ [⟨[.int .i64 gs.length], 1, y_int, false⟩] := ⟨_, rfl⟩
  have hv3 : C T X n_impl_vars [.slice (some ⟨h3.length, 0, none⟩) 1 1] H3 = some (.string (catV noT [(gs.length : Int)]), H3) := by rw [hH3]; exact vars1
  have hp3' : h3 <+: H3 := by rw [hH3]; exact List.prefix_append _ _
  have hp3 : h <+: H3 := hp.trans hp3'
  simp only [l1, t4, zeros, fillAt, (hg.up hp).ln, hvy, lit1, hv3, catV_to, ft1, ft2, ← hH3, hp3', (hg.up hp3).ln, List.prefix_refl, List.prefix_append, go_sem, reduceIte, Nat.reduceEqDiff, Nat.reduceAdd, Nat.reduceMul, Nat.reduceLT, Nat.reduceLeDiff, reduceCtorEq, ne_eq, Int.reduceEq, Int.reduceLT, Int.reduceLE, Int.reduceNeg, Int.reduceToNat]
  obtain ⟨A4, hA4⟩ : ∃ A4 : List Int, A4 = A3 ++ (ys ++ [(gs.length : Int)]) := ⟨_, rfl⟩
  rw [← hA4]
  have hA4l : A4.length = 4 + 5 * es.length + 2 * m.length + ys.length := by rw [hA4, List.length_append, List.length_append, hA3l]; simp; omega
  clear t4 t59 t60 t61 hp l1
  refine w_for gs.length (fun i t loc h' => t 89 = gv ∧ t 90 = .int .i64 gs.length ∧ t 91 = .int .i64 i ∧ h <+: h' ∧ t 4 = .string (catV noT (A4 ++ numsG (gs.take i)))) ⟨rfl, rfl, rfl, hp3, by rw [List.take_zero]; unfold numsG; rw [List.flatMap_nil, List.append_nil]; rfl⟩ ?_
  rintro i t loc h4 hi3 ⟨t89, t90, t91, hp, t4⟩
  simp only [t90, t91, go_sem, reduceIte, Nat.reduceEqDiff, Nat.reduceAdd, Nat.reduceMul, Nat.reduceLT, Nat.reduceLeDiff, reduceCtorEq, ne_eq, Int.reduceEq, Int.reduceLT, Int.reduceLE, Int.reduceNeg, Int.reduceToNat]
  refine w_open (by simp only [go_sem, reduceIte, Nat.reduceEqDiff, Nat.reduceAdd, Nat.reduceMul, Nat.reduceLT, Nat.reduceLeDiff, reduceCtorEq, ne_eq, Int.reduceEq, Int.reduceLT, Int.reduceLE, Int.reduceNeg, Int.reduceToNat]; rfl) ?_ ?_ <;> intro hc
  · have hi1 : i < gs.length := by omega
    have hgn := hb.2.1
    have hw : IntKind.i64.wrap ((i : Int) + 1) = ((i + 1 : Nat) : Int) := w64 (by omega) (by omega)
    obtain ⟨x, el1, el2, el3, el4, el5, hx⟩ := (hg.up hp).el hi1
    obtain ⟨g1, hg1⟩ : ∃ g1, g1 = gs.getD i g0 := ⟨_, rfl⟩
    have hgm : g1.ms.length ≤ 1048576 := by rw [hg1]; exact hb.2.2 _ (getD_mem (d := g0) hi1)
    have hgl := numsG_len (gs := gs.take i) fun g q => hb.2.2 g (List.mem_of_mem_take q)
    rw [List.length_take] at hgl
    rw [← hg1] at el3 hx
    obtain ⟨H4, hH4⟩ : ∃ H4 : Heap, H4 = h4 ++ [⟨[.int .i64 g1.ms.length], 1, y_int, false⟩] := ⟨_, rfl⟩
    have hp4 : h4 <+: H4 := by rw [hH4]; exact List.prefix_append _ _
    have hv4 : C T X n_impl_vars [.slice (some ⟨h4.length, 0, none⟩) 1 1] H4 = some (.string (catV noT [(g1.ms.length : Int)]), H4) := by rw [hH4]; exact vars1
    have hvm := k_impl_vars (X := X) (hx.up hp4) (by omega)
    obtain ⟨H5, hH5⟩ : ∃ H5 : Heap, H5 = H4 ++ [⟨[.int .i64 g1.z], 1, y_int, false⟩] := ⟨_, rfl⟩
    have hp5 : H4 <+: H5 := by rw [hH5]; exact List.prefix_append _ _
    have hv5 : C T X n_impl_vars [.slice (some ⟨H4.length, 0, none⟩) 1 1] H5 = some (.string (catV noT [g1.z]), H5) := by rw [hH5]; exact vars1
    have ft1 := fitV (l := [(g1.ms.length : Int)]) (m := g1.ms) (by simp; omega)
    have ft2 := fitV (l := (g1.ms.length : Int) :: g1.ms) (m := [g1.z]) (by simp; omega)
    have ft3 := fitV (l := A4 ++ numsG (gs.take i)) (m := (g1.ms.length : Int) :: (g1.ms ++ [g1.z])) (by
      rw [List.length_append, hA4l]
      have := hb.1
      simp only [List.length_append, List.length_cons, List.length_nil]
      omega)
    simp only [t4, t89, t90, t91, el1, el3, zeros, fillAt, ints_ln hx, lit1, hv4, ← hH4, hvm, hv5, ← hH5, catV_to, List.cons_append, List.nil_append, ft1, ft2, ft3, hw, go_sem, reduceIte, Nat.reduceEqDiff, Nat.reduceAdd, Nat.reduceMul, Nat.reduceLT, Nat.reduceLeDiff, reduceCtorEq, ne_eq, Int.reduceEq, Int.reduceLT, Int.reduceLE, Int.reduceNeg, Int.reduceToNat]
    refine ⟨hi1, hp.trans (hp4.trans hp5), ?_⟩
    rw [numsG_snoc hi1, ← hg1]
    simp
  · have hin : i = gs.length := by omega
    subst hin
    rw [List.take_length] at t4
    simp only [t4, go_sem, reduceIte, Nat.reduceEqDiff, Nat.reduceAdd, Nat.reduceMul, Nat.reduceLT, Nat.reduceLeDiff, reduceCtorEq, ne_eq, Int.reduceEq, Int.reduceLT, Int.reduceLE, Int.reduceNeg, Int.reduceToNat]
    have e : A4 ++ numsG gs = certN size es m ys gs := by
      rw [hA4, hA3, hA2, hA1, hA]
      simp [certN]
    rw [e]
    exact finish_flat rfl hp

theorem gok_every {size : Int} {es : List E} (g : GOk size es) : ∀ e ∈ es, EOk size e := fun e he => by
  obtain ⟨i, hi, rfl⟩ := mem_getD (d := e0) he
  exact (g.2 i hi).1
theorem var1 {n : Int} (h0 : 0 ≤ n) (h1 : n ≤ 1000000000) : C T X n_spec_l01Var [.int .i64 n] h = some (.string (catV noT [n]), h) := by
  have e : catV noT [n] = vt n := by
    show noT ++ vt n = vt n
    exact ByteArray.empty_append
  rw [e]
  exact k_spec_l01Var' h0 h1

open Classical in
theorem k_spec_CertText (he : Rows h 5 ev (edges es)) (hm : Rows h 2 mv (cps m)) (hy : Rows h 1 yv (ints ys)) (hg : RowsG h gv gs) (hl : es.length ≤ lim) (hml : m.length ≤ 1048576) (hb : PfBnd ys gs) :
    C T X n_spec_CertText [certV size ev mv yv gv] h = some (.tuple ⟨[.string (if CertOk size es m ys gs then certT size es m ys gs else noT), .bool (decide (CertOk size es m ys gs))]⟩, h) := by
  have hc := k_spec_Certifies (X := X) (size := size) he hm hy hg hl hml hb
  refine C_go t_spec_CertText rfl ?_
  unfold F_spec_CertText certV
  unfold graphV proofV at hc
  by_cases g : CertOk size es m ys gs
  rotate_left
  · rw [if_neg g]
    simp only [hc, g, go_sem, reduceIte, Nat.reduceEqDiff, Nat.reduceAdd, Nat.reduceMul, Nat.reduceLT, Nat.reduceLeDiff, reduceCtorEq, ne_eq, Int.reduceEq, Int.reduceLT, Int.reduceLE, Int.reduceNeg, Int.reduceToNat]
  rw [if_pos g]
  have hgo := g.1.1.1
  have hsz := hgo.1
  have hE := gok_every hgo
  have hel := gok_len hgo
  unfold lim at hl
  have vs := var1 (X := X) (h := h) (n := size) (by omega) (by omega)
  have vn := var1 (X := X) (h := h) (n := (es.length : Int)) (by omega) (by omega)
  have ft := fitV (l := [size]) (m := [(es.length : Int)]) (by simp)
  simp only [hc, g, he.lnm, vs, vn, catV_to, ft, List.prefix_refl, List.cons_append, List.nil_append, go_sem, reduceIte, Nat.reduceEqDiff, Nat.reduceAdd, Nat.reduceMul, Nat.reduceLT, Nat.reduceLeDiff, reduceCtorEq, ne_eq, Int.reduceEq, Int.reduceLT, Int.reduceLE, Int.reduceNeg, Int.reduceToNat]
  obtain ⟨A, hA⟩ : ∃ A : List Int, A = [size, (es.length : Int)] := ⟨_, rfl⟩
  rw [← hA]
  have hAl : A.length = 2 := by rw [hA]; rfl
  refine w_for es.length (fun i t loc h' => h' = h ∧ loc 1 = some [.int .i64 size, ev, mv, yv, gv] ∧ t 5 = .int .i64 i ∧ t 4 = .string (catV noT (A ++ numsE (es.take i)))) ⟨rfl, rfl, rfl, by rw [List.take_zero]; unfold numsE; rw [List.flatMap_nil, List.append_nil]; rfl⟩ ?_
  rintro i t loc h' hi ⟨rfl, l1, t5, t4⟩
  simp only [l1, t5, he.lnm, go_sem, reduceIte, Nat.reduceEqDiff, Nat.reduceAdd, Nat.reduceMul, Nat.reduceLT, Nat.reduceLeDiff, reduceCtorEq, ne_eq, Int.reduceEq, Int.reduceLT, Int.reduceLE, Int.reduceNeg, Int.reduceToNat]
  refine w_open (by simp only [go_sem, reduceIte, Nat.reduceEqDiff, Nat.reduceAdd, Nat.reduceMul, Nat.reduceLT, Nat.reduceLeDiff, reduceCtorEq, ne_eq, Int.reduceEq, Int.reduceLT, Int.reduceLE, Int.reduceNeg, Int.reduceToNat]; rfl) ?_ ?_ <;> intro hc
  · have hi1 : i < es.length := by omega
    have hw : IntKind.i64.wrap ((i : Int) + 1) = ((i + 1 : Nat) : Int) := w64 (by omega) (by omega)
    have el := edge_el he hi1
    have q := hE _ (getD_mem (d := e0) hi1)
    obtain ⟨e, hee⟩ : ∃ e, e = es.getD i e0 := ⟨_, rfl⟩
    have sn := numsE_snoc hi1
    rw [← hee] at el q sn
    unfold EOk at q
    have v1 := var1 (X := X) (h := h') (n := e.a) (by omega) (by omega)
    have v2 := var1 (X := X) (h := h') (n := e.b) (by omega) (by omega)
    have v3 := var1 (X := X) (h := h') (n := e.w1) (by omega) (by omega)
    have v4 := var1 (X := X) (h := h') (n := e.w2) (by omega) (by omega)
    have v5 := var1 (X := X) (h := h') (n := e.w3) (by omega) (by omega)
    obtain ⟨L, hL⟩ : ∃ L : List Int, L = A ++ numsE (es.take i) := ⟨_, rfl⟩
    have hLl : L.length ≤ 100000 := by rw [hL, List.length_append, numsE_len, List.length_take]; omega
    rw [← hL] at t4
    have f1 := fitV (l := L) (m := [e.a]) (by simp; omega)
    have f2 := fitV (l := L ++ [e.a]) (m := [e.b]) (by simp; omega)
    have f3 := fitV (l := L ++ [e.a, e.b]) (m := [e.w1]) (by simp; omega)
    have f4 := fitV (l := L ++ [e.a, e.b, e.w1]) (m := [e.w2]) (by simp; omega)
    have f5 := fitV (l := L ++ [e.a, e.b, e.w1, e.w2]) (m := [e.w3]) (by simp; omega)
    simp only [l1, t4, t5, el.1, el.2.2.1, v1, v2, v3, v4, v5, f1, f2, f3, f4, f5, catV_to, List.append_assoc, List.cons_append, List.nil_append, List.prefix_refl, hw, go_sem, reduceIte, Nat.reduceEqDiff, Nat.reduceAdd, Nat.reduceMul, Nat.reduceLT, Nat.reduceLeDiff, reduceCtorEq, ne_eq, Int.reduceEq, Int.reduceLT, Int.reduceLE, Int.reduceNeg, Int.reduceToNat]
    exact ⟨hi1, by rw [sn, hL, List.append_assoc]⟩
  have hin : i = es.length := by omega
  subst hin
  rw [List.take_length] at t4
  obtain ⟨A1, hA1⟩ : ∃ A1 : List Int, A1 = A ++ numsE es := ⟨_, rfl⟩
  rw [← hA1] at t4
  have hA1l : A1.length = 2 + 5 * es.length := by rw [hA1, List.length_append, numsE_len, hAl]
  have hmk := mok_len g.2.1
  have vm := var1 (X := X) (h := h') (n := (m.length : Int)) (by omega) (by omega)
  have ft := fitV (l := A1) (m := [(m.length : Int)]) (by simp; omega)
  simp only [l1, t4, hm.lnm, vm, catV_to, ft, go_sem, reduceIte, Nat.reduceEqDiff, Nat.reduceAdd, Nat.reduceMul, Nat.reduceLT, Nat.reduceLeDiff, reduceCtorEq, ne_eq, Int.reduceEq, Int.reduceLT, Int.reduceLE, Int.reduceNeg, Int.reduceToNat]
  obtain ⟨A2, hA2⟩ : ∃ A2 : List Int, A2 = A1 ++ [(m.length : Int)] := ⟨_, rfl⟩
  rw [← hA2]
  have hA2l : A2.length = 3 + 5 * es.length := by rw [hA2, List.length_append, hA1l]; simp; omega
  obtain ⟨h, hh⟩ : ∃ h, h = h' := ⟨_, rfl⟩
  rw [← hh] at he hm hy hg ⊢
  clear t4 t5 l1 vm vs vn
  refine w_for m.length (fun i t loc h' => h' = h ∧ loc 1 = some [.int .i64 size, ev, mv, yv, gv] ∧ t 7 = .int .i64 i ∧ t 4 = .string (catV noT (A2 ++ numsC (m.take i)))) ⟨rfl, rfl, rfl, by rw [List.take_zero]; unfold numsC; rw [List.flatMap_nil, List.append_nil]; rfl⟩ ?_
  rintro i t loc h' hi ⟨rfl, l1, t7, t4⟩
  simp only [l1, t7, hm.lnm, go_sem, reduceIte, Nat.reduceEqDiff, Nat.reduceAdd, Nat.reduceMul, Nat.reduceLT, Nat.reduceLeDiff, reduceCtorEq, ne_eq, Int.reduceEq, Int.reduceLT, Int.reduceLE, Int.reduceNeg, Int.reduceToNat]
  refine w_open (by simp only [go_sem, reduceIte, Nat.reduceEqDiff, Nat.reduceAdd, Nat.reduceMul, Nat.reduceLT, Nat.reduceLeDiff, reduceCtorEq, ne_eq, Int.reduceEq, Int.reduceLT, Int.reduceLE, Int.reduceNeg, Int.reduceToNat]; rfl) ?_ ?_ <;> intro hc
  · have hi1 : i < m.length := by omega
    have hw : IntKind.i64.wrap ((i : Int) + 1) = ((i + 1 : Nat) : Int) := w64 (by omega) (by omega)
    have el := cp_el hm hi1
    have q := g.2.1.2 i hi1
    have sn := numsC_snoc hi1
    obtain ⟨e, hee⟩ : ∃ e, e = m.getD i c0 := ⟨_, rfl⟩
    unfold CpOk at q
    rw [← hee] at el q sn
    have qr : 0 ≤ e.a ∧ e.a ≤ 9 ∧ 0 ≤ e.b ∧ e.b ≤ 9 := by
      rcases firstIx_cases (p := Join e.a e.b) e0 es with ⟨c1, _⟩ | ⟨j, _, c2, c3, _⟩
      · have := q.2.1
        unfold edgeIx at this
        omega
      · have := hE _ (getD_mem (d := e0) c2)
        unfold EOk at this
        unfold Join at c3
        omega
    have v1 := var1 (X := X) (h := h') (n := e.a) (by omega) (by omega)
    have v2 := var1 (X := X) (h := h') (n := e.b) (by omega) (by omega)
    obtain ⟨L, hL⟩ : ∃ L : List Int, L = A2 ++ numsC (m.take i) := ⟨_, rfl⟩
    have hLl : L.length ≤ 10000000 := by rw [hL, List.length_append, numsC_len, List.length_take]; omega
    rw [← hL] at t4
    have f1 := fitV (l := L) (m := [e.a]) (by simp; omega)
    have f2 := fitV (l := L ++ [e.a]) (m := [e.b]) (by simp; omega)
    simp only [l1, t4, t7, el.1, el.2.1, el.2.2.2.1, el.2.2.2.2, v1, v2, f1, f2, catV_to, List.append_assoc, List.cons_append, List.nil_append, List.prefix_refl, hw, go_sem, reduceIte, Nat.reduceEqDiff, Nat.reduceAdd, Nat.reduceMul, Nat.reduceLT, Nat.reduceLeDiff, reduceCtorEq, ne_eq, Int.reduceEq, Int.reduceLT, Int.reduceLE, Int.reduceNeg, Int.reduceToNat]
    exact ⟨hi1, by rw [sn, hL, List.append_assoc]⟩
  have hin : i = m.length := by omega
  subst hin
  rw [List.take_length] at t4
  obtain ⟨A3, hA3⟩ : ∃ A3 : List Int, A3 = A2 ++ numsC m := ⟨_, rfl⟩
  rw [← hA3] at t4
  have hA3l : A3.length = 3 + 5 * es.length + 2 * m.length := by rw [hA3, List.length_append, hA2l, numsC_len]
  simp only [l1, t4, go_sem, reduceIte, Nat.reduceEqDiff, Nat.reduceAdd, Nat.reduceMul, Nat.reduceLT, Nat.reduceLeDiff, reduceCtorEq, ne_eq, Int.reduceEq, Int.reduceLT, Int.reduceLE, Int.reduceNeg, Int.reduceToNat]
  obtain ⟨h, hh⟩ : ∃ h, h = h' := ⟨_, rfl⟩
  rw [← hh] at he hm hy hg ⊢
  clear t4 t7 l1
  have hyl := g.1.1.2.1
  refine w_for ys.length (fun i t loc h' => h' = h ∧ loc 1 = some [.int .i64 size, ev, mv, yv, gv] ∧ t 8 = .int .i64 i ∧ t 4 = .string (catV noT (A3 ++ ys.take i))) ⟨rfl, rfl, rfl, by rw [List.take_zero, List.append_nil]; rfl⟩ ?_
  rintro i t loc h' hi ⟨rfl, l1, t8, t4⟩
  simp only [l1, t8, ints_ln hy, go_sem, reduceIte, Nat.reduceEqDiff, Nat.reduceAdd, Nat.reduceMul, Nat.reduceLT, Nat.reduceLeDiff, reduceCtorEq, ne_eq, Int.reduceEq, Int.reduceLT, Int.reduceLE, Int.reduceNeg, Int.reduceToNat]
  refine w_open (by simp only [go_sem, reduceIte, Nat.reduceEqDiff, Nat.reduceAdd, Nat.reduceMul, Nat.reduceLT, Nat.reduceLeDiff, reduceCtorEq, ne_eq, Int.reduceEq, Int.reduceLT, Int.reduceLE, Int.reduceNeg, Int.reduceToNat]; rfl) ?_ ?_ <;> intro hc
  · have hi1 : i < ys.length := by omega
    have hw : IntKind.i64.wrap ((i : Int) + 1) = ((i + 1 : Nat) : Int) := w64 (by omega) (by omega)
    have el := int_el hy hi1
    have q := g.1.2.1 i hi1
    have v1 := var1 (X := X) (h := h') (n := ys.getD i 0) (by omega) (by omega)
    have f1 := fitV (l := A3 ++ ys.take i) (m := [ys.getD i 0]) (by rw [List.length_append, List.length_take]; simp; omega)
    simp only [l1, t4, t8, el.1, el.2, v1, f1, catV_to, hw, go_sem, reduceIte, Nat.reduceEqDiff, Nat.reduceAdd, Nat.reduceMul, Nat.reduceLT, Nat.reduceLeDiff, reduceCtorEq, ne_eq, Int.reduceEq, Int.reduceLT, Int.reduceLE, Int.reduceNeg, Int.reduceToNat]
    exact ⟨hi1, by rw [take_snocD (d := 0) hi1, List.append_assoc]⟩
  have hin : i = ys.length := by omega
  subst hin
  rw [List.take_length] at t4
  have hgl8 := g.1.1.2.2
  have vg := var1 (X := X) (h := h') (n := (gs.length : Int)) (by omega) (by omega)
  have ft := fitV (l := A3 ++ ys) (m := [(gs.length : Int)]) (by rw [List.length_append]; simp; omega)
  simp only [l1, t4, hg.ln, vg, catV_to, ft, go_sem, reduceIte, Nat.reduceEqDiff, Nat.reduceAdd, Nat.reduceMul, Nat.reduceLT, Nat.reduceLeDiff, reduceCtorEq, ne_eq, Int.reduceEq, Int.reduceLT, Int.reduceLE, Int.reduceNeg, Int.reduceToNat]
  obtain ⟨A4, hA4⟩ : ∃ A4 : List Int, A4 = A3 ++ ys ++ [(gs.length : Int)] := ⟨_, rfl⟩
  rw [← hA4]
  have hA4l : A4.length = 4 + 5 * es.length + 2 * m.length + ys.length := by rw [hA4, List.length_append, List.length_append, hA3l]; simp; omega
  obtain ⟨h, hh⟩ : ∃ h, h = h' := ⟨_, rfl⟩
  rw [← hh] at he hm hy hg ⊢
  clear t4 t8 l1 vg
  refine w_for gs.length (fun i t loc h' => h' = h ∧ loc 1 = some [.int .i64 size, ev, mv, yv, gv] ∧ t 9 = .int .i64 i ∧ t 4 = .string (catV noT (A4 ++ numsG (gs.take i)))) ⟨rfl, rfl, rfl, by rw [List.take_zero]; unfold numsG; rw [List.flatMap_nil, List.append_nil]; rfl⟩ ?_
  rintro i t loc h' hi ⟨rfl, l1, t9, t4⟩
  simp only [l1, t9, hg.ln, go_sem, reduceIte, Nat.reduceEqDiff, Nat.reduceAdd, Nat.reduceMul, Nat.reduceLT, Nat.reduceLeDiff, reduceCtorEq, ne_eq, Int.reduceEq, Int.reduceLT, Int.reduceLE, Int.reduceNeg, Int.reduceToNat]
  refine w_open (by simp only [go_sem, reduceIte, Nat.reduceEqDiff, Nat.reduceAdd, Nat.reduceMul, Nat.reduceLT, Nat.reduceLeDiff, reduceCtorEq, ne_eq, Int.reduceEq, Int.reduceLT, Int.reduceLE, Int.reduceNeg, Int.reduceToNat]; rfl) ?_ ?_ <;> intro hc
  · have hi1 : i < gs.length := by omega
    have hw : IntKind.i64.wrap ((i : Int) + 1) = ((i + 1 : Nat) : Int) := w64 (by omega) (by omega)
    obtain ⟨x, el1, el2, el3, el4, el5, hx⟩ := hg.el hi1
    have q := (g.1.2.2.1 i hi1).1
    have hgl := numsG_len (gs := gs.take i) fun g q => hb.2.2 g (List.mem_of_mem_take q)
    rw [List.length_take] at hgl
    have hgm := hb.2.2 _ (getD_mem (d := g0) hi1)
    have sn := numsG_snoc hi1
    obtain ⟨g1, hg1⟩ : ∃ g1, g1 = gs.getD i g0 := ⟨_, rfl⟩
    rw [← hg1] at el3 hx q hgm sn
    unfold GrOk at q
    have v1 := var1 (X := X) (h := h') (n := (g1.ms.length : Int)) (by omega) (by omega)
    obtain ⟨L, hL⟩ : ∃ L : List Int, L = A4 ++ numsG (gs.take i) := ⟨_, rfl⟩
    have hLl : L.length ≤ 100000000 := by rw [hL, List.length_append]; omega
    rw [← hL] at t4
    have f1 := fitV (l := L) (m := [(g1.ms.length : Int)]) (by simp; omega)
    simp only [l1, t4, t9, el1, el3, ints_ln hx, v1, f1, catV_to, zeros, fillAt, go_sem, reduceIte, Nat.reduceEqDiff, Nat.reduceAdd, Nat.reduceMul, Nat.reduceLT, Nat.reduceLeDiff, reduceCtorEq, ne_eq, Int.reduceEq, Int.reduceLT, Int.reduceLE, Int.reduceNeg, Int.reduceToNat]
    obtain ⟨B, hB⟩ : ∃ B : List Int, B = L ++ [(g1.ms.length : Int)] := ⟨_, rfl⟩
    have hBl : B.length ≤ 100000001 := by rw [hB, List.length_append]; simp; omega
    rw [← hB]
    obtain ⟨h, hh⟩ : ∃ h, h = h' := ⟨_, rfl⟩
    rw [← hh] at he hm hy hg hx ⊢
    refine w_for g1.ms.length (fun j t loc h' => h' = h ∧ loc 1 = some [.int .i64 size, ev, mv, yv, gv] ∧ loc 10 = some [x, .int .i64 g1.z] ∧ t 9 = .int .i64 i ∧ t 11 = .int .i64 j ∧ t 4 = .string (catV noT (B ++ g1.ms.take j))) ⟨rfl, rfl, rfl, rfl, rfl, by rw [List.take_zero, List.append_nil]; rfl⟩ ?_
    rintro j t loc h' hj ⟨rfl, l1, l10, t9, t11, t4⟩
    simp only [l1, l10, t9, t11, ints_ln hx, go_sem, reduceIte, Nat.reduceEqDiff, Nat.reduceAdd, Nat.reduceMul, Nat.reduceLT, Nat.reduceLeDiff, reduceCtorEq, ne_eq, Int.reduceEq, Int.reduceLT, Int.reduceLE, Int.reduceNeg, Int.reduceToNat]
    refine w_open (by simp only [go_sem, reduceIte, Nat.reduceEqDiff, Nat.reduceAdd, Nat.reduceMul, Nat.reduceLT, Nat.reduceLeDiff, reduceCtorEq, ne_eq, Int.reduceEq, Int.reduceLT, Int.reduceLE, Int.reduceNeg, Int.reduceToNat]; rfl) ?_ ?_ <;> intro hc
    · have hj1 : j < g1.ms.length := by omega
      have hw : IntKind.i64.wrap ((j : Int) + 1) = ((j + 1 : Nat) : Int) := w64 (by omega) (by omega)
      have elj := int_el hx hj1
      have qj := q.2 j hj1
      have v1 := var1 (X := X) (h := h') (n := g1.ms.getD j 0) (by omega) (by omega)
      have f1 := fitV (l := B ++ g1.ms.take j) (m := [g1.ms.getD j 0]) (by rw [List.length_append, List.length_take]; simp; omega)
      simp only [l1, l10, t4, t9, t11, elj.1, elj.2, v1, f1, catV_to, hw, go_sem, reduceIte, Nat.reduceEqDiff, Nat.reduceAdd, Nat.reduceMul, Nat.reduceLT, Nat.reduceLeDiff, reduceCtorEq, ne_eq, Int.reduceEq, Int.reduceLT, Int.reduceLE, Int.reduceNeg, Int.reduceToNat]
      exact ⟨hj1, by rw [take_snocD (d := 0) hj1, List.append_assoc]⟩
    · have hjn : j = g1.ms.length := by omega
      subst hjn
      rw [List.take_length] at t4
      have v1 := var1 (X := X) (h := h') (n := g1.z) (by omega) (by omega)
      have f1 := fitV (l := B ++ g1.ms) (m := [g1.z]) (by rw [List.length_append]; simp; omega)
      simp only [l1, l10, t4, t9, v1, f1, catV_to, hw, go_sem, reduceIte, Nat.reduceEqDiff, Nat.reduceAdd, Nat.reduceMul, Nat.reduceLT, Nat.reduceLeDiff, reduceCtorEq, ne_eq, Int.reduceEq, Int.reduceLT, Int.reduceLE, Int.reduceNeg, Int.reduceToNat]
      exact ⟨hi1, by rw [sn, hB, hL]; simp⟩
  · have hin : i = gs.length := by omega
    subst hin
    rw [List.take_length] at t4
    simp only [t4, go_sem, reduceIte, Nat.reduceEqDiff, Nat.reduceAdd, Nat.reduceMul, Nat.reduceLT, Nat.reduceLeDiff, reduceCtorEq, ne_eq, Int.reduceEq, Int.reduceLT, Int.reduceLE, Int.reduceNeg, Int.reduceToNat]
    have e : A4 ++ numsG gs = certN size es m ys gs := by
      rw [hA4, hA3, hA2, hA1, hA]
      simp [certN]
    rw [e]
    rfl
end
end Go.Proofs.Ytioogligololoaa.Ab
