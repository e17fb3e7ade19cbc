/- Marks in groups, proofs and certificates. No conditions. -/
import Derived.Test.YtioogligololoaaH8
import Derived.Test.YtioogligololoaaR9
set_option linter.unusedSimpArgs false
set_option linter.unusedVariables false
set_option linter.unnecessarySimpa false
set_option maxHeartbeats 4000000
namespace Go.Proofs.Ytioogligololoaa.Ab
open Go.RowKit

/-- Marks in groups. -/
def mkG (k : Nat) : List Gp → List Gp
  | [] => []
  | g :: gs => ⟨(List.range g.ms.length).map fun j => ((k + j : Nat) : Int), ((k + g.ms.length : Nat) : Int)⟩ :: mkG (k + g.ms.length + 1) gs
def totG : List Gp → Nat
  | [] => 0
  | g :: gs => g.ms.length + 1 + totG gs
theorem mkG_len : ∀ {k : Nat} {gs : List Gp}, (mkG k gs).length = gs.length
  | _, [] => rfl
  | k, g :: gs => by simp [mkG, mkG_len (gs := gs)]
theorem totG_take : ∀ {gs : List Gp} {i : Nat}, i < gs.length → totG (gs.take (i + 1)) = totG (gs.take i) + (gs.getD i g0).ms.length + 1
  | [], _, h => by simp at h
  | g :: gs, 0, _ => by simp [totG]
  | g :: gs, i + 1, h => by
    have := totG_take (gs := gs) (i := i) (by simpa using h)
    simp only [List.take_succ_cons, totG, List.getD_cons_succ]
    omega
theorem totG_le : ∀ {gs : List Gp} {i : Nat}, totG (gs.take i) ≤ totG gs
  | [], i => by simp [totG]
  | g :: gs, 0 => Nat.zero_le _
  | g :: gs, i + 1 => by
    have := totG_le (gs := gs) (i := i)
    simp only [List.take_succ_cons, totG]
    omega
theorem mkG_get : ∀ {gs : List Gp} {k i : Nat}, i < gs.length → (mkG k gs).getD i g0 = ⟨(List.range (gs.getD i g0).ms.length).map fun j => ((k + totG (gs.take i) + j : Nat) : Int), ((k + totG (gs.take i) + (gs.getD i g0).ms.length : Nat) : Int)⟩
  | [], _, _, h => by simp at h
  | g :: gs, k, 0, _ => by simp [mkG, totG]
  | g :: gs, k, i + 1, h => by
    have := mkG_get (gs := gs) (k := k + g.ms.length + 1) (i := i) (by simpa using h)
    simp only [mkG, List.getD_cons_succ, this, List.take_succ_cons, totG]
    have e : k + g.ms.length + 1 + totG (gs.take i) = k + (g.ms.length + 1 + totG (gs.take i)) := by omega
    rw [e]

/-- The first are of one list, the others of another. -/
def mxG (M gs : List Gp) (i : Nat) : List Gp := M.take i ++ gs.drop i
section
variable {M gs : List Gp} {i j : Nat}
theorem mxG_len (h : M.length = gs.length) (hi : i ≤ gs.length) : (mxG M gs i).length = gs.length := by simp [mxG]; omega
theorem mxG_lt (h : M.length = gs.length) (hj : j < i) (hi : i ≤ gs.length) : (mxG M gs i).getD j g0 = M.getD j g0 := by
  unfold mxG
  rw [List.getD_eq_getElem?_getD, List.getElem?_append_left (by simp; omega), List.getElem?_take, if_pos hj, ← List.getD_eq_getElem?_getD]
theorem mxG_ge (h : M.length = gs.length) (hj : i ≤ j) (hi : i ≤ gs.length) : (mxG M gs i).getD j g0 = gs.getD j g0 := by
  unfold mxG
  have e : (M.take i).length = i := by simp; omega
  rw [List.getD_eq_getElem?_getD, List.getElem?_append_right (by omega), e, List.getElem?_drop, show i + (j - i) = j by omega, ← List.getD_eq_getElem?_getD]
theorem mxG_end (h : M.length = gs.length) : mxG M gs gs.length = M := by
  unfold mxG
  rw [List.drop_length, List.append_nil, ← h, List.take_length]
theorem gRows_set {vs : List Value} {xs bs : List Gp} (hl : xs.length = bs.length) (hi : i < xs.length) (hz : ∀ j, j < xs.length → j ≠ i → (xs.getD j g0).z = (bs.getD j g0).z) {r : List Value} (hr : r = [vs.getD i nilV, .int .i64 (bs.getD i g0).z]) : (gRows vs xs).set i r = gRows vs bs := by
  apply List.ext_getElem?
  intro j
  by_cases hj : j < xs.length
  · have h2 : j < bs.length := by omega
    by_cases hji : j = i
    · subst hji
      rw [List.getElem?_set_self (by simpa using hj), hr]
      simp [gRow, h2]
    · rw [List.getElem?_set_ne (Ne.symm hji)]
      have := hz j hj hji
      unfold gRows
      rw [List.getElem?_map, List.getElem?_map, List.getElem?_range hj, List.getElem?_range h2]
      simp only [Option.map_some, gRow]
      rw [this]
  · rw [List.getElem?_eq_none (by simp; omega), List.getElem?_eq_none (by simp; omega)]
end

section
variable {X : CallF} {h : Heap} {ev mv yv gv v : Value} {es : List E} {m : List Cp} {gs : List Gp} {ys : List Int} {size : Int}

theorem mkInt_ints' {k n : Nat} : mkRows mkInt k 1 n = ints ((List.range n).map fun j => ((k + j : Nat) : Int)) := by simp [mkRows, mkInt, ints]

theorem k_markGroupS {lo hi : Nat} (o : OwnG h lo hi y_Group v gs) (hl : gs.length ≤ 1048576) (hm : ∀ g ∈ gs, g.ms.length ≤ 1048576) {k : Nat} (hk : k ≤ 1099511627776) (ht : totG gs ≤ 1152921504606846976) :
    ∃ h', C T X n_laws_markGroupS [v, .int .i64 (k : Int)] h = some (.int .i64 ((k + totG gs : Nat) : Int), h') ∧ Same lo hi h h' ∧ OwnG h' lo hi y_Group v (mkG k gs) := by
  obtain ⟨vs, hvl, o⟩ := o.norm
  obtain ⟨M, hM⟩ : ∃ M, M = mkG k gs := ⟨_, rfl⟩
  have hML : M.length = gs.length := by rw [hM, mkG_len]
  rw [← hM]
  refine C_exH t_laws_markGroupS rfl ?_
  unfold F_laws_markGroupS
  simp only [go_sem, reduceIte, Nat.reduceEqDiff, Nat.reduceAdd, Nat.reduceMul, Nat.reduceLT, Nat.reduceLeDiff, reduceCtorEq, ne_eq, Int.reduceEq, Int.reduceLT, Int.reduceLE, Int.reduceNeg, Int.reduceToNat]
  refine w_for gs.length (fun i t loc h' => t 0 = v ∧ t 1 = .int .i64 ((k + totG (gs.take i) : Nat) : Int) ∧ t 5 = .int .i64 i ∧ Same lo hi h h' ∧ OwnGs h' lo hi y_Group v (mxG M gs i) vs)
    ⟨rfl, by simp [upd, totG], rfl, Same.refl, o⟩ ?_
  rintro i t loc h' hi' ⟨t0, t1, t5, hs, q⟩
  have hxl := mxG_len hML hi'
  have hln : lnV h' v = some (.int .i64 (gs.length : Int)) := by rw [q.out.ln]; simp [hxl]
  simp only [t0, t5, hln, go_sem, reduceIte, Nat.reduceEqDiff, Nat.reduceAdd, Nat.reduceMul, Nat.reduceLT, Nat.reduceLeDiff, reduceCtorEq, ne_eq, Int.reduceEq, Int.reduceLT, Int.reduceLE, Int.reduceNeg, Int.reduceToNat]
  refine w_open (by simp only [go_sem, reduceIte, Nat.reduceEqDiff, Nat.reduceAdd, Nat.reduceMul, Nat.reduceLT, Nat.reduceLeDiff, reduceCtorEq, ne_eq, Int.reduceEq, Int.reduceLT, Int.reduceLE, Int.reduceNeg, Int.reduceToNat]; rfl) ?_ ?_ <;> intro hc
  · have hi1 : i < gs.length := by omega
    have hw : IntKind.i64.wrap ((i : Int) + 1) = ((i + 1 : Nat) : Int) := w64 (by omega) (by omega)
    have htl := totG_le (gs := gs) (i := i)
    have htk := totG_take hi1
    have hgm := hm _ (getD_mem (d := g0) hi1)
    have hix : i < (mxG M gs i).length := by omega
    have hir : i < (gRows vs (mxG M gs i)).length := by simp; omega
    have hgi : (mxG M gs i).getD i g0 = gs.getD i g0 := mxG_ge hML (Nat.le_refl _) hi'
    obtain ⟨x, e1, e2, e3, e4, e5, e6⟩ := (show RowsG h' v (mxG M gs i) from ⟨vs, q.out.rows, fun j hj => (q.ins j hj).rows⟩).el hix
    -- the members' slice is the one that is known
    have hrow : (gRows vs (mxG M gs i))[i] = [vs.getD i nilV, .int .i64 (gs.getD i g0).z] := by
      have : (gRows vs (mxG M gs i))[i] = gRow vs (mxG M gs i) i := by simp
      rw [this]
      unfold gRow
      rw [hgi]
    have ex : ldC h' (elemP v 2 i 0) 1 = some [vs.getD i nilV] := by
      have := q.out.rows.ld (i := i) (off := 0) (n := 1) hir (by omega)
      rw [this, hrow]
      rfl
    have oi := q.ins i hix
    rw [hgi] at oi
    obtain ⟨h6, c, s, o6⟩ := k_markIntS (X := X) oi.tight (by rw [ints_len]; unfold lim; omega) (k := k + totG (gs.take i)) (by omega)
    rw [ints_len, mkInt_ints'] at o6
    rw [ints_len] at c
    have q6 := q.out.apart s (q.so i hix)
    have el6 := q6.el hir
    obtain ⟨h7, c7, s7, o7⟩ := q6.tight.st hir (k := 1) (vs := [.int .i64 ((k + totG (gs.take i) + (gs.getD i g0).ms.length * 1 : Nat) : Int)]) (by simp)
    have hw1 : IntKind.i64.wrap (((k + totG (gs.take i) + (gs.getD i g0).ms.length * 1 : Nat) : Int) + 1) = ((k + totG (gs.take (i + 1)) : Nat) : Int) := by
      rw [w64 (by omega) (by omega), htk]
      omega
    simp only [t0, t1, t5, e1, e2, ex, c, el6.1, el6.2, c7, hw, hw1, go_sem, reduceIte, Nat.reduceEqDiff, Nat.reduceAdd, Nat.reduceMul, Nat.reduceLT, Nat.reduceLeDiff, reduceCtorEq, ne_eq, Int.reduceEq, Int.reduceLT, Int.reduceLE, Int.reduceNeg, Int.reduceToNat]
    have hMi : M.getD i g0 = ⟨(List.range (gs.getD i g0).ms.length).map fun j => ((k + totG (gs.take i) + j : Nat) : Int), ((k + totG (gs.take i) + (gs.getD i g0).ms.length : Nat) : Int)⟩ := by rw [hM]; exact mkG_get hi1
    have hni : (mxG M gs (i + 1)).getD i g0 = M.getD i g0 := mxG_lt hML (by omega) (by omega)
    have hnl := mxG_len hML (show i + 1 ≤ gs.length by omega)
    have hset : (gRows vs (mxG M gs i)).set i (putAt (gRows vs (mxG M gs i))[i] 1 [.int .i64 ((k + totG (gs.take i) + (gs.getD i g0).ms.length * 1 : Nat) : Int)]) = gRows vs (mxG M gs (i + 1)) := by
      refine gRows_set (by omega) hix (fun j hj hne => ?_) ?_
      · by_cases hlt : j < i
        · rw [mxG_lt hML hlt hi', mxG_lt hML (by omega) (by omega)]
        · rw [mxG_ge hML (by omega) hi', mxG_ge hML (by omega) (by omega)]
      · rw [hrow, hni, hMi]
        simp [putAt]
    rw [hset] at o7
    refine ⟨hi1, (hs.trans (oi.wider s)).trans (q6.wider s7), q6.loose o7, fun j hj => ?_, fun j hj => q.so j (by omega), fun a b hab hb => q.si a b hab (by omega)⟩
    have hj' : j < (mxG M gs i).length := by omega
    have s7' : Same (tlo v) (thi v) h6 h7 := s7
    by_cases hji : j = i
    · subst hji
      rw [hni, hMi]
      exact (oi.loose o6).apart s7' (q.so j hj').symm
    · have oj := q.ins j hj'
      have hsame : (mxG M gs (i + 1)).getD j g0 = (mxG M gs i).getD j g0 := by
        by_cases hlt : j < i
        · rw [mxG_lt hML hlt hi', mxG_lt hML (by omega) (by omega)]
        · rw [mxG_ge hML (by omega) hi', mxG_ge hML (by omega) (by omega)]
      rw [hsame]
      have hsep : Sep (vs.getD j nilV) (vs.getD i nilV) := by
        rcases Nat.lt_or_ge j i with hlt | hge
        · exact q.si j i hlt hix
        · exact (q.si i j (by omega) hj').symm
      exact (oj.apart s hsep).apart s7' (q.so j hj').symm
  · have hil : i = gs.length := by omega
    subst hil
    rw [List.take_length] at t1
    rw [mxG_end hML] at q
    simp only [t1, finish_room hs.len, go_sem, reduceIte, Nat.reduceEqDiff, Nat.reduceAdd, Nat.reduceMul, Nat.reduceLT, Nat.reduceLeDiff, reduceCtorEq, ne_eq, Int.reduceEq, Int.reduceLT, Int.reduceLE, Int.reduceNeg, Int.reduceToNat]
    exact ⟨hs, vs, q⟩

theorem k_heldGroupS {k : Nat} (ha : RowsG h v (mkG k gs)) (hl : gs.length ≤ 1048576) (hm : ∀ g ∈ gs, g.ms.length ≤ 1048576) (hk : k ≤ 1099511627776) (ht : totG gs ≤ 1152921504606846976) : C T X n_laws_heldGroupS [v, .int .i64 (k : Int)] h = some (.int .i64 ((k + totG gs : Nat) : Int), h) := by
  refine C_go t_laws_heldGroupS rfl ?_
  unfold F_laws_heldGroupS
  have hln := ha.ln
  rw [mkG_len] at hln
  simp only [go_sem, reduceIte, Nat.reduceEqDiff, Nat.reduceAdd, Nat.reduceMul, Nat.reduceLT, Nat.reduceLeDiff, reduceCtorEq, ne_eq, Int.reduceEq, Int.reduceLT, Int.reduceLE, Int.reduceNeg, Int.reduceToNat]
  refine w_for gs.length (fun i t loc h' => h' = h ∧ t 0 = v ∧ t 1 = .int .i64 ((k + totG (gs.take i) : Nat) : Int) ∧ t 5 = .int .i64 i) ⟨rfl, rfl, by simp [upd, totG], rfl⟩ ?_
  rintro i t loc h' hi ⟨rfl, t0, t1, t5⟩
  have hle := totG_le (gs := gs) (i := i)
  simp only [t0, t5, hln, go_sem, reduceIte, Nat.reduceEqDiff, Nat.reduceAdd, Nat.reduceMul, Nat.reduceLT, Nat.reduceLeDiff, reduceCtorEq, ne_eq, Int.reduceEq, Int.reduceLT, Int.reduceLE, Int.reduceNeg, Int.reduceToNat]
  refine w_open (by simp only [go_sem, reduceIte, Nat.reduceEqDiff, Nat.reduceAdd, Nat.reduceMul, Nat.reduceLT, Nat.reduceLeDiff, reduceCtorEq, ne_eq, Int.reduceEq, Int.reduceLT, Int.reduceLE, Int.reduceNeg, Int.reduceToNat]; rfl) ?_ ?_ <;> intro hc
  · have hi1 : i < gs.length := by omega
    have hw : IntKind.i64.wrap ((i : Int) + 1) = ((i + 1 : Nat) : Int) := w64 (by omega) (by omega)
    obtain ⟨x, e1, e2, e3, e4, e5, e6⟩ := ha.el (i := i) (by rw [mkG_len]; exact hi1)
    rw [mkG_get hi1] at e5 e6
    rw [← mkInt_ints'] at e6
    have hgm := hm _ (getD_mem (d := g0) hi1)
    have c := k_heldIntS (X := X) e6 (by unfold lim; omega) (by omega)
    have htk := totG_take hi1
    have hneg : ¬ (((k + totG (gs.take i) + (gs.getD i g0).ms.length * 1 : Nat) : Int) < 0) := by omega
    rw [Nat.mul_one] at c hneg
    have hw1 : IntKind.i64.wrap (((k + totG (gs.take i) + (gs.getD i g0).ms.length : Nat) : Int) + 1) = ((k + totG (gs.take (i + 1)) : Nat) : Int) := by
      rw [w64 (by omega) (by omega), htk]
      omega
    simp only [t0, t1, t5, e1, e2, e4, e5, c, hneg, hw, hw1, go_sem, reduceIte, Nat.reduceEqDiff, Nat.reduceAdd, Nat.reduceMul, Nat.reduceLT, Nat.reduceLeDiff, reduceCtorEq, ne_eq, Int.reduceEq, Int.reduceLT, Int.reduceLE, Int.reduceNeg, Int.reduceToNat]
    exact hi1
  · have hil : i = gs.length := by omega
    subst hil
    rw [List.take_length] at t1
    simp only [t1, go_sem, reduceIte, Nat.reduceEqDiff, Nat.reduceAdd, Nat.reduceMul, Nat.reduceLT, Nat.reduceLeDiff, reduceCtorEq, ne_eq, Int.reduceEq, Int.reduceLT, Int.reduceLE, Int.reduceNeg, Int.reduceToNat]

/-- All marks of a certificate. -/
def certM (es : List E) (m : List Cp) (ys : List Int) (gs : List Gp) : Nat := es.length * 5 + m.length * 2 + ys.length + totG gs
/-- The marks are there. -/
def CertHeld (h : Heap) (ev mv yv gv : Value) (es : List E) (m : List Cp) (ys : List Int) (gs : List Gp) : Prop :=
  Rows h 5 ev (mkRows mkEdge 1 5 es.length) ∧ Rows h 2 mv (mkRows mkCouple (1 + es.length * 5) 2 m.length) ∧ Rows h 1 yv (mkRows mkInt (1 + es.length * 5 + m.length * 2) 1 ys.length) ∧ RowsG h gv (mkG (1 + es.length * 5 + m.length * 2 + ys.length * 1) gs)
theorem CertHeld.up {h' : Heap} (a : CertHeld h ev mv yv gv es m ys gs) (hp : h <+: h') : CertHeld h' ev mv yv gv es m ys gs := ⟨a.1.up hp, a.2.1.up hp, a.2.2.1.up hp, a.2.2.2.up hp⟩

/-- Every bound that the laws need. -/
def CertBnd (es : List E) (m : List Cp) (ys : List Int) (gs : List Gp) : Prop := es.length ≤ 1048576 ∧ m.length ≤ 1048576 ∧ PfBnd ys gs ∧ totG gs ≤ 1152921504606846976
theorem k_markCert {i1 i2 i3 i4 i5 : Nat} (oe : Own h i1 i2 5 y_Edge ev (edges es)) (om : Own h i2 i3 2 y_Couple mv (cps m)) (oy : Own h i3 i4 1 y_int yv (ints ys)) (og : OwnG h i4 i5 y_Group gv gs) (hi : i1 ≤ i2 ∧ i2 ≤ i3 ∧ i3 ≤ i4 ∧ i4 ≤ i5) (hb : CertBnd es m ys gs) :
    ∃ h', C T X n_laws_markCert [certV size ev mv yv gv, .int .i64 1] h = some (.int .i64 ((1 + certM es m ys gs : Nat) : Int), h') ∧ Same i1 i5 h h' ∧ CertHeld h' ev mv yv gv es m ys gs := by
  obtain ⟨b1, b2, b3, b4⟩ := hb
  obtain ⟨h1, c1, s1, q1⟩ := k_markEdgeS (X := X) oe (by simp; unfold lim; omega) (k := 1) (by omega)
  have om1 := om.same s1 (.inr (Nat.le_refl _))
  have oy1 := oy.same s1 (.inr (by omega))
  have og1 := og.same s1 (.inr (by omega))
  obtain ⟨h2, c2, s2, q2⟩ := k_markCoupleS (X := X) om1 (by simp; unfold lim; omega) (k := 1 + es.length * 5) (by omega)
  have oe2 := q1.same s2 (.inl (Nat.le_refl _))
  have oy2 := oy1.same s2 (.inr (Nat.le_refl _))
  have og2 := og1.same s2 (.inr (by omega))
  obtain ⟨h3, c3, s3, q3⟩ := k_markIntS (X := X) oy2 (by rw [ints_len]; have := b3.1; unfold lim; omega) (k := 1 + es.length * 5 + m.length * 2) (by omega)
  have oe3 := oe2.same s3 (.inl (by omega))
  have om3 := q2.same s3 (.inl (Nat.le_refl _))
  have og3 := og2.same s3 (.inr (Nat.le_refl _))
  obtain ⟨h4, c4, s4, q4⟩ := k_markGroupS (X := X) og3 b3.2.1 b3.2.2 (k := 1 + es.length * 5 + m.length * 2 + ys.length * 1) (by have := b3.1; omega) b4
  have oe4 := oe3.same s4 (.inl (by omega))
  have om4 := om3.same s4 (.inl (by omega))
  have oy4 := q3.same s4 (.inl (Nat.le_refl _))
  rw [List.length_map] at c1 oe4 c2 om4
  rw [ints_len] at c3 oy4
  have g1 : C T X n_laws_markGraph [graphV size ev, .int .i64 1] h = some (.int .i64 ((1 + es.length * 5 : Nat) : Int), h1) := by
    refine C_go t_laws_markGraph rfl ?_
    unfold F_laws_markGraph graphV
    have : ((1 : Nat) : Int) = 1 := rfl
    rw [this] at c1
    simp only [c1, finish_room s1.len, go_sem, reduceIte, Nat.reduceEqDiff, Nat.reduceAdd, Nat.reduceMul, Nat.reduceLT, Nat.reduceLeDiff, reduceCtorEq, ne_eq, Int.reduceEq, Int.reduceLT, Int.reduceLE, Int.reduceNeg, Int.reduceToNat]
  have g3 : C T X n_laws_markProof [proofV yv gv, .int .i64 ((1 + es.length * 5 + m.length * 2 : Nat) : Int)] h2 = some (.int .i64 ((1 + es.length * 5 + m.length * 2 + ys.length * 1 + totG gs : Nat) : Int), h4) := by
    refine C_go t_laws_markProof rfl ?_
    unfold F_laws_markProof proofV
    simp only [c3, c4, finish_room (s3.len ▸ s4.len : h4.length = h2.length), go_sem, reduceIte, Nat.reduceEqDiff, Nat.reduceAdd, Nat.reduceMul, Nat.reduceLT, Nat.reduceLeDiff, reduceCtorEq, ne_eq, Int.reduceEq, Int.reduceLT, Int.reduceLE, Int.reduceNeg, Int.reduceToNat]
  refine ⟨h4, C_go t_laws_markCert rfl ?_, ?_, ⟨oe4.rows, om4.rows, oy4.rows, q4.rows⟩⟩
  · unfold F_laws_markCert certV
    unfold graphV at g1
    unfold proofV at g3
    have hl : h4.length = h.length := by rw [s4.len, s3.len, s2.len, s1.len]
    have e : 1 + certM es m ys gs = 1 + es.length * 5 + m.length * 2 + ys.length * 1 + totG gs := by unfold certM; omega
    rw [e]
    simp only [g1, c2, g3, finish_room hl, go_sem, reduceIte, Nat.reduceEqDiff, Nat.reduceAdd, Nat.reduceMul, Nat.reduceLT, Nat.reduceLeDiff, reduceCtorEq, ne_eq, Int.reduceEq, Int.reduceLT, Int.reduceLE, Int.reduceNeg, Int.reduceToNat]
  · exact (((s1.wide (Nat.le_refl _) (by omega)).trans (s2.wide (by omega) (by omega))).trans (s3.wide (by omega) (by omega))).trans (s4.wide (by omega) (Nat.le_refl _))
theorem k_heldCert (a : CertHeld h ev mv yv gv es m ys gs) (hb : CertBnd es m ys gs) : C T X n_laws_heldCert [certV size ev mv yv gv, .int .i64 1] h = some (.int .i64 ((1 + certM es m ys gs : Nat) : Int), h) := by
  obtain ⟨b1, b2, b3, b4⟩ := hb
  obtain ⟨a1, a2, a3, a4⟩ := a
  have b31 := b3.1
  have c1 := k_heldEdgeS (X := X) a1 (by unfold lim; omega) (by omega)
  have c2 := k_heldCoupleS (X := X) a2 (by unfold lim; omega) (by omega)
  have c3 := k_heldIntS (X := X) a3 (by unfold lim; omega) (by omega)
  have c4 := k_heldGroupS (X := X) a4 b3.2.1 b3.2.2 (by omega) b4
  have n1 : ¬ ((1 + es.length * 5 : Nat) : Int) < 0 := by omega
  have n2 : ¬ ((1 + es.length * 5 + m.length * 2 : Nat) : Int) < 0 := by omega
  have n3 : ¬ ((1 + es.length * 5 + m.length * 2 + ys.length * 1 : Nat) : Int) < 0 := by omega
  have n4 : ¬ ((1 + es.length * 5 + m.length * 2 + ys.length * 1 + totG gs : Nat) : Int) < 0 := by omega
  have z : ((1 : Nat) : Int) = 1 := rfl
  rw [z] at c1
  have g1 : C T X n_laws_heldGraph [graphV size ev, .int .i64 1] h = some (.int .i64 ((1 + es.length * 5 : Nat) : Int), h) := by
    refine C_go t_laws_heldGraph rfl ?_
    unfold F_laws_heldGraph graphV
    simp only [c1, n1, go_sem, reduceIte, Nat.reduceEqDiff, Nat.reduceAdd, Nat.reduceMul, Nat.reduceLT, Nat.reduceLeDiff, reduceCtorEq, ne_eq, Int.reduceEq, Int.reduceLT, Int.reduceLE, Int.reduceNeg, Int.reduceToNat]
  have g3 : C T X n_laws_heldProof [proofV yv gv, .int .i64 ((1 + es.length * 5 + m.length * 2 : Nat) : Int)] h = some (.int .i64 ((1 + es.length * 5 + m.length * 2 + ys.length * 1 + totG gs : Nat) : Int), h) := by
    refine C_go t_laws_heldProof rfl ?_
    unfold F_laws_heldProof proofV
    simp only [c3, n3, c4, n4, go_sem, reduceIte, Nat.reduceEqDiff, Nat.reduceAdd, Nat.reduceMul, Nat.reduceLT, Nat.reduceLeDiff, reduceCtorEq, ne_eq, Int.reduceEq, Int.reduceLT, Int.reduceLE, Int.reduceNeg, Int.reduceToNat]
  refine C_go t_laws_heldCert rfl ?_
  unfold F_laws_heldCert certV
  unfold graphV at g1
  unfold proofV at g3
  have e : 1 + certM es m ys gs = 1 + es.length * 5 + m.length * 2 + ys.length * 1 + totG gs := by unfold certM; omega
  rw [e]
  simp only [g1, n1, c2, n2, g3, n4, go_sem, reduceIte, Nat.reduceEqDiff, Nat.reduceAdd, Nat.reduceMul, Nat.reduceLT, Nat.reduceLeDiff, reduceCtorEq, ne_eq, Int.reduceEq, Int.reduceLT, Int.reduceLE, Int.reduceNeg, Int.reduceToNat]
end
end Go.Proofs.Ytioogligololoaa.Ab
