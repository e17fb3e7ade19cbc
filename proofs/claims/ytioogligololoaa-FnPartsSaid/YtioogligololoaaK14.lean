/- Contracts: the parts of a graph, by the program. No conditions. -/
import Derived.Test.YtioogligololoaaP1
import Derived.Test.YtioogligololoaaR6
set_option linter.unusedSimpArgs false
set_option linter.unusedVariables false
set_option linter.unnecessarySimpa false
set_option maxHeartbeats 4000000
namespace Go.Proofs.Ytioogligololoaa.Ab
open Go.RowKit

theorem ints_set {l : List Int} {i : Nat} {n : Int} : (ints l).set i [.int .i64 n] = ints (l.set i n) := by simp [ints, List.map_set]
theorem getD_set {l : List Int} {i j : Nat} {n : Int} (hi : i < l.length) : (l.set i n).getD j 0 = if j = i then n else l.getD j 0 := by
  by_cases e : j = i
  · subst e; simp [hi]
  · rw [if_neg e]; simp [List.getElem?_set_ne (Ne.symm e)]
theorem mmx {x y : Int} : (if x < y then y else x) = max x y := by rw [Int.max_def]; split <;> split <;> omega
theorem mmn {x y : Int} : (if y < x then y else x) = min x y := by rw [Int.min_def]; split <;> split <;> omega
/-- One number of one's own list is written. -/
theorem Own.sti {h : Heap} {lo hi : Nat} {ty : TypeId} {v : Value} {l : List Int} (o : Own h lo hi 1 ty v (ints l)) {i : Nat} (hi' : i < l.length) (n : Int) :
    ∃ h', stC h (elemP v 1 i 0) [.int .i64 n] = some h' ∧ Same lo hi h h' ∧ Own h' lo hi 1 ty v (ints (l.set i n)) := by
  obtain ⟨h', h1, h2, h3⟩ := o.st (i := i) (by rw [ints_len]; exact hi') (k := 0) (vs := [.int .i64 n]) (Nat.le_refl _)
  refine ⟨h', h1, h2, ?_⟩
  have hil : i < (ints l).length := by rw [ints_len]; exact hi'
  have : putAt ((ints l)[i]'hil) 0 [.int .i64 n] = [.int .i64 n] := by rw [ints_get]; rfl
  rw [this, ints_set] at h3
  exact h3

section
variable {X : CallF} {h : Heap} {ev ov : Value} {es : List E} {out : List Int} {size : Int}

theorem k_impl_pieces (he : Rows h 5 ev (edges es)) (hout : Rows h 1 ov (ints out)) (hl : es.length ≤ lim) (hol : out.length ≤ lim) (hs : 0 ≤ size ∧ size ≤ 9) (hE : ∀ e ∈ es, EOk size e) :
    ∃ v hh, C T X n_impl_pieces [.int .i64 size, ev, ov] h = some (v, hh) ∧ h <+: hh ∧ OwnLL hh h.length hh.length y_ints y_int v (comps es out size.toNat) := by
  have hll := hl
  unfold lim at hll
  obtain ⟨n, rfl⟩ := Int.eq_ofNat_of_zero_le hs.1
  have hn : n ≤ 9 := by omega
  simp only [Int.toNat_natCast]
  refine C_ex t_impl_pieces rfl ?_
  unfold F_impl_pieces
  obtain ⟨lab, hlab⟩ : ∃ lab : Value, lab = .slice (some ⟨h.length, 0, none⟩) n n := ⟨_, rfl⟩
  have hlen : (ints (upTo n)).length = n := by rw [ints_len, upTo_len]
  simp only [mkW_ok (show n ≤ lim by unfold lim; omega), ← hlab, go_sem, reduceIte, Nat.reduceEqDiff, Nat.reduceAdd, Nat.reduceMul, Nat.reduceLT, Nat.reduceLeDiff, reduceCtorEq, ne_eq, Int.reduceEq, Int.reduceLT, Int.reduceLE, Int.reduceNeg, Int.reduceToNat]
  have ln0 : ∀ i, i ≤ n → lnV (h ++ [⟨fillC [.int .i64 0] (ints (upTo n)) n i, 1, y_int, true⟩]) lab = some (.int .i64 n) := by
    intro i hi
    have hf := fill_len (z := [.int .i64 0]) (rows := ints (upTo n)) (n := n) ints_row rfl hlen hi
    rw [hlab]
    simp only [lnV, at_block, hf]
    rw [if_pos (by omega)]
  have ln1 := ln0 0 (Nat.zero_le _)
  rw [← fill_start] at ln1
  simp only [ln1, go_sem, reduceIte, Nat.reduceEqDiff, Nat.reduceAdd, Nat.reduceMul, Nat.reduceLT, Nat.reduceLeDiff, reduceCtorEq, ne_eq, Int.reduceEq, Int.reduceLT, Int.reduceLE, Int.reduceNeg, Int.reduceToNat]
  rw [fill_start (rows := ints (upTo n))]
  refine w_for n (fun i t loc h' => h' = h ++ [⟨fillC [.int .i64 0] (ints (upTo n)) n i, 1, y_int, true⟩] ∧ t 0 = .int .i64 n ∧ t 1 = ev ∧ t 2 = ov ∧ t 7 = lab ∧ t 21 = .int .i64 n ∧ t 22 = .int .i64 i) ⟨rfl, rfl, rfl, rfl, rfl, rfl, rfl⟩ ?_
  rintro i t loc h' hi ⟨rfl, t0, t1, t2, t7, t21, t22⟩
  simp only [t21, t22, go_sem, reduceIte, Nat.reduceEqDiff, Nat.reduceAdd, Nat.reduceMul, Nat.reduceLT, Nat.reduceLeDiff, reduceCtorEq, ne_eq, Int.reduceEq, Int.reduceLT, Int.reduceLE, Int.reduceNeg, Int.reduceToNat]
  refine w_open (by simp only [go_sem, reduceIte, Nat.reduceEqDiff, Nat.reduceAdd, Nat.reduceMul, Nat.reduceLT, Nat.reduceLeDiff, reduceCtorEq, ne_eq, Int.reduceEq, Int.reduceLT, Int.reduceLE, Int.reduceNeg, Int.reduceToNat]; rfl) ?_ ?_ <;> intro hc
  · have hi1 : i < n := by omega
    have hw : IntKind.i64.wrap ((i : Int) + 1) = ((i + 1 : Nat) : Int) := w64 (by omega) (by omega)
    have hi2 : i < (ints (upTo n)).length := by omega
    have hst := fill_st (h := h) (ext := []) (z := [.int .i64 0]) (ty := y_int) ints_row rfl hlen hi2
    have hia := fill_ia (h := h) (ext := []) (z := [.int .i64 0]) (rows := ints (upTo n)) (ty := y_int) ints_row rfl hlen (i := i) (by omega) (k := .i64) (j := (i : Int)) (by omega) (by omega)
    have hgt : (ints (upTo n))[i] = [.int .i64 (i : Int)] := by rw [ints_get]; simp [upTo]
    rw [hgt, ← hlab] at hst
    rw [Int.toNat_natCast, ← hlab] at hia
    simp only [t0, t1, t2, t7, t21, t22, hia, hst, hw, go_sem, reduceIte, Nat.reduceEqDiff, Nat.reduceAdd, Nat.reduceMul, Nat.reduceLT, Nat.reduceLeDiff, reduceCtorEq, ne_eq, Int.reduceEq, Int.reduceLT, Int.reduceLE, Int.reduceNeg, Int.reduceToNat]
    exact hi1
  -- the labels as they are
  have hin : i = n := by omega
  subst hin
  clear ln1
  rw [fill_end hlen]
  obtain ⟨h1, hh1⟩ : ∃ h1, h1 = h ++ [⟨(ints (upTo i)).flatten, 1, y_int, true⟩] := ⟨_, rfl⟩
  have p1 : h <+: h1 := by rw [hh1]; exact List.prefix_append _ _
  have l1 : h1.length = h.length + 1 := by rw [hh1]; simp
  have o1 : Own h1 h.length (h.length + 1) 1 y_int lab (ints (upTo i)) := by
    have := Own.made (h := h) (ty := y_int) (ints_row (l := upTo i))
    rw [hlen] at this
    rw [hh1, hlab]
    exact this
  rw [← hh1]
  simp only [t0, t1, t2, t7, he.up p1 |>.lnm, go_sem, reduceIte, Nat.reduceEqDiff, Nat.reduceAdd, Nat.reduceMul, Nat.reduceLT, Nat.reduceLeDiff, reduceCtorEq, ne_eq, Int.reduceEq, Int.reduceLT, Int.reduceLE, Int.reduceNeg, Int.reduceToNat]
  refine w_for es.length (fun k t loc h' => t 0 = .int .i64 i ∧ t 2 = ov ∧ t 7 = lab ∧ t 30 = ev ∧ t 31 = .int .i64 es.length ∧ t 32 = .int .i64 k ∧ h <+: h' ∧ h'.length = h1.length ∧ ∃ L, LabOk (es.take k) out i L ∧ Own h' h.length (h.length + 1) 1 y_int lab (ints L)) ⟨rfl, rfl, rfl, rfl, rfl, rfl, p1, rfl, _, lab_start, o1⟩ ?_
  rintro k t loc h' hk ⟨t0, t2, t7, t30, t31, t32, hp, hl', L, hL, o⟩
  simp only [t31, t32, go_sem, reduceIte, Nat.reduceEqDiff, Nat.reduceAdd, Nat.reduceMul, Nat.reduceLT, Nat.reduceLeDiff, reduceCtorEq, ne_eq, Int.reduceEq, Int.reduceLT, Int.reduceLE, Int.reduceNeg, Int.reduceToNat]
  refine w_open (by simp only [go_sem, reduceIte, Nat.reduceEqDiff, Nat.reduceAdd, Nat.reduceMul, Nat.reduceLT, Nat.reduceLeDiff, reduceCtorEq, ne_eq, Int.reduceEq, Int.reduceLT, Int.reduceLE, Int.reduceNeg, Int.reduceToNat]; rfl) ?_ ?_ <;> intro hc
  · have hk1 : k < es.length := by omega
    have hw : IntKind.i64.wrap ((k : Int) + 1) = ((k + 1 : Nat) : Int) := w64 (by omega) (by omega)
    have hel := edge_el (he.up hp) hk1
    have hEk := hE _ (getD_mem (d := e0) hk1)
    obtain ⟨e, hee⟩ : ∃ e, e = es.getD k e0 := ⟨_, rfl⟩
    rw [← hee] at hel hEk
    unfold EOk at hEk
    obtain ⟨a, haa⟩ := Int.eq_ofNat_of_zero_le hEk.1
    obtain ⟨b, hbb⟩ := Int.eq_ofNat_of_zero_le (show 0 ≤ e.b by omega)
    have ha' : a < i := by omega
    have hb' : b < i := by omega
    have ela := int_el o.rows (i := a) (by rw [hL.len]; exact ha')
    have elb := int_el o.rows (i := b) (by rw [hL.len]; exact hb')
    rw [← haa] at ela
    rw [← hbb] at elb
    have ca := k_impl_hasInt (X := X) (n := e.a) (hout.up hp) hol
    have cb := k_impl_hasInt (X := X) (n := e.b) (hout.up hp) hol
    have htk : es.take (k + 1) = es.take k ++ [e] := by rw [take_getD (d := e0) hk1, hee]
    by_cases hsk : (e.a ∈ out ∨ e.b ∈ out) ∨ L.getD a 0 = L.getD b 0
    · have hnx : LabOk (es.take k ++ [e]) out i L := lab_skip hL (by
        rcases hsk with (h | h) | h
        · exact .inl h
        · exact .inr (.inl h)
        · exact .inr (.inr (by rw [haa, hbb]; exact (hL.same a b ha' hb').1 h)))
      rw [← htk] at hnx
      by_cases s1 : e.a ∈ out
      · simp only [t0, t2, t7, t30, t31, t32, hel.1, hel.2.2.1, ela.1, ela.2, elb.1, elb.2, ca, s1, hw, List.prefix_refl, go_sem, reduceIte, Nat.reduceEqDiff, Nat.reduceAdd, Nat.reduceMul, Nat.reduceLT, Nat.reduceLeDiff, reduceCtorEq, ne_eq, Int.reduceEq, Int.reduceLT, Int.reduceLE, Int.reduceNeg, Int.reduceToNat]
        exact ⟨hk1, hp, hl', L, hnx, o⟩
      by_cases s2 : e.b ∈ out
      · simp only [t0, t2, t7, t30, t31, t32, hel.1, hel.2.2.1, ela.1, ela.2, elb.1, elb.2, ca, cb, s1, s2, hw, List.prefix_refl, go_sem, reduceIte, Nat.reduceEqDiff, Nat.reduceAdd, Nat.reduceMul, Nat.reduceLT, Nat.reduceLeDiff, reduceCtorEq, ne_eq, Int.reduceEq, Int.reduceLT, Int.reduceLE, Int.reduceNeg, Int.reduceToNat]
        exact ⟨hk1, hp, hl', L, hnx, o⟩
      have s3 : L.getD a 0 = L.getD b 0 := by rcases hsk with (h | h) | h; exact absurd h s1; exact absurd h s2; exact h
      simp only [t0, t2, t7, t30, t31, t32, hel.1, hel.2.2.1, ela.1, ela.2, elb.1, elb.2, ca, cb, s1, s2, s3, hw, List.prefix_refl, go_sem, reduceIte, Nat.reduceEqDiff, Nat.reduceAdd, Nat.reduceMul, Nat.reduceLT, Nat.reduceLeDiff, reduceCtorEq, ne_eq, Int.reduceEq, Int.reduceLT, Int.reduceLE, Int.reduceNeg, Int.reduceToNat]
      exact ⟨hk1, hp, hl', L, hnx, o⟩
    · have s1 : ¬ e.a ∈ out := fun h => hsk (.inl (.inl h))
      have s2 : ¬ e.b ∈ out := fun h => hsk (.inl (.inr h))
      have s3 : ¬ L.getD a 0 = L.getD b 0 := fun h => hsk (.inr h)
      simp only [t0, t2, t7, t30, t31, t32, hel.1, hel.2.2.1, ela.1, ela.2, elb.1, elb.2, ca, cb, s1, s2, s3, List.prefix_refl, ints_ln o.rows, go_sem, reduceIte, Nat.reduceEqDiff, Nat.reduceAdd, Nat.reduceMul, Nat.reduceLT, Nat.reduceLeDiff, reduceCtorEq, ne_eq, Int.reduceEq, Int.reduceLT, Int.reduceLE, Int.reduceNeg, Int.reduceToNat]
      refine w_for i (fun j t loc h' => t 0 = .int .i64 i ∧ t 2 = ov ∧ t 7 = lab ∧ t 11 = .int .i64 (L.getD a 0) ∧ t 12 = .int .i64 (L.getD b 0) ∧ t 30 = ev ∧ t 31 = .int .i64 es.length ∧ t 32 = .int .i64 k ∧ t 62 = .int .i64 i ∧ t 63 = .int .i64 j ∧ h <+: h' ∧ h'.length = h1.length ∧
        ∃ M, M.length = i ∧ (∀ u : Nat, u < i → M.getD u 0 = if u < j then (if L.getD u 0 = max (L.getD a 0) (L.getD b 0) then min (L.getD a 0) (L.getD b 0) else L.getD u 0) else L.getD u 0) ∧ Own h' h.length (h.length + 1) 1 y_int lab (ints M))
        ⟨rfl, rfl, rfl, rfl, rfl, rfl, rfl, rfl, by rw [← hL.len]; rfl, rfl, hp, hl', L, hL.len, fun u hu => by simp, o⟩ ?_
      rintro j t loc h' hj ⟨t0, t2, t7, t11, t12, t30, t31, t32, t62, t63, hp, hl', M, hM, hMv, o⟩
      simp only [t62, t63, go_sem, reduceIte, Nat.reduceEqDiff, Nat.reduceAdd, Nat.reduceMul, Nat.reduceLT, Nat.reduceLeDiff, reduceCtorEq, ne_eq, Int.reduceEq, Int.reduceLT, Int.reduceLE, Int.reduceNeg, Int.reduceToNat]
      refine w_open (by simp only [go_sem, reduceIte, Nat.reduceEqDiff, Nat.reduceAdd, Nat.reduceMul, Nat.reduceLT, Nat.reduceLeDiff, reduceCtorEq, ne_eq, Int.reduceEq, Int.reduceLT, Int.reduceLE, Int.reduceNeg, Int.reduceToNat]; rfl) ?_ ?_ <;> intro hc
      · have hj1 : j < i := by omega
        have hw2 : IntKind.i64.wrap ((j : Int) + 1) = ((j + 1 : Nat) : Int) := w64 (by omega) (by omega)
        have elj := int_el o.rows (i := j) (by omega)
        have hMj := hMv j hj1
        rw [if_neg (Nat.lt_irrefl _)] at hMj
        by_cases hmx : L.getD j 0 = max (L.getD a 0) (L.getD b 0)
        · obtain ⟨h2, c2, q2, o2⟩ := o.sti (i := j) (by omega) (min (L.getD a 0) (L.getD b 0))
          simp only [t0, t2, t7, t11, t12, t30, t31, t32, t62, t63, elj.1, elj.2, hMj, mmx, mmn, hmx, c2, hw2, go_sem, reduceIte, Nat.reduceEqDiff, Nat.reduceAdd, Nat.reduceMul, Nat.reduceLT, Nat.reduceLeDiff, reduceCtorEq, ne_eq, Int.reduceEq, Int.reduceLT, Int.reduceLE, Int.reduceNeg, Int.reduceToNat]
          refine ⟨hj1, q2.pre hp (Nat.le_refl _), by rw [q2.len, hl'], _, by simpa using hM, fun u hu => ?_, o2⟩
          rw [getD_set (by omega)]
          by_cases e1 : u = j
          · subst e1; rw [if_pos rfl, if_pos (show u < u + 1 by omega), if_pos hmx]
          · rw [if_neg e1, hMv u hu]
            by_cases e2 : u < j
            · rw [if_pos e2, if_pos (show u < j + 1 by omega)]
            · rw [if_neg e2, if_neg (show ¬ u < j + 1 by omega)]
        · simp only [t0, t2, t7, t11, t12, t30, t31, t32, t62, t63, elj.1, elj.2, hMj, mmx, hmx, hw2, go_sem, reduceIte, Nat.reduceEqDiff, Nat.reduceAdd, Nat.reduceMul, Nat.reduceLT, Nat.reduceLeDiff, reduceCtorEq, ne_eq, Int.reduceEq, Int.reduceLT, Int.reduceLE, Int.reduceNeg, Int.reduceToNat]
          refine ⟨hj1, hp, hl', _, hM, fun u hu => ?_, o⟩
          rw [hMv u hu]
          by_cases e1 : u = j
          · subst e1; rw [if_neg (Nat.lt_irrefl _), if_pos (show u < u + 1 by omega), if_neg hmx]
          · by_cases e2 : u < j
            · rw [if_pos e2, if_pos (show u < j + 1 by omega)]
            · rw [if_neg e2, if_neg (show ¬ u < j + 1 by omega)]
      · have hji : j = i := by omega
        subst hji
        simp only [t0, t2, t7, t30, t31, t32, hw, go_sem, reduceIte, Nat.reduceEqDiff, Nat.reduceAdd, Nat.reduceMul, Nat.reduceLT, Nat.reduceLeDiff, reduceCtorEq, ne_eq, Int.reduceEq, Int.reduceLT, Int.reduceLE, Int.reduceNeg, Int.reduceToNat]
        refine ⟨hk1, hp, hl', M, ?_, o⟩
        rw [htk]
        exact lab_join hL haa hbb s1 s2 ha' hb' hM fun u hu => by rw [hMv u hu, if_pos hu]
  -- what hangs together is told
  have hke : k = es.length := by omega
  subst hke
  rw [List.take_length] at hL
  simp only [t0, t2, t7, go_sem, reduceIte, Nat.reduceEqDiff, Nat.reduceAdd, Nat.reduceMul, Nat.reduceLT, Nat.reduceLeDiff, reduceCtorEq, ne_eq, Int.reduceEq, Int.reduceLT, Int.reduceLE, Int.reduceNeg, Int.reduceToNat]
  obtain ⟨h2, hh2⟩ : ∃ h2, h2 = h' := ⟨_, rfl⟩
  have p2 := hp
  have l2 := hl'
  rw [← hh2] at p2 l2 o ⊢
  refine w_for i (fun v t loc h' => t 0 = .int .i64 i ∧ t 2 = ov ∧ t 7 = lab ∧ t 82 = .int .i64 i ∧ t 83 = .int .i64 v ∧ h <+: h' ∧ h2.length ≤ h'.length ∧ Own h' h.length (h.length + 1) 1 y_int lab (ints L) ∧ ∃ w, t 14 = w ∧ OwnLL h' h2.length h'.length y_ints y_int w (compsTo es out i v)) ⟨rfl, rfl, rfl, rfl, rfl, p2, Nat.le_refl _, o, _, rfl, OwnLL.nil⟩ ?_
  rintro v t loc h3 hv ⟨t0, t2, t7, t82, t83, hp, hg, o, w, t14, oo⟩
  simp only [t82, t83, go_sem, reduceIte, Nat.reduceEqDiff, Nat.reduceAdd, Nat.reduceMul, Nat.reduceLT, Nat.reduceLeDiff, reduceCtorEq, ne_eq, Int.reduceEq, Int.reduceLT, Int.reduceLE, Int.reduceNeg, Int.reduceToNat]
  refine w_open (by simp only [go_sem, reduceIte, Nat.reduceEqDiff, Nat.reduceAdd, Nat.reduceMul, Nat.reduceLT, Nat.reduceLeDiff, reduceCtorEq, ne_eq, Int.reduceEq, Int.reduceLT, Int.reduceLE, Int.reduceNeg, Int.reduceToNat]; rfl) ?_ ?_ <;> intro hc
  · have hv1 : v < i := by omega
    have hw : IntKind.i64.wrap ((v : Int) + 1) = ((v + 1 : Nat) : Int) := w64 (by omega) (by omega)
    have elv := int_el o.rows (i := v) (by rw [hL.len]; exact hv1)
    have cv := k_impl_hasInt (X := X) (n := (v : Int)) (hout.up hp) hol
    by_cases s1 : L.getD v 0 = (v : Int)
    rotate_left
    · have hnx : ¬ Head es out v := fun hd => s1 ((lab_head hL hv1 hd.1).2 hd)
      have hct := compsTo_no (n := i) hnx
      simp only [t0, t2, t7, t14, t82, t83, elv.1, elv.2, s1, hw, go_sem, reduceIte, Nat.reduceEqDiff, Nat.reduceAdd, Nat.reduceMul, Nat.reduceLT, Nat.reduceLeDiff, reduceCtorEq, ne_eq, Int.reduceEq, Int.reduceLT, Int.reduceLE, Int.reduceNeg, Int.reduceToNat]
      exact ⟨hv1, hp, hg, o, _, rfl, by rw [hct]; exact oo⟩
    by_cases s2 : (v : Int) ∈ out
    · have hnx : ¬ Head es out v := fun hd => hd.1 s2
      have hct := compsTo_no (n := i) hnx
      simp only [t0, t2, t7, t14, t82, t83, elv.1, elv.2, s1, cv, s2, hw, go_sem, reduceIte, Nat.reduceEqDiff, Nat.reduceAdd, Nat.reduceMul, Nat.reduceLT, Nat.reduceLeDiff, reduceCtorEq, ne_eq, Int.reduceEq, Int.reduceLT, Int.reduceLE, Int.reduceNeg, Int.reduceToNat]
      exact ⟨hv1, hp, hg, o, _, rfl, by rw [hct]; exact oo⟩
    have hct := compsTo_yes (n := i) ((lab_head hL hv1 s2).1 s1)
    have hcl := lab_comp hL hv1 s1
    simp only [t0, t2, t7, t14, t82, t83, elv.1, elv.2, s1, cv, s2, go_sem, reduceIte, Nat.reduceEqDiff, Nat.reduceAdd, Nat.reduceMul, Nat.reduceLT, Nat.reduceLeDiff, reduceCtorEq, ne_eq, Int.reduceEq, Int.reduceLT, Int.reduceLE, Int.reduceNeg, Int.reduceToNat]
    refine w_for i (fun j t loc h' => t 0 = .int .i64 i ∧ t 2 = ov ∧ t 7 = lab ∧ t 14 = w ∧ t 15 = .int .i64 v ∧ t 82 = .int .i64 i ∧ t 83 = .int .i64 v ∧ t 97 = .int .i64 i ∧ t 98 = .int .i64 j ∧ h3 <+: h' ∧ ∃ x, t 16 = x ∧ Own h' h3.length h'.length 1 y_int x (ints ((upTo j).filter fun u => decide (L.getD u.toNat 0 = (v : Int))))) ⟨rfl, rfl, rfl, rfl, rfl, rfl, rfl, rfl, rfl, List.prefix_refl _, _, rfl, Own.nil⟩ ?_
    rintro j t loc h4 hj ⟨t0, t2, t7, t14, t15, t82, t83, t97, t98, hp4, x, t16, ox⟩
    have o4 := o.up hp4
    simp only [t97, t98, go_sem, reduceIte, Nat.reduceEqDiff, Nat.reduceAdd, Nat.reduceMul, Nat.reduceLT, Nat.reduceLeDiff, reduceCtorEq, ne_eq, Int.reduceEq, Int.reduceLT, Int.reduceLE, Int.reduceNeg, Int.reduceToNat]
    refine w_open (by simp only [go_sem, reduceIte, Nat.reduceEqDiff, Nat.reduceAdd, Nat.reduceMul, Nat.reduceLT, Nat.reduceLeDiff, reduceCtorEq, ne_eq, Int.reduceEq, Int.reduceLT, Int.reduceLE, Int.reduceNeg, Int.reduceToNat]; rfl) ?_ ?_ <;> intro hc
    · have hj1 : j < i := by omega
      have hw2 : IntKind.i64.wrap ((j : Int) + 1) = ((j + 1 : Nat) : Int) := w64 (by omega) (by omega)
      have elj := int_el o4.rows (i := j) (by rw [hL.len]; exact hj1)
      have hfs := filter_snoc (p := fun u => decide (L.getD u.toNat 0 = (v : Int))) (n := j)
      have hfl : ((upTo j).filter fun u => decide (L.getD u.toNat 0 = (v : Int))).length ≤ j := Nat.le_trans (List.length_filter_le _ _) (by rw [upTo_len]; exact Nat.le_refl _)
      by_cases s3 : L.getD j 0 = (v : Int)
      · rw [if_pos (by simpa using s3)] at hfs
        obtain ⟨x', h5, c5, g5, b5, o5⟩ := ox.push1 (pre_len hp4) [.int .i64 (j : Int)] rfl (by rw [ints_len]; unfold lim; omega)
        rw [Nat.max_eq_right g5] at o5
        simp only [t0, t2, t7, t14, t15, t16, t82, t83, t97, t98, elj.1, elj.2, s3, c5, hw2, go_sem, reduceIte, Nat.reduceEqDiff, Nat.reduceAdd, Nat.reduceMul, Nat.reduceLT, Nat.reduceLeDiff, reduceCtorEq, ne_eq, Int.reduceEq, Int.reduceLT, Int.reduceLE, Int.reduceNeg, Int.reduceToNat]
        refine ⟨hj1, pre_push hp4 (Nat.le_refl _) g5 b5, _, rfl, ?_⟩
        rw [hfs]
        simpa [ints] using o5
      · rw [if_neg (by simpa using s3)] at hfs
        simp only [t0, t2, t7, t14, t15, t16, t82, t83, t97, t98, elj.1, elj.2, s3, hw2, go_sem, reduceIte, Nat.reduceEqDiff, Nat.reduceAdd, Nat.reduceMul, Nat.reduceLT, Nat.reduceLeDiff, reduceCtorEq, ne_eq, Int.reduceEq, Int.reduceLT, Int.reduceLE, Int.reduceNeg, Int.reduceToNat]
        exact ⟨hj1, hp4, _, rfl, by rw [hfs]; exact ox⟩
    · have hji : j = i := by omega
      subst hji
      rw [← hcl] at ox
      obtain ⟨w', h5, c5, g5, b5, o5⟩ := oo.push hg (Nat.le_refl _) hp4 ox (by have := compsTo_len (es := es) (out := out) (n := j) (k := v); unfold lim; omega)
      simp only [t0, t2, t7, t14, t16, t82, t83, ox.cells, c5, hw, go_sem, reduceIte, Nat.reduceEqDiff, Nat.reduceAdd, Nat.reduceMul, Nat.reduceLT, Nat.reduceLeDiff, reduceCtorEq, ne_eq, Int.reduceEq, Int.reduceLT, Int.reduceLE, Int.reduceNeg, Int.reduceToNat]
      have hpp : h <+: h5 := by
        refine pre_of_get (by have := pre_len hp; have := pre_len hp4; omega) fun c hc => ?_
        rw [b5 c (by have := pre_len p2; omega), get_of_pre (hp.trans hp4) hc]
      refine ⟨hv1, hpp, by have := pre_len hp4; omega, ?_, _, rfl, by rw [hct]; exact o5⟩
      refine ⟨o4.len, ?_⟩
      rcases o4.is with hn | ⟨c, q1, q2, q3, q4⟩
      · exact .inl hn
      · exact .inr ⟨c, q1, q2, q3, by rw [b5 c (by omega)]; exact q4⟩
  · have hvi : v = i := by omega
    subst hvi
    simp only [t14, go_sem, reduceIte, Nat.reduceEqDiff, Nat.reduceAdd, Nat.reduceMul, Nat.reduceLT, Nat.reduceLeDiff, reduceCtorEq, ne_eq, Int.reduceEq, Int.reduceLT, Int.reduceLE, Int.reduceNeg, Int.reduceToNat]
    have := pre_len p2
    exact ⟨oo.live, (oo.wide (by omega) (Nat.le_refl _)).fin hp⟩
end
end Go.Proofs.Ytioogligololoaa.Ab
