/- The law FnParts, of arguments as they are shown. No conditions. -/
import Derived.Test.YtioogligololoaaK40
import Derived.Test.YtioogligololoaaK16
import Derived.Test.YtioogligololoaaOp3
set_option linter.unusedSimpArgs false
set_option linter.unusedVariables false
set_option linter.unnecessarySimpa false
set_option maxHeartbeats 4000000
namespace Go.Proofs.Ytioogligololoaa.Ab
open Go.RowKit

theorem zeros_ints : ∀ n : Nat, zeros [.int .i64 0] n = (ints (List.replicate n 0)).flatten
  | 0 => rfl
  | n + 1 => by rw [List.replicate_succ]; show [Value.int .i64 0] ++ zeros [.int .i64 0] n = [Value.int .i64 0] ++ (ints (List.replicate n 0)).flatten; rw [zeros_ints n]
theorem doneL_nodup {CL : List (List Int)} (h : CL.flatten.Nodup) {i k : Nat} (hi : i < CL.length) : (doneL CL i k).Nodup := by
  have e : CL.flatten = doneL CL i k ++ ((CL.getD i []).drop k ++ (CL.drop (i + 1)).flatten) := by
    have h1 : CL = CL.take i ++ (CL.getD i [] :: CL.drop (i + 1)) := by
      rw [List.getD_eq_getElem?_getD, List.getElem?_eq_getElem hi, Option.getD_some, ← List.drop_eq_getElem_cons hi, List.take_append_drop]
    conv => lhs; rw [h1, List.flatten_append, List.flatten_cons]
    unfold doneL
    rw [List.append_assoc]
    congr 1
    rw [← List.append_assoc, List.take_append_drop]
  rw [e] at h
  exact (List.nodup_append.1 h).1
section
variable {X : CallF} {h : Heap} {cv : Value} {l : List Int}

theorem k_big (hc : Rows h 1 cv (bys l)) : C T X n_laws_big [cv] h = some (.bool (decide ((l.length : Int) > 1048576)), h) := by
  refine C_go t_laws_big rfl ?_
  unfold F_laws_big
  have hln : lnV h cv = some (.int .i64 (l.length : Int)) := by rw [hc.ln, bys_len]
  simp only [hln, go_sem, reduceIte, Nat.reduceEqDiff, Nat.reduceAdd, Nat.reduceMul, Nat.reduceLT, Nat.reduceLeDiff, reduceCtorEq, ne_eq, Int.reduceEq, Int.reduceLT, Int.reduceLE, Int.reduceNeg, Int.reduceToNat]

theorem Shape.bytes_inv {v : Value} (s : Shape h (.sl [.int .u8]) v) : ∃ l : List Int, Rows h 1 v (bys l) := by
  obtain ⟨rows, hr, hm, hk⟩ := s.sl_inv
  obtain ⟨l, rfl, hl⟩ := rows_map (f := fun n : Int => [Value.int .u8 n]) (Q := fun _ => True) (rows := rows) (fun r hrm => by
    obtain ⟨x, r', rfl, hx, h2⟩ := (hk r hrm).cons_inv
    obtain rfl := h2.nil_inv
    cases hx with
    | int k n hw => exact ⟨n, rfl, trivial⟩)
  exact ⟨l, hr⟩

open Classical in
theorem l_Parts (hc : Rows h 1 cv (bys l)) : C T X n_laws_FnParts [cv] h = some (.bool true, h) := by
  refine C_go t_laws_FnParts rfl ?_
  unfold F_laws_FnParts
  have cb := k_big (X := X) hc
  by_cases hz : (l.length : Int) > 1048576
  · simp only [cb, hz, go_sem, reduceIte, Nat.reduceEqDiff, Nat.reduceAdd, Nat.reduceMul, Nat.reduceLT, Nat.reduceLeDiff, reduceCtorEq, ne_eq, Int.reduceEq, Int.reduceLT, Int.reduceLE, Int.reduceNeg, Int.reduceToNat]
  obtain ⟨n, es, ev, h1, c1, g, p1, oe⟩ := k_DrawRightGraph (X := X) hc (by omega)
  have hn : n ≤ 9 := by have := g.1; omega
  have hE : ∀ e ∈ es, EOk n e := fun e he => by
    obtain ⟨i, hi, rfl⟩ := mem_getD (d := e0) he
    exact (g.2 i hi).1
  have hel := gok_len g
  have hell : es.length ≤ lim := by unfold lim; omega
  obtain ⟨pv, h2, c2, PL, hPL, p2, op⟩ := k_DrawPlaces (X := X) (hc.up p1) (by omega)
  unfold graphV at c1
  simp only [cb, hz, c1, c2, zeros, fillAt, go_sem, reduceIte, Nat.reduceEqDiff, Nat.reduceAdd, Nat.reduceMul, Nat.reduceLT, Nat.reduceLeDiff, reduceCtorEq, ne_eq, Int.reduceEq, Int.reduceLT, Int.reduceLE, Int.reduceNeg, Int.reduceToNat]
  -- who is out
  obtain ⟨p, hp⟩ : ∃ p : Int → Bool, p = fun u => decide ((PL.getD (u.toNat % 12) 0).tmod 4 = 0) := ⟨_, rfl⟩
  refine w_for n (fun i t loc h' => loc 3 = some [.int .i64 (n : Nat), ev] ∧ t 4 = pv ∧ t 6 = .int .i64 i ∧ h2 <+: h' ∧ ∃ v, t 5 = v ∧ Own h' h2.length h'.length 1 y_int v (ints ((upTo i).filter p))) ⟨rfl, rfl, rfl, List.prefix_append _ _, _, rfl, Acc.new.own⟩ ?_
  rintro i t loc h3 hi ⟨l3, t4, t6, p3, ov, t5, oo⟩
  simp only [l3, t6, go_sem, reduceIte, Nat.reduceEqDiff, Nat.reduceAdd, Nat.reduceMul, Nat.reduceLT, Nat.reduceLeDiff, reduceCtorEq, ne_eq, Int.reduceEq, Int.reduceLT, Int.reduceLE, Int.reduceNeg, Int.reduceToNat]
  refine w_open (by simp only [go_sem, reduceIte, Nat.reduceEqDiff, Nat.reduceAdd, Nat.reduceMul, Nat.reduceLT, Nat.reduceLeDiff, reduceCtorEq, ne_eq, Int.reduceEq, Int.reduceLT, Int.reduceLE, Int.reduceNeg, Int.reduceToNat]; rfl) ?_ ?_ <;> intro hc
  · have hi1 : i < n := by omega
    have hw : IntKind.i64.wrap ((i : Int) + 1) = ((i + 1 : Nat) : Int) := w64 (by omega) (by omega)
    have hk : i % 12 < PL.length := by rw [hPL]; exact Nat.mod_lt _ (by omega)
    have el := int_el (op.rows.up p3) hk
    have hmod : (i : Int).tmod 12 = ((i % 12 : Nat) : Int) := tmodN i 12
    have hfs := filter_snoc (p := p) (n := i)
    have hpi : p (i : Int) = decide ((PL.getD (i % 12) 0).tmod 4 = 0) := by rw [hp]; simp
    have hfl : ((upTo i).filter p).length ≤ i := Nat.le_trans (List.length_filter_le _ _) (by rw [upTo_len]; exact Nat.le_refl _)
    by_cases q : (PL.getD (i % 12) 0).tmod 4 = 0
    · rw [if_pos (by rw [hpi]; exact decide_eq_true q)] at hfs
      obtain ⟨v5, h5, c5, q1, q2, o5⟩ := oo.push1 (pre_len p3) [.int .i64 (i : Int)] rfl (by rw [ints_len]; unfold lim; omega)
      rw [Nat.max_eq_right q1] at o5
      simp only [l3, t4, t5, t6, hmod, el.1, el.2, q, zeros, fillAt, c5, hw, go_sem, reduceIte, Nat.reduceEqDiff, Nat.reduceAdd, Nat.reduceMul, Nat.reduceLT, Nat.reduceLeDiff, reduceCtorEq, ne_eq, Int.reduceEq, Int.reduceLT, Int.reduceLE, Int.reduceNeg, Int.reduceToNat]
      exact ⟨hi1, pre_push p3 (Nat.le_refl _) q1 q2, v5, rfl, by rw [hfs]; simpa [ints] using o5⟩
    · rw [if_neg (by rw [hpi]; simpa using q)] at hfs
      simp only [l3, t4, t5, t6, hmod, el.1, el.2, q, hw, go_sem, reduceIte, Nat.reduceEqDiff, Nat.reduceAdd, Nat.reduceMul, Nat.reduceLT, Nat.reduceLeDiff, reduceCtorEq, ne_eq, Int.reduceEq, Int.reduceLT, Int.reduceLE, Int.reduceNeg, Int.reduceToNat]
      exact ⟨hi1, p3, ov, rfl, by rw [hfs]; exact oo⟩
  have hin : i = n := by omega
  subst hin
  obtain ⟨out, hout⟩ : ∃ out, out = (upTo i).filter p := ⟨_, rfl⟩
  have hcount := comps_count (es := es) (n := i) (p := p)
  rw [← hout] at oo hcount
  have hol : out.length ≤ 9 := by omega
  have q3 := (p1.trans p2).trans p3
  have hev3 : Rows h3 5 ev (edges es) := (oe.up (p2.trans p3)).rows
  obtain ⟨lv, h4, c4, p4, ol⟩ := k_impl_PiecesOf (X := X) (size := (i : Int)) hev3 oo.rows hell (by unfold lim; omega)
  have hpc : piecesL es out (i : Int) = comps es out i := by unfold piecesL; rw [if_pos g, Int.toNat_natCast]
  rw [hpc] at ol
  obtain ⟨CL, hCL⟩ : ∃ CL, CL = comps es out i := ⟨_, rfl⟩
  rw [← hCL] at ol hcount
  have hnd : CL.flatten.Nodup := by rw [hCL]; exact comps_nodup
  have hCLn : CL.length ≤ 9 := by rw [hCL]; have := compsTo_len (es := es) (out := out) (n := i) (k := i); unfold comps; omega
  have hCLm : ∀ x ∈ CL, x.length ≤ 9 := fun x hx => by rw [hCL] at hx; have := comps_mem_len hx; omega
  unfold graphV at c4
  have cm := mkW_ok (h := h4) (sz := 1) (ty := y_int) (z := [.int .i64 0]) (n := i) (by unfold lim; omega)
  obtain ⟨h5, hh5⟩ : ∃ h5 : Heap, h5 = h4 ++ [⟨zeros [.int .i64 0] i, 1, y_int, true⟩] := ⟨_, rfl⟩
  rw [← hh5] at cm
  have hl5 : h5.length = h4.length + 1 := by rw [hh5]; simp
  have p5 : h4 <+: h5 := by rw [hh5]; exact List.prefix_append _ _
  have oq : Own h5 h4.length h5.length 1 y_int (.slice (some ⟨h4.length, 0, none⟩) i i) (ints (List.replicate i 0)) := by
    have := Own.made (h := h4) (ty := y_int) (rws := ints (List.replicate i 0)) ints_row
    rw [ints_len, List.length_replicate, ← zeros_ints, ← hh5, ← hl5] at this
    exact this
  simp only [l3, t4, t5, c4, cm, go_sem, reduceIte, Nat.reduceEqDiff, Nat.reduceAdd, Nat.reduceMul, Nat.reduceLT, Nat.reduceLeDiff, reduceCtorEq, ne_eq, Int.reduceEq, Int.reduceLT, Int.reduceLE, Int.reduceNeg, Int.reduceToNat]
  have lnL : ∀ {h' : Heap}, Same h4.length h5.length h5 h' → RowsLL h' lv CL ∧ Rows h' 1 ov (ints out) ∧ Rows h' 5 ev (edges es) := fun s =>
    ⟨((ol.up p5).same s (.inl (Nat.le_refl _))).rows, ((oo.up (p4.trans p5)).same s (.inl (pre_len p4))).rows, ((oe.up ((p2.trans p3).trans (p4.trans p5))).same s (.inl (by have := pre_len p2; have := pre_len p3; have := pre_len p4; omega))).rows⟩
  refine w_for CL.length (fun j t loc h' => loc 3 = some [.int .i64 (i : Nat), ev] ∧ t 5 = ov ∧ t 7 = lv ∧ t 8 = .slice (some ⟨h4.length, 0, none⟩) i i ∧ t 9 = .int .i64 ((doneL CL j 0).length : Nat) ∧ t 10 = .int .i64 j ∧ Same h4.length h5.length h5 h' ∧ ∃ P, Part CL (doneL CL j 0) i P ∧ Own h' h4.length h5.length 1 y_int (.slice (some ⟨h4.length, 0, none⟩) i i) (ints P))
    ⟨rfl, rfl, rfl, rfl, by simp [doneL, upd], rfl, Same.refl, _, by simpa [doneL] using part_start, oq⟩ ?_
  rintro j t loc h6 hj ⟨l3, t5, t7, t8, t9, t10, s6, P, hP, oP⟩
  simp only [t7, t10, (lnL s6).1.ln, go_sem, reduceIte, Nat.reduceEqDiff, Nat.reduceAdd, Nat.reduceMul, Nat.reduceLT, Nat.reduceLeDiff, reduceCtorEq, ne_eq, Int.reduceEq, Int.reduceLT, Int.reduceLE, Int.reduceNeg, Int.reduceToNat]
  refine w_open (by simp only [go_sem, reduceIte, Nat.reduceEqDiff, Nat.reduceAdd, Nat.reduceMul, Nat.reduceLT, Nat.reduceLeDiff, reduceCtorEq, ne_eq, Int.reduceEq, Int.reduceLT, Int.reduceLE, Int.reduceNeg, Int.reduceToNat]; rfl) ?_ ?_ <;> intro hc
  · have hj1 : j < CL.length := by omega
    have hwj : IntKind.i64.wrap ((j : Int) + 1) = ((j + 1 : Nat) : Int) := w64 (by omega) (by omega)
    have hcl := hCLm _ (getD_mem (d := []) hj1)
    simp only [l3, t5, t7, t8, t9, t10, go_sem, reduceIte, Nat.reduceEqDiff, Nat.reduceAdd, Nat.reduceMul, Nat.reduceLT, Nat.reduceLeDiff, reduceCtorEq, ne_eq, Int.reduceEq, Int.reduceLT, Int.reduceLE, Int.reduceNeg, Int.reduceToNat]
    refine w_for (CL.getD j []).length (fun k t loc h' => loc 3 = some [.int .i64 (i : Nat), ev] ∧ t 5 = ov ∧ t 7 = lv ∧ t 8 = .slice (some ⟨h4.length, 0, none⟩) i i ∧ t 9 = .int .i64 ((doneL CL j k).length : Nat) ∧ t 10 = .int .i64 j ∧ t 11 = .int .i64 k ∧ Same h4.length h5.length h5 h' ∧ ∃ P, Part CL (doneL CL j k) i P ∧ Own h' h4.length h5.length 1 y_int (.slice (some ⟨h4.length, 0, none⟩) i i) (ints P))
      ⟨rfl, rfl, rfl, rfl, rfl, rfl, rfl, s6, P, hP, oP⟩ ?_
    rintro k t loc h7 hk ⟨l3, t5, t7, t8, t9, t10, t11, s7, P, hP, oP⟩
    obtain ⟨rL, rO, rE⟩ := lnL s7
    obtain ⟨x, e1, e2, e3⟩ := rL.el hj1
    simp only [t7, t10, t11, e1, e2, ints_ln e3, go_sem, reduceIte, Nat.reduceEqDiff, Nat.reduceAdd, Nat.reduceMul, Nat.reduceLT, Nat.reduceLeDiff, reduceCtorEq, ne_eq, Int.reduceEq, Int.reduceLT, Int.reduceLE, Int.reduceNeg, Int.reduceToNat]
    refine w_open (by simp only [go_sem, reduceIte, Nat.reduceEqDiff, Nat.reduceAdd, Nat.reduceMul, Nat.reduceLT, Nat.reduceLeDiff, reduceCtorEq, ne_eq, Int.reduceEq, Int.reduceLT, Int.reduceLE, Int.reduceNeg, Int.reduceToNat]; rfl) ?_ ?_ <;> intro hc
    · have hk1 : k < (CL.getD j []).length := by omega
      have hw : IntKind.i64.wrap ((k : Int) + 1) = ((k + 1 : Nat) : Int) := w64 (by omega) (by omega)
      have elx := int_el e3 hk1
      have hmem : (CL.getD j []).getD k 0 ∈ CL.getD j [] := getD_mem hk1
      have hflat : (CL.getD j []).getD k 0 ∈ CL.flatten := List.mem_flatten.2 ⟨_, getD_mem hj1, hmem⟩
      have hcm : (0 ≤ (CL.getD j []).getD k 0 ∧ (CL.getD j []).getD k 0 < i) ∧ ¬ (CL.getD j []).getD k 0 ∈ out := by
        rw [hCL] at hflat ⊢
        exact comps_mem.1 hflat
      have hnx := doneL_next hk1
      have hdn := doneL_nodup hnd (k := k + 1) hj1
      rw [hnx] at hdn
      obtain ⟨u, hu⟩ : ∃ u : Nat, (CL.getD j []).getD k 0 = u := ⟨((CL.getD j []).getD k 0).toNat, by omega⟩
      rw [hu] at elx hmem hcm hnx hdn
      have hnot : ¬ (u : Int) ∈ doneL CL j k := fun q => (List.nodup_append.1 hdn).2.2 _ q _ (List.mem_singleton.2 rfl) rfl
      have hui : u < i := by omega
      have hz0 := hP.no u hui hnot
      have huP : u < P.length := by rw [hP.len]; exact hui
      have elq := int_el oP.rows huP
      rw [hz0] at elq
      have cw := k_within (X := X) (n := (u : Int)) rO (by unfold lim; omega)
      have hc1 : ¬ (u : Int) < 0 := by omega
      have hc2 : ¬ (u : Int) ≥ (i : Int) := by omega
      have huR : u < (ints P).length := by rw [ints_len]; exact huP
      obtain ⟨h8, c8, s8, o8⟩ := oP.st huR (k := 0) (vs := [.int .i64 ((j + 1 : Nat) : Int)]) (by simp)
      have hset : (ints P).set u (putAt (ints P)[u] 0 [.int .i64 ((j + 1 : Nat) : Int)]) = ints (P.set u ((j + 1 : Nat) : Int)) := by
        have e0 : (ints P)[u] = [.int .i64 (P[u]'huP)] := ints_get huR
        rw [e0]
        unfold ints
        rw [List.map_set]
        rfl
      rw [hset] at o8
      have hdl : (doneL CL j k).length ≤ 9 := by
        have hd2 := doneL_nodup hnd (k := k) hj1
        have : (doneL CL j k).length ≤ i := nodup_len hd2 fun y hy => by
          have : y ∈ CL.flatten := by
            unfold doneL at hy
            rcases List.mem_append.1 hy with q | q
            · obtain ⟨r, hr, hy⟩ := List.mem_flatten.1 q
              exact List.mem_flatten.2 ⟨r, List.mem_of_mem_take hr, hy⟩
            · exact List.mem_flatten.2 ⟨_, getD_mem hj1, List.mem_of_mem_take q⟩
          rw [hCL] at this
          exact (comps_mem.1 this).1
        omega
      have hwd : IntKind.i64.wrap (((doneL CL j k).length : Int) + 1) = ((doneL CL j (k + 1)).length : Nat) := by
        rw [w64 (by omega) (by omega), hnx]
        simp
      simp only [l3, t5, t7, t8, t9, t10, t11, e1, e2, elx.1, elx.2, hc1, hc2, elq.1, elq.2, cw, hcm.2, hwj, c8, hwd, hw, go_sem, reduceIte, Nat.reduceEqDiff, Nat.reduceAdd, Nat.reduceMul, Nat.reduceLT, Nat.reduceLeDiff, reduceCtorEq, ne_eq, Int.reduceEq, Int.reduceLT, Int.reduceLE, Int.reduceNeg, Int.reduceToNat]
      exact ⟨hk1, s7.trans s8, _, by rw [hnx]; exact part_next hnd hP hui hj1 hmem, o8⟩
    · have hkn : k = (CL.getD j []).length := by omega
      subst hkn
      rw [doneL_row hj1] at t9 hP
      simp only [l3, t5, t7, t8, t9, t10, hwj, go_sem, reduceIte, Nat.reduceEqDiff, Nat.reduceAdd, Nat.reduceMul, Nat.reduceLT, Nat.reduceLeDiff, reduceCtorEq, ne_eq, Int.reduceEq, Int.reduceLT, Int.reduceLE, Int.reduceNeg, Int.reduceToNat]
      exact ⟨hj1, s7, P, hP, oP⟩
  have hjn : j = CL.length := by omega
  subst hjn
  rw [doneL_end] at t9 hP
  simp only [l3, t5, t7, t8, t9, go_sem, reduceIte, Nat.reduceEqDiff, Nat.reduceAdd, Nat.reduceMul, Nat.reduceLT, Nat.reduceLeDiff, reduceCtorEq, ne_eq, Int.reduceEq, Int.reduceLT, Int.reduceLE, Int.reduceNeg, Int.reduceToNat]
  obtain ⟨rL, rO, rE⟩ := lnL s6
  -- the edges
  refine w_for es.length (fun k t loc h' => h' = h6 ∧ loc 3 = some [.int .i64 (i : Nat), ev] ∧ t 5 = ov ∧ t 7 = lv ∧ t 8 = .slice (some ⟨h4.length, 0, none⟩) i i ∧ t 9 = .int .i64 (CL.flatten.length : Nat) ∧ t 13 = .int .i64 k) ⟨rfl, rfl, rfl, rfl, rfl, rfl, rfl⟩ ?_
  rintro k t loc h' hk ⟨rfl, l3, t5, t7, t8, t9, t13⟩
  simp only [l3, t13, rE.lnm, go_sem, reduceIte, Nat.reduceEqDiff, Nat.reduceAdd, Nat.reduceMul, Nat.reduceLT, Nat.reduceLeDiff, reduceCtorEq, ne_eq, Int.reduceEq, Int.reduceLT, Int.reduceLE, Int.reduceNeg, Int.reduceToNat]
  refine w_open (by simp only [go_sem, reduceIte, Nat.reduceEqDiff, Nat.reduceAdd, Nat.reduceMul, Nat.reduceLT, Nat.reduceLeDiff, reduceCtorEq, ne_eq, Int.reduceEq, Int.reduceLT, Int.reduceLE, Int.reduceNeg, Int.reduceToNat]; rfl) ?_ ?_ <;> intro hc
  · have hk1 : k < es.length := by omega
    have hw : IntKind.i64.wrap ((k : Int) + 1) = ((k + 1 : Nat) : Int) := w64 (by omega) (by omega)
    have el := edge_el rE hk1
    have hm := getD_mem (d := e0) hk1
    obtain ⟨e, he⟩ : ∃ e, e = es.getD k e0 := ⟨_, rfl⟩
    rw [← he] at el hm
    have ge := hE e hm
    unfold EOk at ge
    obtain ⟨a, ha⟩ : ∃ a : Nat, e.a = a := ⟨e.a.toNat, by omega⟩
    obtain ⟨c, hcc⟩ : ∃ c : Nat, e.b = c := ⟨e.b.toNat, by omega⟩
    have hai : a < i := by omega
    have hci : c < i := by omega
    have ela := int_el oP.rows (i := a) (by rw [hP.len]; exact hai)
    have elc := int_el oP.rows (i := c) (by rw [hP.len]; exact hci)
    have inD : ∀ u : Nat, u < i → ¬ (u : Int) ∈ out → (u : Int) ∈ CL.flatten := fun u hu hn' => by rw [hCL]; exact comps_mem.2 ⟨⟨by omega, by omega⟩, hn'⟩
    have outD : ∀ u : Nat, (u : Int) ∈ out → ¬ (u : Int) ∈ CL.flatten := fun u hu q => by rw [hCL] at q; exact (comps_mem.1 q).2 hu
    rw [ha, hcc] at el
    by_cases oa : (a : Int) ∈ out
    · have pa := hP.no a hai (outD a oa)
      rw [pa] at ela
      simp only [l3, t5, t7, t8, t9, t13, el.1, el.2.1, el.2.2.2.1, el.2.2.2.2.1, ela.1, ela.2, elc.1, elc.2, hw, go_sem, reduceIte, Nat.reduceEqDiff, Nat.reduceAdd, Nat.reduceMul, Nat.reduceLT, Nat.reduceLeDiff, reduceCtorEq, ne_eq, Int.reduceEq, Int.reduceLT, Int.reduceLE, Int.reduceNeg, Int.reduceToNat]
      exact hk1
    by_cases oc : (c : Int) ∈ out
    · have pc := hP.no c hci (outD c oc)
      rw [pc] at elc
      by_cases pz : P.getD a 0 > 0
      · simp only [l3, t5, t7, t8, t9, t13, el.1, el.2.1, el.2.2.2.1, el.2.2.2.2.1, ela.1, ela.2, elc.1, elc.2, pz, hw, go_sem, reduceIte, Nat.reduceEqDiff, Nat.reduceAdd, Nat.reduceMul, Nat.reduceLT, Nat.reduceLeDiff, reduceCtorEq, ne_eq, Int.reduceEq, Int.reduceLT, Int.reduceLE, Int.reduceNeg, Int.reduceToNat]
        exact hk1
      · simp only [l3, t5, t7, t8, t9, t13, el.1, el.2.1, el.2.2.2.1, el.2.2.2.2.1, ela.1, ela.2, elc.1, elc.2, pz, hw, go_sem, reduceIte, Nat.reduceEqDiff, Nat.reduceAdd, Nat.reduceMul, Nat.reduceLT, Nat.reduceLeDiff, reduceCtorEq, ne_eq, Int.reduceEq, Int.reduceLT, Int.reduceLE, Int.reduceNeg, Int.reduceToNat]
        exact hk1
    · obtain ⟨r, hr, hra⟩ := List.mem_flatten.1 (inD a hai oa)
      obtain ⟨j, hj, rfl⟩ := mem_getD (d := []) hr
      have hrc : (c : Int) ∈ CL.getD j [] := by
        have := comps_edge (n := i) (out := out) hm (by rw [ha]; exact oa) (by rw [hcc]; exact oc) ⟨by omega, by omega⟩ (j := j) (by rw [← hCL]; exact hj) (by rw [← hCL, ha]; exact hra)
        rw [← hCL, hcc] at this
        exact this
      have pa := hP.yes a j hai hj (inD a hai oa) hra
      have pc := hP.yes c j hci hj (inD c hci oc) hrc
      rw [pa] at ela
      rw [pc] at elc
      have hpos : ((j + 1 : Nat) : Int) > 0 := by omega
      simp only [l3, t5, t7, t8, t9, t13, el.1, el.2.1, el.2.2.2.1, el.2.2.2.2.1, ela.1, ela.2, elc.1, elc.2, hpos, hw, go_sem, reduceIte, Nat.reduceEqDiff, Nat.reduceAdd, Nat.reduceMul, Nat.reduceLT, Nat.reduceLeDiff, reduceCtorEq, ne_eq, Int.reduceEq, Int.reduceLT, Int.reduceLE, Int.reduceNeg, Int.reduceToNat]
      exact hk1
  simp only [l3, t5, t7, t8, t9, go_sem, reduceIte, Nat.reduceEqDiff, Nat.reduceAdd, Nat.reduceMul, Nat.reduceLT, Nat.reduceLeDiff, reduceCtorEq, ne_eq, Int.reduceEq, Int.reduceLT, Int.reduceLE, Int.reduceNeg, Int.reduceToNat]
  have q6 : h <+: h' := s6.pre ((q3.trans p4).trans p5) (by have := pre_len (q3.trans p4); omega)
  -- the neighbours
  refine w_for i (fun k t loc hx => h' <+: hx ∧ loc 3 = some [.int .i64 (i : Nat), ev] ∧ t 5 = ov ∧ t 7 = lv ∧ t 9 = .int .i64 (CL.flatten.length : Nat) ∧ t 16 = .int .i64 k) ⟨List.prefix_refl _, rfl, rfl, rfl, rfl, rfl⟩ ?_
  rintro k t loc hx hk ⟨px, l3, t5, t7, t9, t16⟩
  simp only [l3, t16, go_sem, reduceIte, Nat.reduceEqDiff, Nat.reduceAdd, Nat.reduceMul, Nat.reduceLT, Nat.reduceLeDiff, reduceCtorEq, ne_eq, Int.reduceEq, Int.reduceLT, Int.reduceLE, Int.reduceNeg, Int.reduceToNat]
  refine w_open (by simp only [go_sem, reduceIte, Nat.reduceEqDiff, Nat.reduceAdd, Nat.reduceMul, Nat.reduceLT, Nat.reduceLeDiff, reduceCtorEq, ne_eq, Int.reduceEq, Int.reduceLT, Int.reduceLE, Int.reduceNeg, Int.reduceToNat]; rfl) ?_ ?_ <;> intro hc
  · have hk1 : k < i := by omega
    have hw : IntKind.i64.wrap ((k : Int) + 1) = ((k + 1 : Nat) : Int) := w64 (by omega) (by omega)
    obtain ⟨v, hy, cy, py, oy⟩ := k_impl_Neighbours (X := X) (size := (i : Int)) (x := (k : Int)) (rE.up px) (by omega)
    rw [if_pos g] at oy
    have hfew := nb_few hE (v := (k : Int)) ⟨by omega, by omega⟩
    unfold graphV at cy
    have hwi : IntKind.i64.wrap ((i : Int) - 1) = (i : Int) - 1 := w64 (by omega) (by omega)
    have hng : ¬ (((es.foldl (nbStep (k : Int)) []).length : Nat) : Int) > (i : Int) - 1 := by omega
    simp only [l3, t5, t7, t9, t16, cy, ints_ln oy.rows, hwi, hng, py, hw, go_sem, reduceIte, Nat.reduceEqDiff, Nat.reduceAdd, Nat.reduceMul, Nat.reduceLT, Nat.reduceLeDiff, reduceCtorEq, ne_eq, Int.reduceEq, Int.reduceLT, Int.reduceLE, Int.reduceNeg, Int.reduceToNat]
    exact ⟨hk1, px.trans py⟩
  · obtain ⟨lv2, h9, c9, p9, ol9⟩ := k_spec_PiecesOf (X := X) (size := (i : Int)) (rE.up px) (rO.up px) hell (by unfold lim; omega)
    rw [hpc, ← hCL] at ol9
    unfold graphV at c9
    have hwo : IntKind.i64.wrap ((i : Int) - (out.length : Int)) = (CL.flatten.length : Nat) := by
      rw [w64 (by omega) (by omega)]
      omega
    simp only [l3, t5, t7, t9, ints_ln (rO.up px), hwo, (rL.up px).ln, c9, (rL.up (px.trans p9)).ln, ol9.rows.ln, p9, go_sem, reduceIte, Nat.reduceEqDiff, Nat.reduceAdd, Nat.reduceMul, Nat.reduceLT, Nat.reduceLeDiff, reduceCtorEq, ne_eq, Int.reduceEq, Int.reduceLT, Int.reduceLE, Int.reduceNeg, Int.reduceToNat]
    exact finish_flat rfl ((q6.trans px).trans p9)
end

def ps_FnParts : List (Bool × List CK) := [(false, [.sl [.int .u8]])]
theorem law_FnParts (h : Heap) (avs : List Value) (ha : All2 (ArgOk h) ps_FnParts avs) : C T noX n_laws_FnParts avs h = some (.bool true, h) := by
  obtain ⟨v0, r, rfl, k0, ha⟩ := ha.cons_inv
  obtain rfl := ha.nil_inv
  obtain ⟨l, hl⟩ := k0.cell.bytes_inv
  exact l_Parts hl
end Go.Proofs.Ytioogligololoaa.Ab
