/- Contracts: the parts of a graph, by the reference. No conditions. -/
import Derived.Test.YtioogligololoaaP2
import Derived.Test.YtioogligololoaaK14
set_option linter.unusedSimpArgs false
set_option linter.unusedVariables false
set_option linter.unnecessarySimpa false
set_option maxHeartbeats 4000000
namespace Go.Proofs.Ytioogligololoaa.Ab
open Go.RowKit
section
variable {X : CallF} {h : Heap} {ev ov : Value} {es : List E} {out : List Int} {size : Int} {v : Int}

theorem made1 {h : Heap} {n : Int} : Own (h ++ [⟨[.int .i64 n], 1, y_int, true⟩]) h.length (h.length + 1) 1 y_int (.slice (some ⟨h.length, 0, none⟩) 1 1) (ints [n]) := Own.made (h := h) (ty := y_int) (rws := ints [n]) ints_row
theorem slice_nz {a : Addr} {n c : Nat} : Value.slice (some a) n c ≠ nilV := fun e => by cases e

theorem k_spec_l17Part (he : Rows h 5 ev (edges es)) (hout : Rows h 1 ov (ints out)) (hl : es.length ≤ lim) (hol : out.length ≤ lim) {n : Nat} (hn : n ≤ 9) (hE : ∀ e ∈ es, EOk n e) (hv : 0 ≤ v ∧ v < n) (hvo : ¬ v ∈ out) :
    ∃ x hh, C T X n_spec_l17Part [graphV n ev, .int .i64 v, ov] h = some (x, hh) ∧ h <+: hh ∧ Own hh h.length hh.length 1 y_int x (ints (compL es out n v)) := by
  refine C_ex t_spec_l17Part rfl ?_
  unfold F_spec_l17Part graphV
  simp only [go_sem, reduceIte, Nat.reduceEqDiff, Nat.reduceAdd, Nat.reduceMul, Nat.reduceLT, Nat.reduceLeDiff, reduceCtorEq, ne_eq, Int.reduceEq, Int.reduceLT, Int.reduceLE, Int.reduceNeg, Int.reduceToNat]
  refine w_meas (n + 1) (fun m t loc h' => loc 3 = some [.int .i64 n, ev] ∧ t 2 = ov ∧ h <+: h' ∧ ∃ (i : Nat) (L : List Int) (w : Value), m + i = n + 1 ∧ i ≤ L.length ∧ t 7 = w ∧ t 8 = .int .i64 i ∧ w ≠ nilV ∧ Own h' h.length (h.length + 1) 1 y_int w (ints L) ∧ Bfs es out n v i L)
    ⟨rfl, rfl, List.prefix_append _ _, 0, [v], _, rfl, Nat.zero_le _, rfl, rfl, slice_nz, made1, bfs_start hv hvo⟩ ?_
  rintro m t loc h' ⟨l3, t2, hp, i, L, w, hm, hiL, t7, t8, hw0, o, b⟩
  have hbl := b.len
  have hp1 := pre_len hp
  have hlo : h.length + 1 ≤ h'.length := by
    rcases o.is with ⟨e, _⟩ | ⟨c, q1, q2, _, q4⟩
    · exact absurd e hw0
    · have := lt_of_get q4; omega
  simp only [t7, t8, ints_ln o.rows, go_sem, reduceIte, Nat.reduceEqDiff, Nat.reduceAdd, Nat.reduceMul, Nat.reduceLT, Nat.reduceLeDiff, reduceCtorEq, ne_eq, Int.reduceEq, Int.reduceLT, Int.reduceLE, Int.reduceNeg, Int.reduceToNat]
  refine w_open (by simp only [go_sem, reduceIte, Nat.reduceEqDiff, Nat.reduceAdd, Nat.reduceMul, Nat.reduceLT, Nat.reduceLeDiff, reduceCtorEq, ne_eq, Int.reduceEq, Int.reduceLT, Int.reduceLE, Int.reduceNeg, Int.reduceToNat]; rfl) ?_ ?_ <;> intro hc
  · have hi1 : i < L.length := by omega
    have hw : IntKind.i64.wrap ((i : Int) + 1) = ((i + 1 : Nat) : Int) := w64 (by omega) (by omega)
    have el := int_el o.rows hi1
    obtain ⟨x, h2, c2, p2, o2⟩ := k_spec_l17Next (X := X) (size := (n : Int)) (x := L.getD i 0) (he.up hp) hl (by omega)
    unfold graphV at c2
    obtain ⟨N, hN⟩ : ∃ N, N = nextL es n (L.getD i 0) := ⟨_, rfl⟩
    rw [← hN] at o2
    have hNl : N.length ≤ 9 := by rw [hN]; have := nextTo_len (es := es) (v := L.getD i 0) (n := (n : Int).toNat); unfold nextL; omega
    have hxo := (b.all _ (getD_mem (d := 0) hi1)).2.1
    simp only [l3, t2, t7, t8, el.1, el.2, c2, p2, go_sem, reduceIte, Nat.reduceEqDiff, Nat.reduceAdd, Nat.reduceMul, Nat.reduceLT, Nat.reduceLeDiff, reduceCtorEq, ne_eq, Int.reduceEq, Int.reduceLT, Int.reduceLE, Int.reduceNeg, Int.reduceToNat]
    refine w_for N.length (fun k t loc h' => loc 3 = some [.int .i64 n, ev] ∧ t 2 = ov ∧ t 8 = .int .i64 i ∧ t 9 = x ∧ t 10 = .int .i64 k ∧ h <+: h' ∧ Own h' (h.length + 1) h'.length 1 y_int x (ints N) ∧ ∃ (M : List Int) (w : Value), t 7 = w ∧ w ≠ nilV ∧ Own h' h.length (h.length + 1) 1 y_int w (ints M) ∧ Bfs es out n v i M ∧ L <+: M ∧ ∀ j, j < k → ¬ N.getD j 0 ∈ out → N.getD j 0 ∈ M)
      ⟨rfl, rfl, rfl, rfl, rfl, hp.trans p2, o2.wide hlo (Nat.le_refl _), L, w, rfl, hw0, o.up p2, b, List.prefix_refl _, fun j hj => by omega⟩ ?_
    rintro k t loc h3 hk ⟨l3, t2, t8, t9, t10, hp3, ox, M, w, t7, hw0, o, b, hLM, hall⟩
    have hp31 := pre_len hp3
    have hget : M.getD i 0 = L.getD i 0 := by
      obtain ⟨e, rfl⟩ := hLM
      simp [List.getElem?_append_left hi1]
    simp only [t9, t10, ints_ln ox.rows, go_sem, reduceIte, Nat.reduceEqDiff, Nat.reduceAdd, Nat.reduceMul, Nat.reduceLT, Nat.reduceLeDiff, reduceCtorEq, ne_eq, Int.reduceEq, Int.reduceLT, Int.reduceLE, Int.reduceNeg, Int.reduceToNat]
    refine w_open (by simp only [go_sem, reduceIte, Nat.reduceEqDiff, Nat.reduceAdd, Nat.reduceMul, Nat.reduceLT, Nat.reduceLeDiff, reduceCtorEq, ne_eq, Int.reduceEq, Int.reduceLT, Int.reduceLE, Int.reduceNeg, Int.reduceToNat]; rfl) ?_ ?_ <;> intro hc
    · have hk1 : k < N.length := by omega
      have hw2 : IntKind.i64.wrap ((k : Int) + 1) = ((k + 1 : Nat) : Int) := w64 (by omega) (by omega)
      have elk := int_el ox.rows hk1
      have hbl := b.len
      have c3 := k_spec_l03In (X := X) (n := N.getD k 0) o.rows (by unfold lim; omega)
      have c4 := k_spec_l03In (X := X) (n := N.getD k 0) (hout.up hp3) hol
      by_cases s1 : N.getD k 0 ∈ M
      · simp only [l3, t2, t7, t8, t9, t10, elk.1, elk.2, c3, s1, hw2, go_sem, reduceIte, Nat.reduceEqDiff, Nat.reduceAdd, Nat.reduceMul, Nat.reduceLT, Nat.reduceLeDiff, reduceCtorEq, ne_eq, Int.reduceEq, Int.reduceLT, Int.reduceLE, Int.reduceNeg, Int.reduceToNat]
        exact ⟨hk1, hp3, ox, M, w, rfl, hw0, o, b, hLM, below_succ hall fun _ => s1⟩
      by_cases s2 : N.getD k 0 ∈ out
      · simp only [l3, t2, t7, t8, t9, t10, elk.1, elk.2, c3, c4, s1, s2, hw2, go_sem, reduceIte, Nat.reduceEqDiff, Nat.reduceAdd, Nat.reduceMul, Nat.reduceLT, Nat.reduceLeDiff, reduceCtorEq, ne_eq, Int.reduceEq, Int.reduceLT, Int.reduceLE, Int.reduceNeg, Int.reduceToNat]
        exact ⟨hk1, hp3, ox, M, w, rfl, hw0, o, b, hLM, below_succ hall fun h => absurd s2 h⟩
      have hmem : N.getD k 0 ∈ N := getD_mem hk1
      have hadj : Adj es out (M.getD i 0) (N.getD k 0) := by rw [hget]; exact (next_adj hE hxo).2 ⟨by rw [← hN]; exact hmem, s2⟩
      have hrng := (nextL_mem.1 (show N.getD k 0 ∈ nextL es n (L.getD i 0) by rw [← hN]; exact hmem)).1
      have hiM : i < M.length := Nat.lt_of_lt_of_le hi1 hLM.length_le
      have b2 := bfs_push b hiM hadj hrng s1
      obtain ⟨w', h4, c5, hw4, s4, o4⟩ := o.grow1 hw0 [.int .i64 (N.getD k 0)] rfl (by rw [ints_len]; unfold lim; omega)
      simp only [l3, t2, t7, t8, t9, t10, elk.1, elk.2, c3, c4, s1, s2, c5, hw2, go_sem, reduceIte, Nat.reduceEqDiff, Nat.reduceAdd, Nat.reduceMul, Nat.reduceLT, Nat.reduceLeDiff, reduceCtorEq, ne_eq, Int.reduceEq, Int.reduceLT, Int.reduceLE, Int.reduceNeg, Int.reduceToNat]
      refine ⟨hk1, s4.pre hp3 (Nat.le_refl _), by rw [s4.len]; exact ox.same s4 (.inr (Nat.le_refl _)), M ++ [N.getD k 0], w', rfl, hw4, by simpa [ints] using o4, b2, hLM.trans (List.prefix_append _ _), ?_⟩
      exact below_succ (fun j hj h => List.mem_append_left _ (hall j hj h)) fun _ => List.mem_append_right _ (List.mem_singleton.2 rfl)
    · have hkN : k = N.length := by omega
      subst hkN
      simp only [l3, t2, t7, t8, hw, go_sem, reduceIte, Nat.reduceEqDiff, Nat.reduceAdd, Nat.reduceMul, Nat.reduceLT, Nat.reduceLeDiff, reduceCtorEq, ne_eq, Int.reduceEq, Int.reduceLT, Int.reduceLE, Int.reduceNeg, Int.reduceToNat]
      have b2 : Bfs es out n v (i + 1) M := bfs_next b fun u hu => by
        rw [hget] at hu
        obtain ⟨h5, h6⟩ := (next_adj hE hxo).1 hu
        rw [← hN] at h5
        obtain ⟨j, hj, e⟩ := mem_getD (d := 0) h5
        rw [← e]
        exact hall j hj (by rw [e]; exact h6)
      have hLl := hLM.length_le
      exact ⟨m - 1, by omega, hp3, i + 1, M, w, by omega, by omega, rfl, rfl, hw0, o, b2⟩
  · have hiL2 : i = L.length := by omega
    subst hiL2
    simp only [l3, t7, zeros, fillAt, go_sem, reduceIte, Nat.reduceEqDiff, Nat.reduceAdd, Nat.reduceMul, Nat.reduceLT, Nat.reduceLeDiff, reduceCtorEq, ne_eq, Int.reduceEq, Int.reduceLT, Int.reduceLE, Int.reduceNeg, Int.reduceToNat]
    obtain ⟨h2, hh2⟩ : ∃ h2, h2 = h' := ⟨_, rfl⟩
    rw [← hh2] at hp o hp1 hlo ⊢
    have hcp := bfs_comp b
    refine w_for n (fun k t loc h' => loc 3 = some [.int .i64 n, ev] ∧ t 7 = w ∧ t 12 = .int .i64 k ∧ h2 <+: h' ∧ ∃ y, t 11 = y ∧ y ≠ nilV ∧ Own h' h2.length h'.length 1 y_int y (ints ((upTo k).filter fun u => decide (u ∈ L)))) ⟨rfl, rfl, rfl, List.prefix_append _ _, _, rfl, slice_nz, Acc.new.own⟩ ?_
    rintro k t loc h3 hk ⟨l3, t7, t12, hp3, y, t11, hy, oy⟩
    simp only [l3, t12, go_sem, reduceIte, Nat.reduceEqDiff, Nat.reduceAdd, Nat.reduceMul, Nat.reduceLT, Nat.reduceLeDiff, reduceCtorEq, ne_eq, Int.reduceEq, Int.reduceLT, Int.reduceLE, Int.reduceNeg, Int.reduceToNat]
    refine w_open (by simp only [go_sem, reduceIte, Nat.reduceEqDiff, Nat.reduceAdd, Nat.reduceMul, Nat.reduceLT, Nat.reduceLeDiff, reduceCtorEq, ne_eq, Int.reduceEq, Int.reduceLT, Int.reduceLE, Int.reduceNeg, Int.reduceToNat]; rfl) ?_ ?_ <;> intro hc
    · have hk1 : k < n := by omega
      have hw2 : IntKind.i64.wrap ((k : Int) + 1) = ((k + 1 : Nat) : Int) := w64 (by omega) (by omega)
      have c3 := k_spec_l03In (X := X) (n := (k : Int)) (o.up hp3).rows (by unfold lim; omega)
      have hfs := filter_snoc (p := fun u => decide (u ∈ L)) (n := k)
      have hfl : ((upTo k).filter fun u => decide (u ∈ L)).length ≤ k := Nat.le_trans (List.length_filter_le _ _) (by rw [upTo_len]; exact Nat.le_refl _)
      by_cases s1 : (k : Int) ∈ L
      · rw [if_pos (by simpa using s1)] at hfs
        obtain ⟨y', h4, c5, hy4, s4, o4⟩ := oy.grow1 hy [.int .i64 (k : Int)] rfl (by rw [ints_len]; unfold lim; omega)
        simp only [l3, t7, t11, t12, c3, s1, c5, hw2, go_sem, reduceIte, Nat.reduceEqDiff, Nat.reduceAdd, Nat.reduceMul, Nat.reduceLT, Nat.reduceLeDiff, reduceCtorEq, ne_eq, Int.reduceEq, Int.reduceLT, Int.reduceLE, Int.reduceNeg, Int.reduceToNat]
        refine ⟨hk1, s4.pre hp3 (Nat.le_refl _), y', rfl, hy4, ?_⟩
        rw [hfs, s4.len]
        simpa [ints] using o4
      · rw [if_neg (by simpa using s1)] at hfs
        simp only [l3, t7, t11, t12, c3, s1, hw2, go_sem, reduceIte, Nat.reduceEqDiff, Nat.reduceAdd, Nat.reduceMul, Nat.reduceLT, Nat.reduceLeDiff, reduceCtorEq, ne_eq, Int.reduceEq, Int.reduceLT, Int.reduceLE, Int.reduceNeg, Int.reduceToNat]
        exact ⟨hk1, hp3, y, rfl, hy, by rw [hfs]; exact oy⟩
    · have hkn : k = n := by omega
      subst hkn
      rw [hcp] at oy
      simp only [t11, go_sem, reduceIte, Nat.reduceEqDiff, Nat.reduceAdd, Nat.reduceMul, Nat.reduceLT, Nat.reduceLeDiff, reduceCtorEq, ne_eq, Int.reduceEq, Int.reduceLT, Int.reduceLE, Int.reduceNeg, Int.reduceToNat]
      exact ⟨oy.live, (oy.wide hp1 (Nat.le_refl _)).fin (hp.trans hp3)⟩

theorem k_spec_l17Parts (he : Rows h 5 ev (edges es)) (hout : Rows h 1 ov (ints out)) (hl : es.length ≤ lim) (hol : out.length ≤ lim) {n : Nat} (hn : n ≤ 9) (hE : ∀ e ∈ es, EOk n e) :
    ∃ x hh, C T X n_spec_l17Parts [graphV n ev, ov] h = some (x, hh) ∧ h <+: hh ∧ OwnLL hh h.length hh.length y_ints y_int x (comps es out n) := by
  refine C_ex t_spec_l17Parts rfl ?_
  unfold F_spec_l17Parts graphV
  simp only [zeros, fillAt, go_sem, reduceIte, Nat.reduceEqDiff, Nat.reduceAdd, Nat.reduceMul, Nat.reduceLT, Nat.reduceLeDiff, reduceCtorEq, ne_eq, Int.reduceEq, Int.reduceLT, Int.reduceLE, Int.reduceNeg, Int.reduceToNat]
  obtain ⟨g, hg⟩ : ∃ g : Heap, g = h ++ [⟨[], 1, y_ints, true⟩] := ⟨_, rfl⟩
  have hgl : g.length = h.length + 1 := by rw [hg]; simp
  have og : Own g h.length (h.length + 1) 1 y_ints (.slice (some ⟨h.length, 0, none⟩) 0 0) [] := by rw [hg, ← hgl, hg]; exact Acc.new.own
  rw [← hg]
  have os : Own (g ++ [⟨[], 1, y_int, true⟩]) (h.length + 1) (h.length + 2) 1 y_int (.slice (some ⟨g.length, 0, none⟩) 0 0) (ints []) := by
    have := (Acc.new (h := g) (sz := 1) (ty := y_int)).own
    simp only [List.length_append, List.length_cons, List.length_nil, hgl] at this ⊢
    exact this
  have hpg : h <+: g := by rw [hg]; exact List.prefix_append _ _
  refine w_for n (fun k t loc h' => loc 2 = some [.int .i64 n, ev] ∧ t 1 = ov ∧ t 7 = .int .i64 k ∧ h <+: h' ∧ h.length + 2 ≤ h'.length ∧ ∃ (x w : Value) (S : List Int) (vs : List Value), t 5 = x ∧ t 6 = w ∧ x ≠ nilV ∧ w ≠ nilV ∧ tlo x = h.length ∧ thi x = h.length + 1 ∧
      Own h' (h.length + 1) (h.length + 2) 1 y_int w (ints S) ∧ SeenOk es out n k S ∧ S.length ≤ 9 * k ∧ OwnLLs h' h.length h'.length y_ints y_int x (compsTo es out n k) vs ∧ ∀ i, i < vs.length → vs.getD i nilV = nilV ∨ h.length + 2 ≤ tlo (vs.getD i nilV))
    ⟨rfl, rfl, rfl, hpg.trans (List.prefix_append _ _), by simp [hgl], _, _, [], [], rfl, rfl, slice_nz, slice_nz, rfl, rfl, os, seen_start, by simp, ⟨rfl, (og.up (List.prefix_append _ _)).wide (Nat.le_refl _) (by simp [hgl]), fun i hi => (by simp [compsTo, upTo] at hi), fun i hi => (by simp [compsTo, upTo] at hi), fun i j _ hi => (by simp [compsTo, upTo] at hi)⟩, fun i hi => (by simp at hi)⟩ ?_
  rintro k t loc h' hk ⟨l2, t1, t7, hp, hlen, x, w, S, vs, t5, t6, hx0, hw0, x1, x2, ow, hS, hSl, oo, hvs⟩
  have hp1 := pre_len hp
  simp only [l2, t7, go_sem, reduceIte, Nat.reduceEqDiff, Nat.reduceAdd, Nat.reduceMul, Nat.reduceLT, Nat.reduceLeDiff, reduceCtorEq, ne_eq, Int.reduceEq, Int.reduceLT, Int.reduceLE, Int.reduceNeg, Int.reduceToNat]
  refine w_open (by simp only [go_sem, reduceIte, Nat.reduceEqDiff, Nat.reduceAdd, Nat.reduceMul, Nat.reduceLT, Nat.reduceLeDiff, reduceCtorEq, ne_eq, Int.reduceEq, Int.reduceLT, Int.reduceLE, Int.reduceNeg, Int.reduceToNat]; rfl) ?_ ?_ <;> intro hc
  · have hk1 : k < n := by omega
    have hw : IntKind.i64.wrap ((k : Int) + 1) = ((k + 1 : Nat) : Int) := w64 (by omega) (by omega)
    have c1 := k_spec_l03In (X := X) (n := (k : Int)) (hout.up hp) hol
    have c2 := k_spec_l03In (X := X) (n := (k : Int)) ow.rows (by unfold lim; omega)
    have hh := seen_head hS hk1
    by_cases s1 : (k : Int) ∈ out
    · have hd : ¬ Head es out k := fun hd => hd.1 s1
      have hct := compsTo_no (n := n) hd
      simp only [l2, t1, t5, t6, t7, c1, s1, hw, go_sem, reduceIte, Nat.reduceEqDiff, Nat.reduceAdd, Nat.reduceMul, Nat.reduceLT, Nat.reduceLeDiff, reduceCtorEq, ne_eq, Int.reduceEq, Int.reduceLT, Int.reduceLE, Int.reduceNeg, Int.reduceToNat]
      exact ⟨hk1, hp, hlen, x, w, S, vs, rfl, rfl, hx0, hw0, x1, x2, ow, seen_skip hS hk1 hd, by omega, by rw [hct]; exact oo, hvs⟩
    by_cases s2 : (k : Int) ∈ S
    · have hd : ¬ Head es out k := fun hd => (hh.1 hd).2 s2
      have hct := compsTo_no (n := n) hd
      simp only [l2, t1, t5, t6, t7, c1, c2, s1, s2, hw, go_sem, reduceIte, Nat.reduceEqDiff, Nat.reduceAdd, Nat.reduceMul, Nat.reduceLT, Nat.reduceLeDiff, reduceCtorEq, ne_eq, Int.reduceEq, Int.reduceLT, Int.reduceLE, Int.reduceNeg, Int.reduceToNat]
      exact ⟨hk1, hp, hlen, x, w, S, vs, rfl, rfl, hx0, hw0, x1, x2, ow, seen_skip hS hk1 hd, by omega, by rw [hct]; exact oo, hvs⟩
    have hd := hh.2 ⟨s1, s2⟩
    have hct := compsTo_yes (n := n) hd
    obtain ⟨y, h2, c3, p2, oy⟩ := k_spec_l17Part (X := X) (v := (k : Int)) (he.up hp) (hout.up hp) hl hol hn hE ⟨by omega, by omega⟩ s1
    have hcl := compL_len (es := es) (out := out) (n := n) (v := (k : Int))
    obtain ⟨w', h3, c4, hw3, s3, ow3⟩ := (ow.up p2).growA hw0 oy.rows (by simp [ints_len]; unfold lim; omega)
    have oy3 : Own h3 h'.length h2.length 1 y_int y (ints (compL es out n k)) := oy.same s3 (.inr hlen)
    have hin : ∀ i, i < (compsTo es out n k).length → Sep (vs.getD i nilV) w := by
      intro i hi
      rcases hvs i (by rw [oo.len]; exact hi) with e | e
      · rw [e]; exact sep_nil.symm
      · rcases ow.within with q | ⟨q1, q2, _⟩
        · exact absurd q hw0
        · exact .inr (by omega)
    have hsw : Same (tlo w) (thi w) h2 h3 := by
      rcases ow.within with q | ⟨q1, q2, q3⟩
      · exact absurd q hw0
      · have e1 : tlo w = h.length + 1 := by omega
        have e2 : thi w = h.length + 2 := by omega
        rw [e1, e2]; exact s3
    have oo3 : OwnLLs h3 h.length h'.length y_ints y_int x (compsTo es out n k) vs := by
      refine OwnLLs.apart (w := w) (h := h2) ⟨oo.len, oo.out.up p2, fun i hi => (oo.ins i hi).up p2, oo.so, oo.si⟩ hsw ?_ hin
      rcases ow.within with q | ⟨q1, q2, _⟩
      · exact absurd q hw0
      · exact .inl (by omega)
    have hctl := compsTo_len (es := es) (out := out) (n := n) (k := k)
    have l2' := pre_len p2
    obtain ⟨x', h4, c5, g5, b5, d5, e5, oo5⟩ := oo3.push (by rw [s3.len]; omega) (by rw [s3.len]; omega) oy3 (Nat.le_refl _) (by rw [s3.len]; exact Nat.le_refl _) (by unfold lim; omega)
    obtain ⟨d1, d2, d3⟩ := d5 hx0
    rw [Nat.min_eq_left hp1] at oo5
    unfold graphV at c3
    simp only [l2, t1, t5, t6, t7, c1, c2, c3, c4, s1, s2, oy.cells, c5, hw, go_sem, reduceIte, Nat.reduceEqDiff, Nat.reduceAdd, Nat.reduceMul, Nat.reduceLT, Nat.reduceLeDiff, reduceCtorEq, ne_eq, Int.reduceEq, Int.reduceLT, Int.reduceLE, Int.reduceNeg, Int.reduceToNat]
    have hpp : h <+: h4 := by
      refine pre_of_get (by rw [d1, s3.len]; omega) fun c hc => ?_
      rw [b5 c (by rw [s3.len]; omega) (by omega), s3.blk c (by omega), get_of_pre (hp.trans p2) hc]
    refine ⟨hk1, hpp, by rw [d1, s3.len]; omega, x', w', S ++ compL es out n k, vs ++ [y], rfl, rfl, e5.1, hw3, by omega, by omega, ?_, seen_next hS s1, by simp only [List.length_append]; omega, by rw [hct]; exact oo5, fun i hi => ?_⟩
    · have : Own h4 (h.length + 1) (h.length + 2) 1 y_int w' (ints S ++ ints (compL es out n k)) := by
        refine ⟨ow3.len, ?_⟩
        rcases ow3.is with hn | ⟨c, q1, q2, q3, q4⟩
        · exact .inl hn
        · exact .inr ⟨c, q1, q2, q3, by rw [b5 c (by rw [s3.len]; omega) (by omega)]; exact q4⟩
      rwa [ints_app] at this
    · by_cases e : i < vs.length
      · have : (vs ++ [y]).getD i nilV = vs.getD i nilV := by simp [List.getElem?_append_left e]
        rw [this]; exact hvs i e
      · have e2 : i = vs.length := by simp at hi; omega
        subst e2
        have : (vs ++ [y]).getD vs.length nilV = y := by simp
        rw [this]
        rcases oy.within with q | ⟨q1, _⟩
        · exact .inl q
        · exact .inr (by omega)
  · have hkn : k = n := by omega
    subst hkn
    simp only [t5, go_sem, reduceIte, Nat.reduceEqDiff, Nat.reduceAdd, Nat.reduceMul, Nat.reduceLT, Nat.reduceLeDiff, reduceCtorEq, ne_eq, Int.reduceEq, Int.reduceLT, Int.reduceLE, Int.reduceNeg, Int.reduceToNat]
    exact ⟨oo.out.live, OwnLL.fin hp ⟨vs, oo⟩⟩
end
end Go.Proofs.Ytioogligololoaa.Ab
