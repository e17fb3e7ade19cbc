/- Contracts: what is swapped between two pairings. No conditions. -/
import Derived.Test.YtlndlccbecnjoaaK16
import Derived.Test.YtlndlccbecnjoaaK17
set_option linter.unusedSimpArgs false
set_option linter.unusedVariables false
set_option linter.unnecessarySimpa false
set_option maxHeartbeats 4000000
namespace Go.Proofs.Ytlndlccbecnjoaa.Ab
open Go.RowKit

/-- The edges that are in one of two pairings alone. -/
def swapE (es : List E) (m n : List Cp) : List E := es.filter fun e => decide ((⟨e.a, e.b⟩ : Cp) ∈ m) != decide ((⟨e.a, e.b⟩ : Cp) ∈ n)
theorem swapE_take {es : List E} {m n : List Cp} {i : Nat} (hi : i < es.length) : swapE (es.take (i + 1)) m n = if (decide ((⟨(es.getD i e0).a, (es.getD i e0).b⟩ : Cp) ∈ m) != decide ((⟨(es.getD i e0).a, (es.getD i e0).b⟩ : Cp) ∈ n)) = true then swapE (es.take i) m n ++ [es.getD i e0] else swapE (es.take i) m n := by
  unfold swapE
  rw [take_getD (d := e0) hi, List.filter_append]
  split
  · rename_i h; simp only [List.filter_cons, h, if_true, List.filter_nil]
  · rename_i h; simp only [List.filter_cons, h, List.filter_nil, List.append_nil]; simp
theorem swapE_len {es : List E} {m n : List Cp} : (swapE es m n).length ≤ es.length := List.length_filter_le _ _
theorem swapE_mem {es : List E} {m n : List Cp} {e : E} (h : e ∈ swapE es m n) : e ∈ es := (List.mem_filter.1 h).1
theorem edges_snoc {l : List E} {e : E} : edges (l ++ [e]) = edges l ++ [edgeR e] := by simp [edges]
/-- The longer ones of some lists. -/
def longL (ll : List (List Int)) : List (List Int) := ll.filter fun l => decide (1 < l.length)
theorem longL_take {ll : List (List Int)} {i : Nat} (hi : i < ll.length) : longL (ll.take (i + 1)) = if 1 < (ll.getD i []).length then longL (ll.take i) ++ [ll.getD i []] else longL (ll.take i) := by
  unfold longL
  rw [take_getD (d := []) hi, List.filter_append]
  split
  · rename_i h; simp only [List.filter_cons, h, decide_true, if_true, List.filter_nil]
  · rename_i h; simp only [List.filter_cons, h, decide_false, List.filter_nil, List.append_nil]; simp
theorem longL_len {ll : List (List Int)} : (longL ll).length ≤ ll.length := List.length_filter_le _ _
open Classical in
noncomputable def swapL (es : List E) (m n : List Cp) (size : Int) : List (List Int) := if MOk size es m ∧ MOk size es n then longL (comps (swapE es m n) [] size.toNat) else []
theorem swapL_bnd {es : List E} {m n : List Cp} {size : Int} : (swapL es m n size).length ≤ lim ∧ (∀ l ∈ swapL es m n size, l.length ≤ lim) ∧ (swapL es m n size).length ≤ 1048576 ∧ totLL (swapL es m n size) ≤ 1152921504606846976 := by
  unfold swapL
  split
  · rename_i g
    have gs := g.1.1.1
    have h0 := longL_len (ll := comps (swapE es m n) [] size.toNat)
    have h1 := compsTo_len (es := swapE es m n) (out := []) (n := size.toNat) (k := size.toNat)
    have h2 : ∀ l ∈ longL (comps (swapE es m n) [] size.toNat), l.length ≤ 9 := fun l hl => by have := comps_mem_len (List.mem_filter.1 hl).1; omega
    have h3 := totLL_bnd h2
    unfold comps at *
    refine ⟨by unfold lim; omega, fun l hl => by have := h2 l hl; unfold lim; omega, by omega, by omega⟩
  · exact ⟨Nat.zero_le _, (fun l hl => by cases hl), Nat.zero_le _, Nat.zero_le _⟩

section
variable {X : CallF} {h : Heap} {ev mv nv : Value} {es : List E} {m n : List Cp} {size : Int} {c : Cp}

theorem eq_cp {a b x y : Int} : eqSV [0, 0] false (.agg ⟨[.int .i64 a, .int .i64 b]⟩) (.agg ⟨[.int .i64 x, .int .i64 y]⟩) = some (.bool (decide ((⟨a, b⟩ : Cp) = ⟨x, y⟩))) := by
  simp only [eqSV, eqCells, eqCell, if_true]
  by_cases h1 : a = x
  · by_cases h2 : b = y
    · subst h1; subst h2; simp
    · have hb : (b == y) = false := by rw [beq_eq_false_iff_ne]; exact h2
      subst h1; simp [hb, h2]
  · have ha : (a == x) = false := by rw [beq_eq_false_iff_ne]; exact h1
    simp [ha, h1]

theorem k_impl_hasCouple (hm : Rows h 2 mv (cps m)) (hl : m.length ≤ lim) : C T X n_impl_hasCouple [mv, .agg ⟨[.int .i64 c.a, .int .i64 c.b]⟩] h = some (.bool (decide (c ∈ m)), h) := by
  unfold lim at hl
  refine C_go t_impl_hasCouple rfl ?_
  unfold F_impl_hasCouple
  simp only [hm.lnm, go_sem, reduceIte, Nat.reduceEqDiff, Nat.reduceAdd, Nat.reduceMul, Nat.reduceLT, Nat.reduceLeDiff, reduceCtorEq, ne_eq, Int.reduceEq, Int.reduceLT, Int.reduceLE, Int.reduceNeg, Int.reduceToNat]
  refine w_for m.length (fun i t loc h' => h' = h ∧ loc 3 = some [.int .i64 c.a, .int .i64 c.b] ∧ t 7 = mv ∧ t 8 = .int .i64 m.length ∧ t 9 = .int .i64 i ∧ ∀ j, j < i → ¬ m.getD j c0 = c) ⟨rfl, rfl, rfl, rfl, rfl, fun j hj => by omega⟩ ?_
  rintro i t loc h' hi ⟨rfl, l3, t7, t8, t9, hall⟩
  simp only [t8, t9, go_sem, reduceIte, Nat.reduceEqDiff, Nat.reduceAdd, Nat.reduceMul, Nat.reduceLT, Nat.reduceLeDiff, reduceCtorEq, ne_eq, Int.reduceEq, Int.reduceLT, Int.reduceLE, Int.reduceNeg, Int.reduceToNat]
  refine w_open (by simp only [go_sem, reduceIte, Nat.reduceEqDiff, Nat.reduceAdd, Nat.reduceMul, Nat.reduceLT, Nat.reduceLeDiff, reduceCtorEq, ne_eq, Int.reduceEq, Int.reduceLT, Int.reduceLE, Int.reduceNeg, Int.reduceToNat]; rfl) ?_ ?_ <;> intro hc
  · have hi1 : i < m.length := by omega
    have hw : IntKind.i64.wrap ((i : Int) + 1) = ((i + 1 : Nat) : Int) := w64 (by omega) (by omega)
    have hel := cp_el hm hi1
    by_cases e : m.getD i c0 = c
    · have hm : c ∈ m := e ▸ getD_mem hi1
      have e2 : (⟨(m.getD i c0).a, (m.getD i c0).b⟩ : Cp) = ⟨c.a, c.b⟩ := by rw [e]
      simp only [l3, t7, t8, t9, hel.1, hel.2.2.1, eq_cp, e2, hm, go_sem, reduceIte, Nat.reduceEqDiff, Nat.reduceAdd, Nat.reduceMul, Nat.reduceLT, Nat.reduceLeDiff, reduceCtorEq, ne_eq, Int.reduceEq, Int.reduceLT, Int.reduceLE, Int.reduceNeg, Int.reduceToNat]
    · have e2 : ¬ (⟨(m.getD i c0).a, (m.getD i c0).b⟩ : Cp) = ⟨c.a, c.b⟩ := e
      simp only [l3, t7, t8, t9, hel.1, hel.2.2.1, eq_cp, e2, hw, go_sem, reduceIte, Nat.reduceEqDiff, Nat.reduceAdd, Nat.reduceMul, Nat.reduceLT, Nat.reduceLeDiff, reduceCtorEq, ne_eq, Int.reduceEq, Int.reduceLT, Int.reduceLE, Int.reduceNeg, Int.reduceToNat]
      exact ⟨hi1, below_succ hall e⟩
  · have hm : ¬ c ∈ m := not_mem_getD (d := c0) fun j hj => hall j (by omega)
    simp only [hm, go_sem, reduceIte, Nat.reduceEqDiff, Nat.reduceAdd, Nat.reduceMul, Nat.reduceLT, Nat.reduceLeDiff, reduceCtorEq, ne_eq, Int.reduceEq, Int.reduceLT, Int.reduceLE, Int.reduceNeg, Int.reduceToNat]

theorem k_spec_l17Has (hm : Rows h 2 mv (cps m)) (hl : m.length ≤ lim) : C T X n_spec_l17Has [mv, .agg ⟨[.int .i64 c.a, .int .i64 c.b]⟩] h = some (.bool (decide (c ∈ m)), h) := by
  unfold lim at hl
  refine C_go t_spec_l17Has rfl ?_
  unfold F_spec_l17Has
  simp only [go_sem, reduceIte, Nat.reduceEqDiff, Nat.reduceAdd, Nat.reduceMul, Nat.reduceLT, Nat.reduceLeDiff, reduceCtorEq, ne_eq, Int.reduceEq, Int.reduceLT, Int.reduceLE, Int.reduceNeg, Int.reduceToNat]
  refine w_for m.length (fun i t loc h' => h' = h ∧ loc 3 = some [.int .i64 c.a, .int .i64 c.b] ∧ t 0 = mv ∧ t 5 = .int .i64 i ∧ ∀ j, j < i → ¬ m.getD j c0 = c) ⟨rfl, rfl, rfl, rfl, fun j hj => by omega⟩ ?_
  rintro i t loc h' hi ⟨rfl, l3, t0, t5, hall⟩
  simp only [t0, t5, hm.lnm, go_sem, reduceIte, Nat.reduceEqDiff, Nat.reduceAdd, Nat.reduceMul, Nat.reduceLT, Nat.reduceLeDiff, reduceCtorEq, ne_eq, Int.reduceEq, Int.reduceLT, Int.reduceLE, Int.reduceNeg, Int.reduceToNat]
  refine w_open (by simp only [go_sem, reduceIte, Nat.reduceEqDiff, Nat.reduceAdd, Nat.reduceMul, Nat.reduceLT, Nat.reduceLeDiff, reduceCtorEq, ne_eq, Int.reduceEq, Int.reduceLT, Int.reduceLE, Int.reduceNeg, Int.reduceToNat]; rfl) ?_ ?_ <;> intro hc
  · have hi1 : i < m.length := by omega
    have hw : IntKind.i64.wrap ((i : Int) + 1) = ((i + 1 : Nat) : Int) := w64 (by omega) (by omega)
    have hel := cp_el hm hi1
    by_cases e : m.getD i c0 = c
    · have hm : c ∈ m := e ▸ getD_mem hi1
      have e2 : (⟨(m.getD i c0).a, (m.getD i c0).b⟩ : Cp) = ⟨c.a, c.b⟩ := by rw [e]
      simp only [l3, t0, t5, hel.1, hel.2.2.1, eq_cp, e2, hm, go_sem, reduceIte, Nat.reduceEqDiff, Nat.reduceAdd, Nat.reduceMul, Nat.reduceLT, Nat.reduceLeDiff, reduceCtorEq, ne_eq, Int.reduceEq, Int.reduceLT, Int.reduceLE, Int.reduceNeg, Int.reduceToNat]
    · have e2 : ¬ (⟨(m.getD i c0).a, (m.getD i c0).b⟩ : Cp) = ⟨c.a, c.b⟩ := e
      simp only [l3, t0, t5, hel.1, hel.2.2.1, eq_cp, e2, hw, go_sem, reduceIte, Nat.reduceEqDiff, Nat.reduceAdd, Nat.reduceMul, Nat.reduceLT, Nat.reduceLeDiff, reduceCtorEq, ne_eq, Int.reduceEq, Int.reduceLT, Int.reduceLE, Int.reduceNeg, Int.reduceToNat]
      exact ⟨hi1, below_succ hall e⟩
  · have hm : ¬ c ∈ m := not_mem_getD (d := c0) fun j hj => hall j (by omega)
    simp only [hm, go_sem, reduceIte, Nat.reduceEqDiff, Nat.reduceAdd, Nat.reduceMul, Nat.reduceLT, Nat.reduceLeDiff, reduceCtorEq, ne_eq, Int.reduceEq, Int.reduceLT, Int.reduceLE, Int.reduceNeg, Int.reduceToNat]

/-- Of a list of lists of one's own the longer ones are handed on. -/
theorem pick_push {h : Heap} {lo hi lo2 hi2 : Nat} {v w : Value} {ll kk : List (List Int)} {vs ws : List Value} (o : OwnLLs h lo hi y_ints y_int v ll vs) (q : OwnLLs h lo2 hi2 y_ints y_int w kk ws) (hlo : lo ≤ h.length) (hhi : hi ≤ h.length) (hhi2 : hi2 ≤ h.length) {i : Nat} (hi1 : i < kk.length)
    (hsv : Sep v (ws.getD i nilV)) (hss : ∀ j, j < ll.length → Sep (vs.getD j nilV) (ws.getD i nilV)) (hl : ll.length < lim) :
    ∃ v' h', appLW h 1 y_ints 1 v (some [ws.getD i nilV]) = some (v', h') ∧ h.length ≤ h'.length ∧ (∀ b, b < h.length → (b < tlo v ∨ thi v ≤ b) → h'[b]? = h[b]?) ∧ (v ≠ nilV → h'.length = h.length ∧ tlo v' = tlo v ∧ thi v' = thi v) ∧
      (v' ≠ nilV ∧ (v = nilV → tlo v' = h.length)) ∧ OwnLLs h' (min lo lo2) h'.length y_ints y_int v' (ll ++ [kk.getD i []]) (vs ++ [ws.getD i nilV]) :=
  o.pushG hlo hhi (q.ins i hi1) hsv hss hhi2 hl

theorem OwnLLs.any {h : Heap} {lo hi : Nat} {tyO tyI : TypeId} {ll : List (List Int)} {vs : List Value} {v : Value} (o : OwnLLs h lo hi tyO tyI v ll vs) {i : Nat} (hi1 : i < ll.length) : vs.getD i nilV = nilV ∨ (lo ≤ tlo (vs.getD i nilV) ∧ thi (vs.getD i nilV) ≤ hi) := by
  rcases (o.ins i hi1).within with h | ⟨h1, h2, _⟩
  · exact .inl h
  · exact .inr ⟨h1, h2⟩

open Classical in
theorem k_impl_Swapped (he : Rows h 5 ev (edges es)) (hm : Rows h 2 mv (cps m)) (hn : Rows h 2 nv (cps n)) (hl : es.length ≤ lim) (hml : m.length ≤ 1048576) (hnl : n.length ≤ 1048576) :
    ∃ x hh, C T X n_impl_Swapped [graphV size ev, mv, nv] h = some (x, hh) ∧ h <+: hh ∧ OwnLL hh h.length hh.length y_ints y_int x (swapL es m n size) := by
  have k1 := k_impl_MatchOk (X := X) (size := size) he hm hl hml
  have k2 := k_impl_MatchOk (X := X) (size := size) he hn hl hnl
  refine C_ex t_impl_Swapped rfl ?_
  unfold F_impl_Swapped swapL
  by_cases g1 : MOk size es m
  rotate_left
  · unfold graphV at k1 k2 ⊢
    simp only [k1, g1, go_sem, reduceIte, Nat.reduceEqDiff, Nat.reduceAdd, Nat.reduceMul, Nat.reduceLT, Nat.reduceLeDiff, reduceCtorEq, ne_eq, Int.reduceEq, Int.reduceLT, Int.reduceLE, Int.reduceNeg, Int.reduceToNat]
    exact ⟨List.prefix_refl _, OwnLL.nil⟩
  by_cases g2 : MOk size es n
  rotate_left
  · unfold graphV at k1 k2 ⊢
    simp only [k1, k2, g1, g2, go_sem, reduceIte, Nat.reduceEqDiff, Nat.reduceAdd, Nat.reduceMul, Nat.reduceLT, Nat.reduceLeDiff, reduceCtorEq, ne_eq, Int.reduceEq, Int.reduceLT, Int.reduceLE, Int.reduceNeg, Int.reduceToNat]
    exact ⟨List.prefix_refl _, OwnLL.nil⟩
  have gs := g1.1.1
  unfold graphV at k1 k2 ⊢
  simp only [k1, k2, g1, g2, he.lnm, go_sem, reduceIte, Nat.reduceEqDiff, Nat.reduceAdd, Nat.reduceMul, Nat.reduceLT, Nat.reduceLeDiff, reduceCtorEq, ne_eq, Int.reduceEq, Int.reduceLT, Int.reduceLE, Int.reduceNeg, Int.reduceToNat]
  have hes := gok_len g1.1
  refine w_for es.length (fun i t loc h' => loc 3 = some [.int .i64 size, ev] ∧ t 1 = mv ∧ t 2 = nv ∧ t 25 = ev ∧ t 26 = .int .i64 es.length ∧ t 27 = .int .i64 i ∧ h <+: h' ∧ ∃ v, t 7 = v ∧ Acc h 5 y_Edge v (edges (swapE (es.take i) m n)) h') ⟨rfl, rfl, rfl, rfl, rfl, rfl, List.prefix_refl _, _, rfl, Acc.nil⟩ ?_
  rintro i t loc h' hi ⟨l3, t1, t2, t25, t26, t27, hp, v, t7, ha⟩
  simp only [t26, t27, go_sem, reduceIte, Nat.reduceEqDiff, Nat.reduceAdd, Nat.reduceMul, Nat.reduceLT, Nat.reduceLeDiff, reduceCtorEq, ne_eq, Int.reduceEq, Int.reduceLT, Int.reduceLE, Int.reduceNeg, Int.reduceToNat]
  refine w_open (by simp only [go_sem, reduceIte, Nat.reduceEqDiff, Nat.reduceAdd, Nat.reduceMul, Nat.reduceLT, Nat.reduceLeDiff, reduceCtorEq, ne_eq, Int.reduceEq, Int.reduceLT, Int.reduceLE, Int.reduceNeg, Int.reduceToNat]; rfl) ?_ ?_ <;> intro hc
  · have hi1 : i < es.length := by omega
    have hw : IntKind.i64.wrap ((i : Int) + 1) = ((i + 1 : Nat) : Int) := w64 (by omega) (by omega)
    have hel := edge_el (he.up hp) hi1
    have hst := swapE_take (m := m) (n := n) hi1
    have c1 := k_impl_hasCouple (X := X) (c := ⟨(es.getD i e0).a, (es.getD i e0).b⟩) (hm.up hp) (by unfold lim; omega)
    have c2 := k_impl_hasCouple (X := X) (c := ⟨(es.getD i e0).a, (es.getD i e0).b⟩) (hn.up hp) (by unfold lim; omega)
    have hsl := swapE_len (es := es.take i) (m := m) (n := n)
    have hsl2 : (es.take i).length ≤ es.length := by simp; omega
    cases hb : (decide ((⟨(es.getD i e0).a, (es.getD i e0).b⟩ : Cp) ∈ m) == decide ((⟨(es.getD i e0).a, (es.getD i e0).b⟩ : Cp) ∈ n)) with
    | true =>
      rw [if_neg (by simp only [bne, hb]; simp)] at hst
      simp only [l3, t1, t2, t7, t25, t26, t27, hel.1, hel.2.2.1, c1, c2, hb, hw, List.prefix_refl, go_sem, reduceIte, Nat.reduceEqDiff, Nat.reduceAdd, Nat.reduceMul, Nat.reduceLT, Nat.reduceLeDiff, reduceCtorEq, ne_eq, Int.reduceEq, Int.reduceLT, Int.reduceLE, Int.reduceNeg, Int.reduceToNat]
      exact ⟨hi1, hp, v, rfl, by rw [hst]; exact ha⟩
    | false =>
      rw [if_pos (by simp only [bne, hb]; simp)] at hst
      obtain ⟨v', h2, c, ha'⟩ := ha.push1 (edgeR (es.getD i e0)) (edgeR_len _) (by rw [List.length_map]; unfold lim; omega)
      unfold edgeR at c
      simp only [l3, t1, t2, t7, t25, t26, t27, hel.1, hel.2.2.1, c1, c2, hb, c, hw, List.prefix_refl, go_sem, reduceIte, Nat.reduceEqDiff, Nat.reduceAdd, Nat.reduceMul, Nat.reduceLT, Nat.reduceLeDiff, reduceCtorEq, ne_eq, Int.reduceEq, Int.reduceLT, Int.reduceLE, Int.reduceNeg, Int.reduceToNat]
      refine ⟨hi1, ha'.up, v', rfl, ?_⟩
      rw [hst, edges_snoc]
      exact ha'
  have hil : i = es.length := by omega
  subst hil
  rw [List.take_length] at ha
  have hE : ∀ e ∈ swapE es m n, EOk size e := fun e he => gok_mem g1.1 (swapE_mem he)
  have hsl := swapE_len (es := es) (m := m) (n := n)
  obtain ⟨x, h2, c, p2, o2⟩ := k_impl_pieces (X := X) (out := []) ha.rows (Rows.nil : Rows h' 1 (.slice none 0 0) (ints [])) (by unfold lim; omega) (Nat.zero_le _) gs hE
  have hcl := compsTo_len (es := swapE es m n) (out := []) (n := size.toNat) (k := size.toNat)
  obtain ⟨K, hK⟩ : ∃ K, K = comps (swapE es m n) [] size.toNat := ⟨_, rfl⟩
  rw [← hK] at o2
  have hKl : K.length ≤ 9 := by rw [hK]; unfold comps; omega
  obtain ⟨ws, o2⟩ := o2
  have lnK := (OwnLL.rows ⟨ws, o2⟩).ln
  simp only [l3, t7, c, lnK, go_sem, reduceIte, Nat.reduceEqDiff, Nat.reduceAdd, Nat.reduceMul, Nat.reduceLT, Nat.reduceLeDiff, reduceCtorEq, ne_eq, Int.reduceEq, Int.reduceLT, Int.reduceLE, Int.reduceNeg, Int.reduceToNat]
  have hpp : h <+: h2 := hp.trans p2
  refine w_for K.length (fun k t loc h' => t 51 = x ∧ t 52 = .int .i64 K.length ∧ t 53 = .int .i64 k ∧ h2.length ≤ h'.length ∧ (∀ b, b < h2.length → h'[b]? = h2[b]?) ∧ ∃ (y : Value) (vs : List Value), t 11 = y ∧ OwnLLs h' (min h2.length h.length) h'.length y_ints y_int y (longL (K.take k)) vs ∧ (y = nilV ∨ h2.length ≤ tlo y) ∧ ∀ j, j < vs.length → ∃ r, r < k ∧ vs.getD j nilV = ws.getD r nilV)
    ⟨rfl, rfl, rfl, Nat.le_refl _, fun _ _ => rfl, _, [], rfl, ⟨rfl, Own.nil, fun i hi => (by simp [longL] at hi), fun i hi => (by simp [longL] at hi), fun i j _ hi => (by simp [longL] at hi)⟩, .inl rfl, fun j hj => (by simp at hj)⟩ ?_
  rintro k t loc h3 hk ⟨t51, t52, t53, hg, hb, y, vs, t11, oo, hy, hvs⟩
  have hpre : h2 <+: h3 := pre_of_get hg hb
  have o3 : OwnLLs h3 h'.length h2.length y_ints y_int x K ws := ⟨o2.len, o2.out.up hpre, fun i hi => (o2.ins i hi).up hpre, o2.so, o2.si⟩
  simp only [t52, t53, go_sem, reduceIte, Nat.reduceEqDiff, Nat.reduceAdd, Nat.reduceMul, Nat.reduceLT, Nat.reduceLeDiff, reduceCtorEq, ne_eq, Int.reduceEq, Int.reduceLT, Int.reduceLE, Int.reduceNeg, Int.reduceToNat]
  refine w_open (by simp only [go_sem, reduceIte, Nat.reduceEqDiff, Nat.reduceAdd, Nat.reduceMul, Nat.reduceLT, Nat.reduceLeDiff, reduceCtorEq, ne_eq, Int.reduceEq, Int.reduceLT, Int.reduceLE, Int.reduceNeg, Int.reduceToNat]; rfl) ?_ ?_ <;> intro hc
  · have hk1 : k < K.length := by omega
    have hw : IntKind.i64.wrap ((k : Int) + 1) = ((k + 1 : Nat) : Int) := w64 (by omega) (by omega)
    obtain ⟨z, e1, e2, e3⟩ := (OwnLL.rows ⟨ws, o3⟩).el hk1
    have hz : z = ws.getD k nilV := by
      have := o3.out.rows.el (f := fun x => [x]) nilV (i := k) (by rw [o3.len]; exact hk1)
      rw [this.2.2] at e2
      simpa using e2.symm
    subst hz
    have hlt := longL_take hk1
    by_cases s1 : 1 < (K.getD k []).length
    · rw [if_pos s1] at hlt
      have s1' : (1 : Int) < ((K.getD k []).length : Int) := by omega
      have hll := longL_len (ll := K.take k)
      have hkl : (K.take k).length = k := by simp; omega
      have sv : Sep y (ws.getD k nilV) := by
        rcases hy with rfl | hy
        · exact sep_nil.symm
        · rcases o3.any hk1 with q | ⟨_, q⟩
          · rw [q]; exact sep_nil
          · exact .inr (by omega)
      have ss : ∀ j, j < (longL (K.take k)).length → Sep (vs.getD j nilV) (ws.getD k nilV) := fun j hj => by
        obtain ⟨r, hr, e⟩ := hvs j (by rw [oo.len]; exact hj)
        rw [e]
        exact o3.si r k hr hk1
      obtain ⟨y', h4, c4, g4, b4, d4, f4, oo4⟩ := pick_push oo o3 (by have := pre_len hpp; omega) (Nat.le_refl _) hg hk1 sv ss (by unfold lim; omega)
      have hyn : y' ≠ nilV := f4.1
      have hcell := e3.cells
      simp only [t11, t51, t52, t53, e1, e2, ints_ln e3, s1', hcell, c4, hw, go_sem, reduceIte, Nat.reduceEqDiff, Nat.reduceAdd, Nat.reduceMul, Nat.reduceLT, Nat.reduceLeDiff, reduceCtorEq, ne_eq, Int.reduceEq, Int.reduceLT, Int.reduceLE, Int.reduceNeg, Int.reduceToNat]
      have hty : y' = nilV ∨ h2.length ≤ tlo y' := by
        rcases hy with rfl | hy'
        · exact .inr (by rw [f4.2 rfl]; exact hg)
        · by_cases hyz : y = nilV
          · exact .inr (by rw [f4.2 hyz]; exact hg)
          · exact .inr (by rw [(d4 hyz).2.1]; exact hy')
      refine ⟨hk1, by omega, fun b hb' => ?_, y', vs ++ [ws.getD k nilV], rfl, ?_, hty, fun j hj => ?_⟩
      · rw [b4 b (by omega) ?_, hb b hb']
        rcases hy with rfl | hy
        · exact .inr (Nat.zero_le _)
        · exact .inl (by omega)
      · rw [hlt]
        have := pre_len hp
        rw [show min (min h2.length h.length) h'.length = min h2.length h.length by omega] at oo4
        exact oo4
      · by_cases e : j < vs.length
        · have : (vs ++ [ws.getD k nilV]).getD j nilV = vs.getD j nilV := by simp [List.getElem?_append_left e]
          rw [this]
          obtain ⟨r, hr, e5⟩ := hvs j e
          exact ⟨r, by omega, e5⟩
        · have e2 : j = vs.length := by simp at hj; omega
          subst e2
          exact ⟨k, by omega, by simp⟩
    · rw [if_neg s1] at hlt
      have s1' : ¬ (1 : Int) < ((K.getD k []).length : Int) := by omega
      simp only [t11, t51, t52, t53, e1, e2, ints_ln e3, s1', hw, go_sem, reduceIte, Nat.reduceEqDiff, Nat.reduceAdd, Nat.reduceMul, Nat.reduceLT, Nat.reduceLeDiff, reduceCtorEq, ne_eq, Int.reduceEq, Int.reduceLT, Int.reduceLE, Int.reduceNeg, Int.reduceToNat]
      exact ⟨hk1, hg, hb, y, vs, rfl, by rw [hlt]; exact oo, hy, fun j hj => by obtain ⟨r, hr, e⟩ := hvs j hj; exact ⟨r, by omega, e⟩⟩
  · have hkK : k = K.length := by omega
    subst hkK
    rw [List.take_length, hK] at oo
    simp only [t11, go_sem, reduceIte, Nat.reduceEqDiff, Nat.reduceAdd, Nat.reduceMul, Nat.reduceLT, Nat.reduceLeDiff, reduceCtorEq, ne_eq, Int.reduceEq, Int.reduceLT, Int.reduceLE, Int.reduceNeg, Int.reduceToNat]
    have := pre_len hpp
    exact ⟨oo.out.live, OwnLL.fin (hpp.trans hpre) (OwnLL.wide ⟨vs, oo⟩ (by omega) (Nat.le_refl _))⟩

open Classical in
theorem k_spec_Swapped (he : Rows h 5 ev (edges es)) (hm : Rows h 2 mv (cps m)) (hn : Rows h 2 nv (cps n)) (hl : es.length ≤ lim) (hml : m.length ≤ 1048576) (hnl : n.length ≤ 1048576) :
    ∃ x hh, C T X n_spec_Swapped [graphV size ev, mv, nv] h = some (x, hh) ∧ h <+: hh ∧ OwnLL hh h.length hh.length y_ints y_int x (swapL es m n size) := by
  obtain ⟨h1, hh1⟩ : ∃ h1 : Heap, h1 = h ++ [⟨[], 1, y_ints, true⟩] := ⟨_, rfl⟩
  have p1 : h <+: h1 := by rw [hh1]; exact List.prefix_append _ _
  have l1 : h1.length = h.length + 1 := by rw [hh1]; simp
  have o7 : Own h1 h.length (h.length + 1) 1 y_ints (.slice (some ⟨h.length, 0, none⟩) 0 0) [] := by
    have := (Acc.new (h := h) (sz := 1) (ty := y_ints)).own
    rw [← hh1, l1] at this; exact this
  have k1 := k_spec_MatchOk (X := X) (size := size) (he.up p1) (hm.up p1) hl hml
  have k2 := k_spec_MatchOk (X := X) (size := size) (he.up p1) (hn.up p1) hl hnl
  refine C_ex t_spec_Swapped rfl ?_
  unfold F_spec_Swapped swapL
  by_cases g1 : MOk size es m
  rotate_left
  · unfold graphV at k1 k2 ⊢
    simp only [k1, g1, ← hh1, zeros, fillAt, go_sem, reduceIte, Nat.reduceEqDiff, Nat.reduceAdd, Nat.reduceMul, Nat.reduceLT, Nat.reduceLeDiff, reduceCtorEq, ne_eq, Int.reduceEq, Int.reduceLT, Int.reduceLE, Int.reduceNeg, Int.reduceToNat]
    exact OwnLL.fin p1 (OwnLL.zero (by rw [l1]; exact o7))
  by_cases g2 : MOk size es n
  rotate_left
  · unfold graphV at k1 k2 ⊢
    simp only [k1, k2, g1, g2, ← hh1, zeros, fillAt, go_sem, reduceIte, Nat.reduceEqDiff, Nat.reduceAdd, Nat.reduceMul, Nat.reduceLT, Nat.reduceLeDiff, reduceCtorEq, ne_eq, Int.reduceEq, Int.reduceLT, Int.reduceLE, Int.reduceNeg, Int.reduceToNat]
    exact OwnLL.fin p1 (OwnLL.zero (by rw [l1]; exact o7))
  have gs := g1.1.1
  have hes := gok_len g1.1
  obtain ⟨nn, hnn⟩ := Int.eq_ofNat_of_zero_le gs.1
  unfold graphV at k1 k2 ⊢
  simp only [k1, k2, g1, g2, ← hh1, zeros, fillAt, go_sem, reduceIte, Nat.reduceEqDiff, Nat.reduceAdd, Nat.reduceMul, Nat.reduceLT, Nat.reduceLeDiff, reduceCtorEq, ne_eq, Int.reduceEq, Int.reduceLT, Int.reduceLE, Int.reduceNeg, Int.reduceToNat]
  refine w_for es.length (fun i t loc h' => loc 3 = some [.int .i64 size, ev] ∧ t 1 = mv ∧ t 2 = nv ∧ t 7 = .slice (some ⟨h.length, 0, none⟩) 0 0 ∧ t 9 = .int .i64 i ∧ h1 <+: h' ∧ ∃ v, loc 8 = some [.int .i64 size, v] ∧ Acc h1 5 y_Edge v (edges (swapE (es.take i) m n)) h') ⟨rfl, rfl, rfl, rfl, rfl, List.prefix_refl _, _, rfl, Acc.nil⟩ ?_
  rintro i t loc h' hi ⟨l3, t1, t2, t7, t9, hp, v, l8, ha⟩
  simp only [l3, t9, (he.up (p1.trans hp)).lnm, go_sem, reduceIte, Nat.reduceEqDiff, Nat.reduceAdd, Nat.reduceMul, Nat.reduceLT, Nat.reduceLeDiff, reduceCtorEq, ne_eq, Int.reduceEq, Int.reduceLT, Int.reduceLE, Int.reduceNeg, Int.reduceToNat]
  refine w_open (by simp only [go_sem, reduceIte, Nat.reduceEqDiff, Nat.reduceAdd, Nat.reduceMul, Nat.reduceLT, Nat.reduceLeDiff, reduceCtorEq, ne_eq, Int.reduceEq, Int.reduceLT, Int.reduceLE, Int.reduceNeg, Int.reduceToNat]; rfl) ?_ ?_ <;> intro hc
  · have hi1 : i < es.length := by omega
    have hw : IntKind.i64.wrap ((i : Int) + 1) = ((i + 1 : Nat) : Int) := w64 (by omega) (by omega)
    have hel := edge_el (he.up (p1.trans hp)) hi1
    have hst := swapE_take (m := m) (n := n) hi1
    have c1 := k_spec_l17Has (X := X) (c := ⟨(es.getD i e0).a, (es.getD i e0).b⟩) (hm.up (p1.trans hp)) (by unfold lim; omega)
    have c2 := k_spec_l17Has (X := X) (c := ⟨(es.getD i e0).a, (es.getD i e0).b⟩) (hn.up (p1.trans hp)) (by unfold lim; omega)
    have hsl := swapE_len (es := es.take i) (m := m) (n := n)
    have hsl2 : (es.take i).length ≤ es.length := by simp; omega
    cases hb : (decide ((⟨(es.getD i e0).a, (es.getD i e0).b⟩ : Cp) ∈ m) == decide ((⟨(es.getD i e0).a, (es.getD i e0).b⟩ : Cp) ∈ n)) with
    | true =>
      rw [if_neg (by simp only [bne, hb]; simp)] at hst
      simp only [l3, l8, t1, t2, t7, t9, hel, c1, c2, hb, hw, List.prefix_refl, go_sem, reduceIte, Nat.reduceEqDiff, Nat.reduceAdd, Nat.reduceMul, Nat.reduceLT, Nat.reduceLeDiff, reduceCtorEq, ne_eq, Int.reduceEq, Int.reduceLT, Int.reduceLE, Int.reduceNeg, Int.reduceToNat]
      exact ⟨hi1, hp, v, rfl, by rw [hst]; exact ha⟩
    | false =>
      rw [if_pos (by simp only [bne, hb]; simp)] at hst
      obtain ⟨v', h2, c, ha'⟩ := ha.push1 (edgeR (es.getD i e0)) (edgeR_len _) (by rw [List.length_map]; unfold lim; omega)
      unfold edgeR at c
      simp only [l3, l8, t1, t2, t7, t9, hel, c1, c2, hb, c, ha'.own.cells, hw, List.prefix_refl, go_sem, reduceIte, Nat.reduceEqDiff, Nat.reduceAdd, Nat.reduceMul, Nat.reduceLT, Nat.reduceLeDiff, reduceCtorEq, ne_eq, Int.reduceEq, Int.reduceLT, Int.reduceLE, Int.reduceNeg, Int.reduceToNat]
      refine ⟨hi1, ha'.up, v', rfl, ?_⟩
      rw [hst, edges_snoc]
      exact ha'
  have hil : i = es.length := by omega
  subst hil
  rw [List.take_length] at ha
  have hE : ∀ e ∈ swapE es m n, EOk nn e := fun e he => by have := gok_mem g1.1 (swapE_mem he); rw [hnn] at this; exact this
  have hsl := swapE_len (es := es) (m := m) (n := n)
  obtain ⟨h2, hh2⟩ : ∃ h2 : Heap, h2 = h' ++ [⟨[], 1, y_int, true⟩] := ⟨_, rfl⟩
  have p2 : h' <+: h2 := by rw [hh2]; exact List.prefix_append _ _
  have hnl : Rows h2 1 (.slice (some ⟨h'.length, 0, none⟩) 0 0) (ints []) := by rw [hh2]; exact (Acc.new (h := h') (sz := 1) (ty := y_int)).own.rows
  obtain ⟨x, h3, c, p3, o3⟩ := k_spec_l17Parts (X := X) (ha.rows.up p2) hnl (by unfold lim; omega) (Nat.zero_le _) (n := nn) (by omega) hE
  have hcl := compsTo_len (es := swapE es m n) (out := []) (n := size.toNat) (k := size.toNat)
  have hsn : size.toNat = nn := by omega
  obtain ⟨K, hK⟩ : ∃ K, K = comps (swapE es m n) [] size.toNat := ⟨_, rfl⟩
  rw [← hsn, ← hK] at o3
  have hKl : K.length ≤ 9 := by rw [hK]; unfold comps; omega
  obtain ⟨ws, o3⟩ := o3
  unfold graphV at c
  rw [← hnn] at c
  simp only [l8, t7, zeros, fillAt, ← hh2, c, List.prefix_refl, p2, p3, go_sem, reduceIte, Nat.reduceEqDiff, Nat.reduceAdd, Nat.reduceMul, Nat.reduceLT, Nat.reduceLeDiff, reduceCtorEq, ne_eq, Int.reduceEq, Int.reduceLT, Int.reduceLE, Int.reduceNeg, Int.reduceToNat]
  have hpp : h <+: h3 := p1.trans (hp.trans (p2.trans p3))
  have lo3 := pre_len (hp.trans p2)
  have lo4 := pre_len p3
  have o73 : Own h3 h.length (h.length + 1) 1 y_ints (.slice (some ⟨h.length, 0, none⟩) 0 0) [] := o7.up (hp.trans (p2.trans p3))
  refine w_for K.length (fun k t loc h' => t 11 = x ∧ t 12 = .int .i64 k ∧ h'.length = h3.length ∧ (∀ b, b < h3.length → b ≠ h.length → h'[b]? = h3[b]?) ∧ ∃ (y : Value) (vs : List Value), t 7 = y ∧ OwnLLs h' h.length h'.length y_ints y_int y (longL (K.take k)) vs ∧ y ≠ nilV ∧ tlo y = h.length ∧ thi y = h.length + 1 ∧ ∀ j, j < vs.length → ∃ r, r < k ∧ vs.getD j nilV = ws.getD r nilV)
    ⟨rfl, rfl, rfl, fun _ _ _ => rfl, _, [], rfl, ⟨rfl, o73.wide (Nat.le_refl _) (by omega), fun i hi => (by simp [longL] at hi), fun i hi => (by simp [longL] at hi), fun i j _ hi => (by simp [longL] at hi)⟩, slice_nz, rfl, rfl, fun j hj => (by simp at hj)⟩ ?_
  rintro k t loc h4 hk ⟨t11, t12, hg, hb, y, vs, t7, oo, hy0, hy1, hy2, hvs⟩
  have tr : ∀ {z : Value} {ty : TypeId} {rr : List (List Value)}, Own h3 h2.length h3.length 1 ty z rr → Own h4 h2.length h3.length 1 ty z rr := by
    intro z ty rr oz
    refine ⟨oz.len, ?_⟩
    rcases oz.is with hn | ⟨b, q1, q2, q3, q4⟩
    · exact .inl hn
    · exact .inr ⟨b, q1, q2, q3, by rw [hb b q2 (by omega)]; exact q4⟩
  have o4 : OwnLLs h4 h2.length h3.length y_ints y_int x K ws := ⟨o3.len, tr o3.out, fun i hi => tr (o3.ins i hi), o3.so, o3.si⟩
  have lnK := (OwnLL.rows ⟨ws, o4⟩).ln
  simp only [t11, t12, lnK, go_sem, reduceIte, Nat.reduceEqDiff, Nat.reduceAdd, Nat.reduceMul, Nat.reduceLT, Nat.reduceLeDiff, reduceCtorEq, ne_eq, Int.reduceEq, Int.reduceLT, Int.reduceLE, Int.reduceNeg, Int.reduceToNat]
  refine w_open (by simp only [go_sem, reduceIte, Nat.reduceEqDiff, Nat.reduceAdd, Nat.reduceMul, Nat.reduceLT, Nat.reduceLeDiff, reduceCtorEq, ne_eq, Int.reduceEq, Int.reduceLT, Int.reduceLE, Int.reduceNeg, Int.reduceToNat]; rfl) ?_ ?_ <;> intro hc
  · have hk1 : k < K.length := by omega
    have hw : IntKind.i64.wrap ((k : Int) + 1) = ((k + 1 : Nat) : Int) := w64 (by omega) (by omega)
    obtain ⟨z, e1, e2, e3⟩ := (OwnLL.rows ⟨ws, o4⟩).el hk1
    have hz : z = ws.getD k nilV := by
      have := o4.out.rows.el (f := fun x => [x]) nilV (i := k) (by rw [o4.len]; exact hk1)
      rw [this.2.2] at e2
      simpa using e2.symm
    subst hz
    have hlt := longL_take hk1
    by_cases s1 : 1 < (K.getD k []).length
    · rw [if_pos s1] at hlt
      have s1' : (1 : Int) < ((K.getD k []).length : Int) := by omega
      have hll := longL_len (ll := K.take k)
      have hkl : (K.take k).length = k := by simp; omega
      have sv : Sep y (ws.getD k nilV) := by
        rcases o4.any hk1 with q | ⟨q, _⟩
        · rw [q]; exact sep_nil
        · exact .inl (by omega)
      have ss : ∀ j, j < (longL (K.take k)).length → Sep (vs.getD j nilV) (ws.getD k nilV) := fun j hj => by
        obtain ⟨r, hr, e⟩ := hvs j (by rw [oo.len]; exact hj)
        rw [e]
        exact o4.si r k hr hk1
      obtain ⟨y', h5, c5, g5, b5, d5, f5, oo5⟩ := pick_push oo o4 (by omega) (Nat.le_refl _) (by omega) hk1 sv ss (by unfold lim; omega)
      have hcell := e3.cells
      obtain ⟨d1, d2, d3⟩ := d5 hy0
      simp only [t7, t11, t12, e1, e2, ints_ln e3, s1', hcell, c5, hw, go_sem, reduceIte, Nat.reduceEqDiff, Nat.reduceAdd, Nat.reduceMul, Nat.reduceLT, Nat.reduceLeDiff, reduceCtorEq, ne_eq, Int.reduceEq, Int.reduceLT, Int.reduceLE, Int.reduceNeg, Int.reduceToNat]
      refine ⟨hk1, by omega, fun b hb1 hb2 => ?_, y', vs ++ [ws.getD k nilV], rfl, ?_, f5.1, by omega, by omega, fun j hj => ?_⟩
      · rw [b5 b (by omega) (by omega), hb b hb1 hb2]
      · rw [hlt]
        rw [show min h.length h2.length = h.length by omega] at oo5
        exact oo5
      · by_cases e : j < vs.length
        · have : (vs ++ [ws.getD k nilV]).getD j nilV = vs.getD j nilV := by simp [List.getElem?_append_left e]
          rw [this]
          obtain ⟨r, hr, e5⟩ := hvs j e
          exact ⟨r, by omega, e5⟩
        · have e2 : j = vs.length := by simp at hj; omega
          subst e2
          exact ⟨k, by omega, by simp⟩
    · rw [if_neg s1] at hlt
      have s1' : ¬ (1 : Int) < ((K.getD k []).length : Int) := by omega
      simp only [t7, t11, t12, e1, e2, ints_ln e3, s1', hw, go_sem, reduceIte, Nat.reduceEqDiff, Nat.reduceAdd, Nat.reduceMul, Nat.reduceLT, Nat.reduceLeDiff, reduceCtorEq, ne_eq, Int.reduceEq, Int.reduceLT, Int.reduceLE, Int.reduceNeg, Int.reduceToNat]
      exact ⟨hk1, hg, hb, y, vs, rfl, by rw [hlt]; exact oo, hy0, hy1, hy2, fun j hj => by obtain ⟨r, hr, e⟩ := hvs j hj; exact ⟨r, by omega, e⟩⟩
  · have hkK : k = K.length := by omega
    subst hkK
    rw [List.take_length, hK] at oo
    simp only [t7, go_sem, reduceIte, Nat.reduceEqDiff, Nat.reduceAdd, Nat.reduceMul, Nat.reduceLT, Nat.reduceLeDiff, reduceCtorEq, ne_eq, Int.reduceEq, Int.reduceLT, Int.reduceLE, Int.reduceNeg, Int.reduceToNat]
    have hpre : h <+: h4 := pre_of_get (by have := pre_len hpp; omega) fun b hb' => by rw [hb b (by have := pre_len hpp; omega) (by omega), get_of_pre hpp hb']
    exact ⟨oo.out.live, OwnLL.fin hpre ⟨vs, oo⟩⟩
end
end Go.Proofs.Ytlndlccbecnjoaa.Ab
