/- Contracts: the most couples. No conditions. -/
import Derived.Test.YtioogligololoaaP5
import Derived.Test.YtioogligololoaaK11
import Derived.Test.YtioogligololoaaK18
import Derived.Test.YtioogligololoaaK30
set_option linter.unusedSimpArgs false
set_option linter.unusedVariables false
set_option linter.unnecessarySimpa false
set_option maxHeartbeats 4000000
namespace Go.Proofs.Ytioogligololoaa.Ab
open Go.RowKit

/-- A memory, and a cell of one's own above it. -/
def cellM (h : Heap) (c : Nat) : Heap := h ++ [⟨[.int .i64 (c : Int)], 1, y_int, true⟩]
theorem cellM_len {h : Heap} {c : Nat} : (cellM h c).length = h.length + 1 := by simp [cellM]
theorem cellM_up {h : Heap} {c : Nat} : h <+: cellM h c := List.prefix_append _ _
theorem cellM_ld {h : Heap} {c : Nat} : ldC (cellM h c) (.pointer (some ⟨h.length, 0, some 1⟩)) 1 = some [.int .i64 (c : Int)] := by
  simp [ldC, cellM]
theorem cellM_st {h : Heap} {c d : Nat} : stC (cellM h c) (.pointer (some ⟨h.length, 0, some 1⟩)) [.int .i64 (d : Int)] = some (cellM h d) := by
  simp [stC, cellM, putAt]
def tellV (h : Heap) : Value := .func (.func n_impl_MostCouples_1) ⟨[]⟩ ⟨[.pointer (some ⟨h.length, 0, some 1⟩)]⟩

section
variable {X : CallF} {h : Heap} {ev : Value} {es : List E} {size : Int}

theorem k_impl_MostCouples_1 {a b d : Value} (n c : Nat) : C T X n_impl_MostCouples_1 [.agg ⟨[a, b, d]⟩, .int .i64 (n : Int), .pointer (some ⟨h.length, 0, some 1⟩)] (cellM h c) = some (.tuple ⟨[]⟩, cellM h (max c n)) := by
  suffices hs : ∃ v hh, C T X n_impl_MostCouples_1 [.agg ⟨[a, b, d]⟩, .int .i64 (n : Int), .pointer (some ⟨h.length, 0, some 1⟩)] (cellM h c) = some (v, hh) ∧ v = .tuple ⟨[]⟩ ∧ hh = cellM h (max c n) by
    obtain ⟨v, hh, c1, rfl, rfl⟩ := hs
    exact c1
  refine C_ex t_impl_MostCouples_1 rfl ?_
  unfold F_impl_MostCouples_1
  have e : (if (c : Int) < (n : Int) then (n : Int) else (c : Int)) = ((max c n : Nat) : Int) := by split <;> omega
  simp only [cellM_ld, e, cellM_st, go_sem, reduceIte, Nat.reduceEqDiff, Nat.reduceAdd, Nat.reduceMul, Nat.reduceLT, Nat.reduceLeDiff, reduceCtorEq, ne_eq, Int.reduceEq, Int.reduceLT, Int.reduceLE, Int.reduceNeg, Int.reduceToNat]
  rw [finish_room (by rw [cellM_len, cellM_len])]
  exact ⟨rfl, rfl⟩

theorem k_impl_Sums_plus {a b c x y z p q : Int} : C T X n_impl_Sums_plus [.agg ⟨[.int .i64 a, .int .i64 b, .int .i64 c]⟩, .agg ⟨[.int .i64 p, .int .i64 q, .int .i64 x, .int .i64 y, .int .i64 z]⟩] h = some (.agg ⟨[.int .i64 (IntKind.i64.wrap (a + x)), .int .i64 (IntKind.i64.wrap (b + y)), .int .i64 (IntKind.i64.wrap (c + z))]⟩, h) := by
  refine C_go t_impl_Sums_plus rfl ?_
  unfold F_impl_Sums_plus
  simp only [go_sem, reduceIte, Nat.reduceEqDiff, Nat.reduceAdd, Nat.reduceMul, Nat.reduceLT, Nat.reduceLeDiff, reduceCtorEq, ne_eq, Int.reduceEq, Int.reduceLT, Int.reduceLE, Int.reduceNeg, Int.reduceToNat]

theorem k_impl_every (he : Rows h 5 ev (edges es)) (hl : es.length ≤ lim) (hE : ∀ e ∈ es, EOk 9 e) : ∀ (m at' x : Nat) (u : List Int) (a b d : Int) (sz c : Nat), at' + m = es.length → Tk x u → sz ≤ at' →
    C T X n_impl_every [graphV size ev, .int .i64 (at' : Int), .int .i64 (x : Int), .agg ⟨[.int .i64 a, .int .i64 b, .int .i64 d]⟩, .int .i64 (sz : Int), tellV h] (cellM h c) = some (.tuple ⟨[]⟩, cellM h (max c (sz + mm (es.drop at') u))) := by
  unfold lim at hl
  intro m
  induction m with
  | zero =>
    intro i x u a b d sz c hi hx hsz
    suffices hs : ∃ v hh, C T X n_impl_every [graphV size ev, .int .i64 (i : Int), .int .i64 (x : Int), .agg ⟨[.int .i64 a, .int .i64 b, .int .i64 d]⟩, .int .i64 (sz : Int), tellV h] (cellM h c) = some (v, hh) ∧ v = .tuple ⟨[]⟩ ∧ hh = cellM h (max c (sz + mm (es.drop i) u)) by
      obtain ⟨v, hh, c1, rfl, rfl⟩ := hs
      exact c1
    refine C_ex t_impl_every rfl ?_
    unfold F_impl_every graphV tellV
    have hi' : (i : Int) = (es.length : Int) := by omega
    have cm := k_impl_MostCouples_1 (X := X) (h := h) (a := .int .i64 a) (b := .int .i64 b) (d := .int .i64 d) sz c
    simp only [(he.up cellM_up).lnm, hi', fnC, cm, go_sem, reduceIte, Nat.reduceEqDiff, Nat.reduceAdd, Nat.reduceMul, Nat.reduceLT, Nat.reduceLeDiff, reduceCtorEq, ne_eq, Int.reduceEq, Int.reduceLT, Int.reduceLE, Int.reduceNeg, Int.reduceToNat]
    rw [finish_room (by rw [cellM_len, cellM_len])]
    have e : es.drop i = [] := List.drop_of_length_le (by omega)
    rw [e]
    exact ⟨rfl, rfl⟩
  | succ m ih =>
    intro i x u a b d sz c hi hx hsz
    suffices hs : ∃ v hh, C T X n_impl_every [graphV size ev, .int .i64 (i : Int), .int .i64 (x : Int), .agg ⟨[.int .i64 a, .int .i64 b, .int .i64 d]⟩, .int .i64 (sz : Int), tellV h] (cellM h c) = some (v, hh) ∧ v = .tuple ⟨[]⟩ ∧ hh = cellM h (max c (sz + mm (es.drop i) u)) by
      obtain ⟨v, hh, c1, rfl, rfl⟩ := hs
      exact c1
    refine C_ex t_impl_every rfl ?_
    have hi1 : i < es.length := by omega
    have hi' : ¬ (i : Int) = (es.length : Int) := by omega
    have ih1 := ih (i + 1) x u a b d sz c (by omega) hx (by omega)
    obtain ⟨c', hc'⟩ : ∃ c', c' = max c (sz + mm (es.drop (i + 1)) u) := ⟨_, rfl⟩
    rw [← hc'] at ih1
    have el := edge_el (he.up (cellM_up (c := c'))) hi1
    have g := hE _ (getD_mem (d := e0) hi1)
    have hdrop : es.drop i = es.getD i e0 :: es.drop (i + 1) := by
      rw [List.getD_eq_getElem?_getD, List.getElem?_eq_getElem hi1, Option.getD_some, List.drop_eq_getElem_cons hi1]
    rw [hdrop]
    unfold mm
    unfold EOk at g
    obtain ⟨p, hp⟩ : ∃ p : Nat, (es.getD i e0).a = p := ⟨(es.getD i e0).a.toNat, by omega⟩
    obtain ⟨q, hq⟩ : ∃ q : Nat, (es.getD i e0).b = q := ⟨(es.getD i e0).b.toNat, by omega⟩
    rw [hp, hq] at el g ⊢
    have hp0 : ¬ (p : Int) < 0 := by omega
    have hq0 : ¬ (q : Int) < 0 := by omega
    have ha := andN (x := x) (y := 2 ^ p ||| 2 ^ q) (by have := hx.1; omega) (by have := both_lt (a := p) (b := q) (by omega) (by omega); omega)
    have ho := orN (two_lt (a := p) (by omega)) (two_lt (a := q) (by omega))
    have ho2 := orN hx.1 (both_lt (a := p) (b := q) (by omega) (by omega))
    have hf := tk_free hx (a := p) (b := q) (by omega) (by omega)
    have ht := tk_take hx (a := p) (b := q) (by omega) (by omega)
    have hs1 := shl_one (n := p) (by omega)
    have hs2 := shl_one (n := q) (by omega)
    have hw1 : IntKind.i64.wrap ((i : Int) + 1) = ((i + 1 : Nat) : Int) := w64 (by omega) (by omega)
    have hw2 : IntKind.i64.wrap ((sz : Int) + 1) = ((sz + 1 : Nat) : Int) := w64 (by omega) (by omega)
    unfold F_impl_every graphV
    unfold graphV at ih1
    by_cases hu : ((p : Int) ∈ u ∨ (q : Int) ∈ u)
    · rw [if_pos hu]
      have hz : ¬ (((x &&& (2 ^ p ||| 2 ^ q) : Nat)) : Int) = 0 := by
        have : ¬ (x &&& (2 ^ p ||| 2 ^ q)) = 0 := fun k => hf.1 k hu
        omega
      simp only [(he.up cellM_up).lnm, hi', ih1, el.1, el.2.2.1, hp0, hq0, Int.toNat_natCast, hs1, hs2, ha, ho, ho2, hw1, hz, go_sem, reduceIte, Nat.reduceEqDiff, Nat.reduceAdd, Nat.reduceMul, Nat.reduceLT, Nat.reduceLeDiff, reduceCtorEq, ne_eq, Int.reduceEq, Int.reduceLT, Int.reduceLE, Int.reduceNeg, Int.reduceToNat]
      rw [finish_room (by rw [cellM_len, cellM_len])]
      exact ⟨rfl, by rw [hc']⟩
    · rw [if_neg hu]
      have hz : (((x &&& (2 ^ p ||| 2 ^ q) : Nat)) : Int) = 0 := by
        rw [hf.2 hu]
        rfl
      have ih2 := ih (i + 1) (x ||| (2 ^ p ||| 2 ^ q)) (p :: q :: u) (IntKind.i64.wrap (a + (es.getD i e0).w1)) (IntKind.i64.wrap (b + (es.getD i e0).w2)) (IntKind.i64.wrap (d + (es.getD i e0).w3)) (sz + 1) c' (by omega) ht (by omega)
      unfold graphV at ih2
      simp only [(he.up cellM_up).lnm, hi', ih1, el.1, el.2.2.1, hp0, hq0, Int.toNat_natCast, hs1, hs2, ha, ho, ho2, hw1, hz, k_impl_Sums_plus, hw2, ih2, go_sem, reduceIte, Nat.reduceEqDiff, Nat.reduceAdd, Nat.reduceMul, Nat.reduceLT, Nat.reduceLeDiff, reduceCtorEq, ne_eq, Int.reduceEq, Int.reduceLT, Int.reduceLE, Int.reduceNeg, Int.reduceToNat]
      rw [finish_room (by rw [cellM_len, cellM_len])]
      exact ⟨rfl, congrArg (cellM h) (by omega)⟩

open Classical in
/-- The most couples. -/
noncomputable def mostC (size : Int) (es : List E) : Int := if GOk size es then ((mm es [] : Nat) : Int) else -1

theorem gok_all {size : Int} {es : List E} (g : GOk size es) : ∀ e ∈ es, EOk size e := fun e he => by
  obtain ⟨i, hi, rfl⟩ := mem_getD (d := e0) he
  exact (g.2 i hi).1

open Classical in
theorem k_impl_MostCouples (he : Rows h 5 ev (edges es)) (hl : es.length ≤ lim) : C T X n_impl_MostCouples [graphV size ev] h = some (.int .i64 (mostC size es), h) := by
  refine C_go t_impl_MostCouples rfl ?_
  unfold mostC
  by_cases g : GOk size es
  · rw [if_pos g]
    have hg := k_impl_GraphOk (X := X) (size := size) he hl
    have hE : ∀ e ∈ es, EOk 9 e := fun e q => by
      have := gok_all g e q
      have := g.1
      unfold EOk at *
      omega
    have hst : stC (cellM h 0) (.pointer (some ⟨h.length, 0, some 1⟩)) [.int .i64 0] = some (cellM h 0) := cellM_st (d := 0)
    have hev := k_impl_every (X := X) (size := size) he hl hE es.length 0 0 [] 0 0 0 0 0 (by omega) tk_nil (Nat.le_refl _)
    unfold graphV at hg hev
    unfold F_impl_MostCouples graphV
    unfold tellV at hev
    have hc : cellM h 0 = h ++ [⟨[.int .i64 0], 1, y_int, true⟩] := rfl
    have e : max 0 (0 + mm (List.drop 0 es) []) = mm es [] := by simp
    rw [e] at hev
    have hf : fnV (.func n_impl_MostCouples_1) [.pointer (some ⟨h.length, 0, some 1⟩)] = some (.func (.func n_impl_MostCouples_1) ⟨[]⟩ ⟨[.pointer (some ⟨h.length, 0, some 1⟩)]⟩) := rfl
    have z0 : ((0 : Nat) : Int) = 0 := rfl
    rw [z0] at hev
    simp only [hg, g, ← hc, hst, hf, hev, cellM_ld, go_sem, reduceIte, Nat.reduceEqDiff, Nat.reduceAdd, Nat.reduceMul, Nat.reduceLT, Nat.reduceLeDiff, reduceCtorEq, ne_eq, Int.reduceEq, Int.reduceLT, Int.reduceLE, Int.reduceNeg, Int.reduceToNat]
    exact finish_flat rfl cellM_up
  · rw [if_neg g]
    have hg := k_impl_GraphOk (X := X) (size := size) he hl
    unfold graphV at hg
    unfold F_impl_MostCouples graphV
    simp only [hg, g, go_sem, reduceIte, Nat.reduceEqDiff, Nat.reduceAdd, Nat.reduceMul, Nat.reduceLT, Nat.reduceLeDiff, reduceCtorEq, ne_eq, Int.reduceEq, Int.reduceLT, Int.reduceLE, Int.reduceNeg, Int.reduceToNat]

open Classical in
theorem k_spec_MostCouples (he : Rows h 5 ev (edges es)) (hl : es.length ≤ lim) : C T X n_spec_MostCouples [graphV size ev] h = some (.int .i64 (mostC size es), h) := by
  refine C_go t_spec_MostCouples rfl ?_
  have hg := k_spec_GraphOk (X := X) (size := size) he hl
  unfold mostC
  by_cases g : GOk size es
  · rw [if_pos g]
    have hE := gok_all g
    have hs := g.1
    unfold lim at hl
    unfold graphV at hg
    unfold F_spec_MostCouples graphV
    simp only [hg, g, zeros, fillAt, go_sem, reduceIte, Nat.reduceEqDiff, Nat.reduceAdd, Nat.reduceMul, Nat.reduceLT, Nat.reduceLeDiff, reduceCtorEq, ne_eq, Int.reduceEq, Int.reduceLT, Int.reduceLE, Int.reduceNeg, Int.reduceToNat]
    refine w_for es.length (fun i t loc h' => loc 1 = some [.int .i64 size, ev] ∧ t 4 = .int .i64 i ∧ h <+: h' ∧ ∃ v, loc 3 = some [.int .i64 size, v] ∧ Own h' h.length h'.length 5 y_Edge v (edges ((es.take i).map oneE))) ⟨rfl, rfl, List.prefix_refl _, _, rfl, Own.nil⟩ ?_
    rintro i t loc h' hi ⟨l1, t4, hp, v, l3, o⟩
    simp only [l1, t4, (he.up hp).lnm, go_sem, reduceIte, Nat.reduceEqDiff, Nat.reduceAdd, Nat.reduceMul, Nat.reduceLT, Nat.reduceLeDiff, reduceCtorEq, ne_eq, Int.reduceEq, Int.reduceLT, Int.reduceLE, Int.reduceNeg, Int.reduceToNat]
    refine w_open (by simp only [go_sem, reduceIte, Nat.reduceEqDiff, Nat.reduceAdd, Nat.reduceMul, Nat.reduceLT, Nat.reduceLeDiff, reduceCtorEq, ne_eq, Int.reduceEq, Int.reduceLT, Int.reduceLE, Int.reduceNeg, Int.reduceToNat]; rfl) ?_ ?_ <;> intro hc
    · have hi1 : i < es.length := by omega
      have hw : IntKind.i64.wrap ((i : Int) + 1) = ((i + 1 : Nat) : Int) := w64 (by omega) (by omega)
      have el := edge_el (he.up hp) hi1
      obtain ⟨v2, h2, c2, q1, q2, o2⟩ := o.push1 (pre_len hp) (edgeR (oneE (es.getD i e0))) rfl (by simp; unfold lim; omega)
      unfold edgeR oneE at c2
      simp only [l1, l3, t4, el.1, el.2.1, el.2.2.2.1, el.2.2.2.2.1, zeros, fillAt, c2, o2.cells, hw, go_sem, reduceIte, Nat.reduceEqDiff, Nat.reduceAdd, Nat.reduceMul, Nat.reduceLT, Nat.reduceLeDiff, reduceCtorEq, ne_eq, Int.reduceEq, Int.reduceLT, Int.reduceLE, Int.reduceNeg, Int.reduceToNat]
      refine ⟨hi1, pre_push hp (Nat.le_refl _) q1 q2, v2, rfl, ?_⟩
      rw [Nat.max_eq_right q1] at o2
      have e : es.take (i + 1) = es.take i ++ [es.getD i e0] := by
        rw [List.take_add_one, List.getElem?_eq_getElem hi1, List.getD_eq_getElem?_getD, List.getElem?_eq_getElem hi1]
        rfl
      unfold edges at o2 ⊢
      rw [e, List.map_append, List.map_append]
      exact o2
    · have hin : i = es.length := by omega
      subst hin
      rw [List.take_length] at o
      obtain ⟨g2, hg2⟩ : ∃ g2 : Heap, g2 = h' ++ [⟨[], 1, y_int, true⟩] := ⟨_, rfl⟩
      have hpg : h' <+: g2 := by rw [hg2]; exact List.prefix_append _ _
      obtain ⟨n, rfl⟩ : ∃ n : Nat, size = n := ⟨size.toNat, by omega⟩
      have hu : Rows g2 1 (.slice (some ⟨h'.length, 0, none⟩) 0 0) (ints []) := by rw [hg2]; exact Acc.new.rows
      obtain ⟨w, c, b1, b2, b3⟩ := k_spec_l09Best (X := X) (es := es.map oneE) (n := n) (by omega) (by rw [List.length_map]; unfold lim; omega)
        (fun e q => by
          obtain ⟨e', q', rfl⟩ := List.mem_map.1 q
          have := hE e' q'
          unfold EOk oneE at *
          simp only
          omega)
        (fun e q => by
          obtain ⟨e', q', rfl⟩ := List.mem_map.1 q
          exact ⟨rfl, rfl, rfl⟩) n 0 [] _ g2 (by omega) (by omega) (Nat.le_refl _) (o.rows.up hpg) hu
      have hw := most_first hE b3
      unfold graphV bestV at b1
      have z0 : ((0 : Nat) : Int) = 0 := rfl
      rw [z0] at b1
      simp only [l3, zeros, fillAt, ← hg2, b1, go_sem, reduceIte, Nat.reduceEqDiff, Nat.reduceAdd, Nat.reduceMul, Nat.reduceLT, Nat.reduceLeDiff, reduceCtorEq, ne_eq, Int.reduceEq, Int.reduceLT, Int.reduceLE, Int.reduceNeg, Int.reduceToNat]
      rw [hw]
      exact finish_flat rfl (hp.trans hpg)
  · rw [if_neg g]
    unfold graphV at hg
    unfold F_spec_MostCouples graphV
    simp only [hg, g, go_sem, reduceIte, Nat.reduceEqDiff, Nat.reduceAdd, Nat.reduceMul, Nat.reduceLT, Nat.reduceLeDiff, reduceCtorEq, ne_eq, Int.reduceEq, Int.reduceLT, Int.reduceLE, Int.reduceNeg, Int.reduceToNat]
end
end Go.Proofs.Ytioogligololoaa.Ab
