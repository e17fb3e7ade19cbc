/- Contracts: a right graph and places are drawn. No conditions. -/
import Derived.Test.YtioogligololoaaK38
import Derived.Test.YtioogligololoaaP8
import Derived.Test.YtioogligololoaaK39
set_option linter.unusedSimpArgs false
set_option linter.unusedVariables false
set_option linter.unnecessarySimpa false
set_option maxHeartbeats 4000000
namespace Go.Proofs.Ytioogligololoaa.Ab
open Go.RowKit

/-- The edges so far, below a place. -/
structure GTo (n a b : Nat) (es : List E) : Prop where
  ok : ∀ i, i < es.length → EOk n (es.getD i e0) ∧ (0 < i → ELt (es.getD (i - 1) e0) (es.getD i e0))
  lt : ∀ e ∈ es, e.a < a ∨ (e.a = a ∧ e.b < b)
  few : es.length ≤ 10 * a + b
theorem GTo.push {n a b : Nat} {es : List E} {e : E} (g : GTo n a b es) (he : EOk n e) (ha : e.a = a) (hb : e.b = b) : GTo n a (b + 1) (es ++ [e]) := by
  refine ⟨fun i hi => ?_, fun x hx => ?_, by have := g.few; simp; omega⟩
  · by_cases hl : i < es.length
    · have e1 : (es ++ [e]).getD i e0 = es.getD i e0 := by simp [List.getElem?_append_left hl]
      have e2 : (es ++ [e]).getD (i - 1) e0 = es.getD (i - 1) e0 := by simp [List.getElem?_append_left (show i - 1 < es.length by omega)]
      rw [e1, e2]
      exact g.ok i hl
    · have hil : i = es.length := by simp at hi; omega
      subst hil
      have e1 : (es ++ [e]).getD es.length e0 = e := by simp
      rw [e1]
      refine ⟨he, fun h0 => ?_⟩
      have e2 : (es ++ [e]).getD (es.length - 1) e0 = es.getD (es.length - 1) e0 := by simp [List.getElem?_append_left (show es.length - 1 < es.length by omega)]
      rw [e2]
      have := g.lt _ (getD_mem (d := e0) (show es.length - 1 < es.length by omega))
      unfold ELt
      omega
  · rcases List.mem_append.1 hx with q | q
    · have := g.lt x q; omega
    · rw [List.mem_singleton.1 q]; omega
theorem GTo.skip {n a b : Nat} {es : List E} (g : GTo n a b es) : GTo n a (b + 1) es := ⟨g.ok, fun x hx => by have := g.lt x hx; omega, by have := g.few; omega⟩
theorem GTo.row {n a b : Nat} {es : List E} (g : GTo n a b es) (hb : b ≤ 12) : GTo n (a + 1) (a + 2) es := ⟨g.ok, fun x hx => by have := g.lt x hx; omega, by have := g.few; omega⟩

section
variable {X : CallF} {B h : Heap} {b : Nat} {cv : Value} {l : List Int}

theorem k_l08Graph (d : Dr B b cv l h) : ∃ (n : Nat) (es : List E) (ev : Value) (hh : Heap), C T X n_spec_l08Graph [pk b 0] h = some (graphV n ev, hh) ∧ GOk n es ∧ Own hh h.length hh.length 5 y_Edge ev (edges es) ∧ Dr B b cv l hh ∧ Fr' b h hh := by
  suffices hx : ∃ w hh, C T X n_spec_l08Graph [pk b 0] h = some (w, hh) ∧ ∃ (n : Nat) (es : List E) (ev : Value), w = graphV n ev ∧ GOk n es ∧ Own hh h.length hh.length 5 y_Edge ev (edges es) ∧ Dr B b cv l hh ∧ Fr' b h hh by
    obtain ⟨w, hh, c, n, es, ev, rfl, r⟩ := hx
    exact ⟨n, es, ev, hh, c, r⟩
  refine C_ex t_spec_l08Graph rfl ?_
  unfold F_spec_l08Graph
  obtain ⟨z, h1, c1, d1, s1, z0, z1, _⟩ := k_l01Below (X := X) d 10
  obtain ⟨n, rfl⟩ := Int.eq_ofNat_of_zero_le z0
  have hn : n ≤ 9 := by have := z1 (by omega); omega
  obtain ⟨ds, h2, c2, d2, s2, ds0, ds1, _⟩ := k_l01Below (X := X) d1 3
  have hds := ds1 (by omega)
  have hwd : IntKind.i64.wrap (1 + ds) = 1 + ds := w64 (by omega) (by omega)
  obtain ⟨most, h3, c3, d3, f3, hmost⟩ := pick_lit (X := X) d2 [2, 4, 51] (by simp) (by unfold lim; simp)
  simp only [List.map_cons, List.map_nil, List.length_cons, List.length_nil, Nat.zero_add, Nat.reduceAdd] at c3
  have hm51 : 0 < most ∧ most ≤ 51 := by
    simp only [List.mem_cons, List.not_mem_nil, or_false] at hmost
    omega
  have F3 : Fr' b h h3 := ((Fr'.same s1).trans (Fr'.same s2)).trans f3
  have hbl := d.lt
  simp only [c1, c2, hwd, zeros, fillAt, c3, go_sem, reduceIte, Nat.reduceEqDiff, Nat.reduceAdd, Nat.reduceMul, Nat.reduceLT, Nat.reduceLeDiff, reduceCtorEq, ne_eq, Int.reduceEq, Int.reduceLT, Int.reduceLE, Int.reduceNeg, Int.reduceToNat]
  refine w_for n (fun a t loc h' => t 0 = pk b 0 ∧ loc 2 = some [.int .i64 0, nilV] ∧ t 4 = .int .i64 (1 + ds) ∧ t 5 = .int .i64 most ∧ t 6 = .int .i64 a ∧ ∃ es v, loc 3 = some [.int .i64 (n : Nat), v] ∧ GTo n a (a + 1) es ∧ Dr B b cv l h' ∧ Fr' b h h' ∧ Own h' h.length h'.length 5 y_Edge v (edges es))
    ⟨rfl, rfl, rfl, rfl, rfl, [], _, rfl, ⟨fun i hi => by simp at hi, fun e he => absurd he List.not_mem_nil, Nat.zero_le _⟩, d3, F3, Own.nil⟩ ?_
  rintro a t loc h4 ha ⟨t0, l2, t4, t5, t6, es, v, l3, g, d4, f4, o⟩
  simp only [l3, t6, go_sem, reduceIte, Nat.reduceEqDiff, Nat.reduceAdd, Nat.reduceMul, Nat.reduceLT, Nat.reduceLeDiff, reduceCtorEq, ne_eq, Int.reduceEq, Int.reduceLT, Int.reduceLE, Int.reduceNeg, Int.reduceToNat]
  refine w_open (by simp only [go_sem, reduceIte, Nat.reduceEqDiff, Nat.reduceAdd, Nat.reduceMul, Nat.reduceLT, Nat.reduceLeDiff, reduceCtorEq, ne_eq, Int.reduceEq, Int.reduceLT, Int.reduceLE, Int.reduceNeg, Int.reduceToNat]; rfl) ?_ ?_ <;> intro hc
  · have ha1 : a < n := by omega
    have hw : IntKind.i64.wrap ((a : Int) + 1) = ((a + 1 : Nat) : Int) := w64 (by omega) (by omega)
    simp only [t0, l2, l3, t4, t5, t6, hw, go_sem, reduceIte, Nat.reduceEqDiff, Nat.reduceAdd, Nat.reduceMul, Nat.reduceLT, Nat.reduceLeDiff, reduceCtorEq, ne_eq, Int.reduceEq, Int.reduceLT, Int.reduceLE, Int.reduceNeg, Int.reduceToNat]
    refine w_meas (n - a) (fun m t loc h' => t 0 = pk b 0 ∧ loc 2 = some [.int .i64 0, nilV] ∧ t 4 = .int .i64 (1 + ds) ∧ t 5 = .int .i64 most ∧ t 6 = .int .i64 a ∧ ∃ (c : Nat), ∃ es v, m + c = n + 1 ∧ a < c ∧ c ≤ n ∧ t 7 = .int .i64 (c : Nat) ∧ loc 3 = some [.int .i64 (n : Nat), v] ∧ GTo n a c es ∧ Dr B b cv l h' ∧ Fr' b h h' ∧ Own h' h.length h'.length 5 y_Edge v (edges es))
      ⟨rfl, rfl, rfl, rfl, rfl, a + 1, es, v, by omega, by omega, by omega, rfl, rfl, g, d4, f4, o⟩ ?_
    rintro m t loc h5 ⟨t0, l2, t4, t5, t6, c, es, v, hm, hac, hcn, t7, l3, g, d5, f5, o⟩
    simp only [l3, t7, go_sem, reduceIte, Nat.reduceEqDiff, Nat.reduceAdd, Nat.reduceMul, Nat.reduceLT, Nat.reduceLeDiff, reduceCtorEq, ne_eq, Int.reduceEq, Int.reduceLT, Int.reduceLE, Int.reduceNeg, Int.reduceToNat]
    refine w_open (by simp only [go_sem, reduceIte, Nat.reduceEqDiff, Nat.reduceAdd, Nat.reduceMul, Nat.reduceLT, Nat.reduceLeDiff, reduceCtorEq, ne_eq, Int.reduceEq, Int.reduceLT, Int.reduceLE, Int.reduceNeg, Int.reduceToNat]; rfl) ?_ ?_ <;> intro hc
    · have hc1 : c < n := by omega
      have hw : IntKind.i64.wrap ((c : Int) + 1) = ((c + 1 : Nat) : Int) := w64 (by omega) (by omega)
      have hwo : IntKind.i64.wrap (1 + ds + 1) = 1 + ds + 1 := w64 (by omega) (by omega)
      obtain ⟨y, h6, c6, d6, s6⟩ := k_l01Once (X := X) d5 (1 + ds + 1)
      have f6 := f5.trans (Fr'.same s6)
      have o6 : Own h6 h.length h6.length 5 y_Edge v (edges es) := by
        rw [s6.len]
        exact o.same s6 (.inr (by omega))
      have hfew := g.few
      cases y with
      | false =>
        obtain ⟨x1, h7, c7, d7, s7, x10, x11, _⟩ := k_l01Below (X := X) d6 most
        obtain ⟨x2, h8, c8, d8, s8, x20, x21, _⟩ := k_l01Below (X := X) d7 most
        obtain ⟨x3, h9, c9, d9, s9, x30, x31, _⟩ := k_l01Below (X := X) d8 most
        have y1 := x11 (by omega)
        have y2 := x21 (by omega)
        have y3 := x31 (by omega)
        have f9 := ((f6.trans (Fr'.same s7)).trans (Fr'.same s8)).trans (Fr'.same s9)
        have o9 : Own h9 h.length h9.length 5 y_Edge v (edges es) := by
          rw [s9.len, s8.len, s7.len]
          exact ((o6.same s7 (.inr (by omega))).same s8 (.inr (by omega))).same s9 (.inr (by omega))
        by_cases q4 : most = 4
        · obtain ⟨v2, hx, cx, q1, q2, ox⟩ := o9.push1 f9.len (edgeR ⟨(a : Int), (c : Int), x1, 0, 0⟩) rfl (by rw [List.length_map]; unfold lim; omega)
          rw [Nat.max_eq_right q1] at ox
          have fx := f9.push2 q1 (fun c hc => q2 c (.inl hc))
          have dx := d.push2 d9 fx (fun c hc => q2 c (.inl hc))
          unfold edgeR at cx
          rw [q4] at c7 c8 c9 t5
          simp only [t0, l2, l3, t4, t5, t6, t7, hwo, c6, c7, c8, c9, zeros, fillAt, cx, ox.cells, hw, go_sem, reduceIte, Nat.reduceEqDiff, Nat.reduceAdd, Nat.reduceMul, Nat.reduceLT, Nat.reduceLeDiff, reduceCtorEq, ne_eq, Int.reduceEq, Int.reduceLT, Int.reduceLE, Int.reduceNeg, Int.reduceToNat]
          refine ⟨m - 1, by omega, ?_, c + 1, es ++ [⟨(a : Int), (c : Int), x1, 0, 0⟩], v2, by omega, by omega, by omega, rfl, rfl, g.push ⟨by simp only; omega, by simp only; omega, by simp only; omega, by simp only; omega, by simp only; omega, by simp, by simp, by simp, by simp⟩ rfl rfl, dx, fx, by simpa using ox⟩
          rw [q4]
        · obtain ⟨v2, hx, cx, q1, q2, ox⟩ := o9.push1 f9.len (edgeR ⟨(a : Int), (c : Int), x1, x2, x3⟩) rfl (by rw [List.length_map]; unfold lim; omega)
          rw [Nat.max_eq_right q1] at ox
          have fx := f9.push2 q1 (fun c hc => q2 c (.inl hc))
          have dx := d.push2 d9 fx (fun c hc => q2 c (.inl hc))
          unfold edgeR at cx
          simp only [q4, t0, l2, l3, t4, t5, t6, t7, hwo, c6, c7, c8, c9, zeros, fillAt, cx, ox.cells, hw, go_sem, reduceIte, Nat.reduceEqDiff, Nat.reduceAdd, Nat.reduceMul, Nat.reduceLT, Nat.reduceLeDiff, reduceCtorEq, ne_eq, Int.reduceEq, Int.reduceLT, Int.reduceLE, Int.reduceNeg, Int.reduceToNat]
          exact ⟨m - 1, by omega, c + 1, es ++ [⟨(a : Int), (c : Int), x1, x2, x3⟩], v2, by omega, by omega, by omega, rfl, rfl, g.push ⟨by simp only; omega, by simp only; omega, by simp only; omega, by simp only; omega, by simp only; omega, by simp only; omega, by simp only; omega, by simp only; omega, by simp only; omega⟩ rfl rfl, dx, fx, by simpa using ox⟩
      | true =>
        by_cases q3 : 1 + ds = 3
        · rw [q3] at t4 hwo c6
          obtain ⟨x1, h7, c7, d7, s7, x10, x11, _⟩ := k_l01Below (X := X) d6 most
          obtain ⟨x2, h8, c8, d8, s8, x20, x21, _⟩ := k_l01Below (X := X) d7 most
          obtain ⟨x3, h9, c9, d9, s9, x30, x31, _⟩ := k_l01Below (X := X) d8 most
          have y1 := x11 (by omega)
          have y2 := x21 (by omega)
          have y3 := x31 (by omega)
          have f9 := ((f6.trans (Fr'.same s7)).trans (Fr'.same s8)).trans (Fr'.same s9)
          have o9 : Own h9 h.length h9.length 5 y_Edge v (edges es) := by
            rw [s9.len, s8.len, s7.len]
            exact ((o6.same s7 (.inr (by omega))).same s8 (.inr (by omega))).same s9 (.inr (by omega))
          by_cases q4 : most = 4
          · obtain ⟨v2, hx, cx, q1, q2, ox⟩ := o9.push1 f9.len (edgeR ⟨(a : Int), (c : Int), x1, 0, 0⟩) rfl (by rw [List.length_map]; unfold lim; omega)
            rw [Nat.max_eq_right q1] at ox
            have fx := f9.push2 q1 (fun c hc => q2 c (.inl hc))
            have dx := d.push2 d9 fx (fun c hc => q2 c (.inl hc))
            unfold edgeR at cx
            rw [q4] at c7 c8 c9 t5
            simp only [q3, t0, l2, l3, t4, t5, t6, t7, hwo, c6, c7, c8, c9, zeros, fillAt, cx, ox.cells, hw, go_sem, reduceIte, Nat.reduceEqDiff, Nat.reduceAdd, Nat.reduceMul, Nat.reduceLT, Nat.reduceLeDiff, reduceCtorEq, ne_eq, Int.reduceEq, Int.reduceLT, Int.reduceLE, Int.reduceNeg, Int.reduceToNat]
            refine ⟨m - 1, by omega, ?_, c + 1, es ++ [⟨(a : Int), (c : Int), x1, 0, 0⟩], v2, by omega, by omega, by omega, rfl, rfl, g.push ⟨by simp only; omega, by simp only; omega, by simp only; omega, by simp only; omega, by simp only; omega, by simp, by simp, by simp, by simp⟩ rfl rfl, dx, fx, by simpa using ox⟩
            rw [q4]
          · obtain ⟨v2, hx, cx, q1, q2, ox⟩ := o9.push1 f9.len (edgeR ⟨(a : Int), (c : Int), x1, x2, x3⟩) rfl (by rw [List.length_map]; unfold lim; omega)
            rw [Nat.max_eq_right q1] at ox
            have fx := f9.push2 q1 (fun c hc => q2 c (.inl hc))
            have dx := d.push2 d9 fx (fun c hc => q2 c (.inl hc))
            unfold edgeR at cx
            simp only [q3, q4, t0, l2, l3, t4, t5, t6, t7, hwo, c6, c7, c8, c9, zeros, fillAt, cx, ox.cells, hw, go_sem, reduceIte, Nat.reduceEqDiff, Nat.reduceAdd, Nat.reduceMul, Nat.reduceLT, Nat.reduceLeDiff, reduceCtorEq, ne_eq, Int.reduceEq, Int.reduceLT, Int.reduceLE, Int.reduceNeg, Int.reduceToNat]
            exact ⟨m - 1, by omega, c + 1, es ++ [⟨(a : Int), (c : Int), x1, x2, x3⟩], v2, by omega, by omega, by omega, rfl, rfl, g.push ⟨by simp only; omega, by simp only; omega, by simp only; omega, by simp only; omega, by simp only; omega, by simp only; omega, by simp only; omega, by simp only; omega, by simp only; omega⟩ rfl rfl, dx, fx, by simpa using ox⟩
        · simp only [q3, t0, l2, l3, t4, t5, t6, t7, hwo, c6, hw, go_sem, reduceIte, Nat.reduceEqDiff, Nat.reduceAdd, Nat.reduceMul, Nat.reduceLT, Nat.reduceLeDiff, reduceCtorEq, ne_eq, Int.reduceEq, Int.reduceLT, Int.reduceLE, Int.reduceNeg, Int.reduceToNat]
          exact ⟨m - 1, by omega, c + 1, es, v, by omega, by omega, by omega, rfl, rfl, g.skip, d6, f6, o6⟩
    · have hcn2 : c = n := by omega
      subst hcn2
      simp only [t0, l2, l3, t4, t5, t6, hw, go_sem, reduceIte, Nat.reduceEqDiff, Nat.reduceAdd, Nat.reduceMul, Nat.reduceLT, Nat.reduceLeDiff, reduceCtorEq, ne_eq, Int.reduceEq, Int.reduceLT, Int.reduceLE, Int.reduceNeg, Int.reduceToNat]
      exact ⟨ha1, es, v, rfl, g.row (by omega), d5, f5, o⟩
  · have han : a = n := by omega
    subst han
    simp only [l2, l3, o.cells, go_sem, reduceIte, Nat.reduceEqDiff, Nat.reduceAdd, Nat.reduceMul, Nat.reduceLT, Nat.reduceLeDiff, reduceCtorEq, ne_eq, Int.reduceEq, Int.reduceLT, Int.reduceLE, Int.reduceNeg, Int.reduceToNat]
    refine ⟨a, es, v, by rw [finish_fst]; rfl, ⟨⟨by omega, by omega⟩, g.ok⟩, ?_, fin_fr d d4 f4⟩
    unfold finish
    split
    · rename_i hc
      have hf : prim v = true := by simpa [flat, prim] using hc.1
      exact o.flatP hf
    · exact o

theorem k_DrawRightGraph {h : Heap} (hc : Rows h 1 cv (bys l)) (hl : l.length ≤ 1048576) : ∃ (n : Nat) (es : List E) (ev : Value) (hh : Heap), C T X n_spec_DrawRightGraph [cv] h = some (graphV n ev, hh) ∧ GOk n es ∧ h <+: hh ∧ Own hh h.length hh.length 5 y_Edge ev (edges es) := by
  suffices hx : ∃ w hh, C T X n_spec_DrawRightGraph [cv] h = some (w, hh) ∧ ∃ (n : Nat) (es : List E) (ev : Value), w = graphV n ev ∧ GOk n es ∧ h <+: hh ∧ Own hh h.length hh.length 5 y_Edge ev (edges es) by
    obtain ⟨w, hh, c, n, es, ev, rfl, r⟩ := hx
    exact ⟨n, es, ev, hh, c, r⟩
  refine C_ex t_spec_DrawRightGraph rfl ?_
  unfold F_spec_DrawRightGraph
  obtain ⟨x0, c1⟩ := k_l01New (X := X) hc hl
  have d1 := dr_new hc hl (x := x0)
  obtain ⟨h1, hh1⟩ : ∃ h1 : Heap, h1 = h ++ [curB cv 0 x0] := ⟨_, rfl⟩
  rw [← hh1] at c1 d1
  have f1 : Fr' h.length h h1 := by rw [hh1]; exact Fr'.pre (List.prefix_append _ _)
  have hl1 : h1.length = h.length + 1 := by rw [hh1]; simp
  obtain ⟨n, es, ev, h2, c2, g, o, d2, f2⟩ := k_l08Graph (X := X) d1
  unfold graphV at c2
  simp only [c1, c2, go_sem, reduceIte, Nat.reduceEqDiff, Nat.reduceAdd, Nat.reduceMul, Nat.reduceLT, Nat.reduceLeDiff, reduceCtorEq, ne_eq, Int.reduceEq, Int.reduceLT, Int.reduceLE, Int.reduceNeg, Int.reduceToNat]
  have hp := dr_pre (f1.trans f2)
  obtain ⟨hh, e, p, hcs⟩ := finish_cases (v := .agg ⟨[.int .i64 (n : Nat), ev]⟩) hp
  rw [e]
  refine ⟨n, es, ev, rfl, g, p, ?_⟩
  rcases hcs with rfl | ⟨hf, rfl⟩
  · exact o.wide (by omega) (Nat.le_refl _)
  · have hf' : prim ev = true := by simpa [flat, prim] using hf
    exact o.flatP hf'

theorem k_DrawPlaces {h : Heap} (hc : Rows h 1 cv (bys l)) (hl : l.length ≤ 1048576) : ∃ (v : Value) (hh : Heap), C T X n_spec_DrawPlaces [cv] h = some (v, hh) ∧ ∃ L : List Int, L.length = 12 ∧ h <+: hh ∧ Own hh h.length hh.length 1 y_int v (ints L) := by
  refine C_ex t_spec_DrawPlaces rfl ?_
  unfold F_spec_DrawPlaces
  obtain ⟨x0, c1⟩ := k_l01New (X := X) hc hl
  have d1 := dr_new hc hl (x := x0)
  obtain ⟨h1, hh1⟩ : ∃ h1 : Heap, h1 = h ++ [curB cv 0 x0] := ⟨_, rfl⟩
  rw [← hh1] at c1 d1
  have f1 : Fr' h.length h h1 := by rw [hh1]; exact Fr'.pre (List.prefix_append _ _)
  have hl1 : h1.length = h.length + 1 := by rw [hh1]; simp
  obtain ⟨y, h2, c2, d2, s2, _⟩ := k_l01Byte (X := X) d1
  have hb1 := d1.lt
  simp only [c1, c2, zeros, fillAt, go_sem, reduceIte, Nat.reduceEqDiff, Nat.reduceAdd, Nat.reduceMul, Nat.reduceLT, Nat.reduceLeDiff, reduceCtorEq, ne_eq, Int.reduceEq, Int.reduceLT, Int.reduceLE, Int.reduceNeg, Int.reduceToNat]
  have hl2 := s2.len
  refine w_for 12 (fun i t loc h' => t 3 = pk h.length 0 ∧ t 5 = .int .i64 i ∧ ∃ L v, t 4 = v ∧ L.length = i ∧ Dr h h.length cv l h' ∧ Fr' h.length h2 h' ∧ Own h' h2.length h'.length 1 y_int v (ints L)) ⟨rfl, rfl, [], _, rfl, rfl, d2.up (List.prefix_append _ _), Fr'.pre (List.prefix_append _ _), Acc.new.own⟩ ?_
  rintro i t loc h3 hi ⟨t3, t5, L, v, t4, hL, d3, f3, o⟩
  simp only [t5, go_sem, reduceIte, Nat.reduceEqDiff, Nat.reduceAdd, Nat.reduceMul, Nat.reduceLT, Nat.reduceLeDiff, reduceCtorEq, ne_eq, Int.reduceEq, Int.reduceLT, Int.reduceLE, Int.reduceNeg, Int.reduceToNat]
  refine w_open (by simp only [go_sem, reduceIte, Nat.reduceEqDiff, Nat.reduceAdd, Nat.reduceMul, Nat.reduceLT, Nat.reduceLeDiff, reduceCtorEq, ne_eq, Int.reduceEq, Int.reduceLT, Int.reduceLE, Int.reduceNeg, Int.reduceToNat]; rfl) ?_ ?_ <;> intro hc
  · have hi1 : i < 12 := by omega
    have hw : IntKind.i64.wrap ((i : Int) + 1) = ((i + 1 : Nat) : Int) := w64 (by omega) (by omega)
    obtain ⟨x, h4, c4, d4, s4, _⟩ := k_l01Below (X := X) d3 10000
    have o4 : Own h4 h2.length h4.length 1 y_int v (ints L) := by
      rw [s4.len]
      exact o.same s4 (.inr (by omega))
    have f4 := f3.trans (Fr'.same s4)
    obtain ⟨v5, h5, c5, q1, q2, o5⟩ := o4.push1 f4.len [.int .i64 x] rfl (by rw [ints_len]; unfold lim; omega)
    rw [Nat.max_eq_right q1] at o5
    have f5 := f4.push2 q1 (fun c hc => q2 c (.inl hc))
    simp only [t3, t4, t5, c4, zeros, fillAt, c5, hw, go_sem, reduceIte, Nat.reduceEqDiff, Nat.reduceAdd, Nat.reduceMul, Nat.reduceLT, Nat.reduceLeDiff, reduceCtorEq, ne_eq, Int.reduceEq, Int.reduceLT, Int.reduceLE, Int.reduceNeg, Int.reduceToNat]
    exact ⟨hi1, L ++ [x], v5, rfl, by simp; omega, d2.push2 d4 f5 (fun c hc => q2 c (.inl hc)), f5, by simpa [ints] using o5⟩
  · have hp : h <+: h3 := dr_pre ((f1.trans (Fr'.same s2)).trans f3)
    simp only [t4, go_sem, reduceIte, Nat.reduceEqDiff, Nat.reduceAdd, Nat.reduceMul, Nat.reduceLT, Nat.reduceLeDiff, reduceCtorEq, ne_eq, Int.reduceEq, Int.reduceLT, Int.reduceLE, Int.reduceNeg, Int.reduceToNat]
    obtain ⟨k1, k2⟩ := (o.wide (show h.length ≤ h2.length by omega) (Nat.le_refl _)).fin hp
    exact ⟨o.live, L, by omega, k1, k2⟩

theorem k_within {h : Heap} {ov : Value} {out : List Int} {n : Int} (ho : Rows h 1 ov (ints out)) (hl : out.length ≤ lim) : C T X n_laws_within [ov, .int .i64 n] h = some (.bool (decide (n ∈ out)), h) := by
  unfold lim at hl
  refine C_go t_laws_within rfl ?_
  unfold F_laws_within
  simp only [go_sem, reduceIte, Nat.reduceEqDiff, Nat.reduceAdd, Nat.reduceMul, Nat.reduceLT, Nat.reduceLeDiff, reduceCtorEq, ne_eq, Int.reduceEq, Int.reduceLT, Int.reduceLE, Int.reduceNeg, Int.reduceToNat]
  refine w_for out.length (fun i t loc h' => h' = h ∧ t 0 = ov ∧ t 1 = .int .i64 n ∧ t 5 = .int .i64 i ∧ ∀ j, j < i → ¬ out.getD j 0 = n) ⟨rfl, rfl, rfl, rfl, fun j hj => by omega⟩ ?_
  rintro i t loc h' hi ⟨rfl, t0, t1, t5, hall⟩
  simp only [t0, t5, ints_ln ho, go_sem, reduceIte, Nat.reduceEqDiff, Nat.reduceAdd, Nat.reduceMul, Nat.reduceLT, Nat.reduceLeDiff, reduceCtorEq, ne_eq, Int.reduceEq, Int.reduceLT, Int.reduceLE, Int.reduceNeg, Int.reduceToNat]
  refine w_open (by simp only [go_sem, reduceIte, Nat.reduceEqDiff, Nat.reduceAdd, Nat.reduceMul, Nat.reduceLT, Nat.reduceLeDiff, reduceCtorEq, ne_eq, Int.reduceEq, Int.reduceLT, Int.reduceLE, Int.reduceNeg, Int.reduceToNat]; rfl) ?_ ?_ <;> intro hc
  · have hi1 : i < out.length := by omega
    have hw : IntKind.i64.wrap ((i : Int) + 1) = ((i + 1 : Nat) : Int) := w64 (by omega) (by omega)
    have hel := int_el ho hi1
    by_cases e : out.getD i 0 = n
    · have hm : n ∈ out := by rw [← e]; exact getD_mem hi1
      simp only [t0, t1, t5, hel.1, hel.2, e, hm, go_sem, reduceIte, Nat.reduceEqDiff, Nat.reduceAdd, Nat.reduceMul, Nat.reduceLT, Nat.reduceLeDiff, reduceCtorEq, ne_eq, Int.reduceEq, Int.reduceLT, Int.reduceLE, Int.reduceNeg, Int.reduceToNat]
    · simp only [t0, t1, t5, hel.1, hel.2, e, hw, go_sem, reduceIte, Nat.reduceEqDiff, Nat.reduceAdd, Nat.reduceMul, Nat.reduceLT, Nat.reduceLeDiff, reduceCtorEq, ne_eq, Int.reduceEq, Int.reduceLT, Int.reduceLE, Int.reduceNeg, Int.reduceToNat]
      exact ⟨hi1, below_succ hall e⟩
  · have hn : ¬ n ∈ out := fun hm => by
      obtain ⟨j, hj, e⟩ := mem_getD (d := 0) hm
      exact hall j (by omega) e
    simp only [hn, go_sem, reduceIte, Nat.reduceEqDiff, Nat.reduceAdd, Nat.reduceMul, Nat.reduceLT, Nat.reduceLeDiff, reduceCtorEq, ne_eq, Int.reduceEq, Int.reduceLT, Int.reduceLE, Int.reduceNeg, Int.reduceToNat]
end
end Go.Proofs.Ytioogligololoaa.Ab
