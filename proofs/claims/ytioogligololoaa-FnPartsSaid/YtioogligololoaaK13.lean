/- Contracts: the neighbours of a vertex. No conditions. -/
import Derived.Test.YtioogligololoaaK12
set_option linter.unusedSimpArgs false
set_option linter.unusedVariables false
set_option linter.unnecessarySimpa false
set_option maxHeartbeats 4000000
namespace Go.Proofs.Ytioogligololoaa.Ab
open Go.RowKit

/-- The neighbours, edge by edge. -/
def nbA (v : Int) (out : List Int) (e : E) : List Int := if e.a = v then withL out e.b else out
def nbB (v : Int) (out : List Int) (e : E) : List Int := if e.b = v then withL out e.a else out
def nbStep (v : Int) (out : List Int) (e : E) : List Int := nbB v (nbA v out e) e
/-- .. vertex by vertex. -/
def nextTo (es : List E) (v : Int) (n : Nat) : List Int := ((List.range n).map (fun n : Nat => (n : Int))).filter fun u => decide (u ≠ v ∧ 0 ≤ edgeIx es u v)
def nextL (es : List E) (size v : Int) : List Int := nextTo es v size.toNat
theorem nextTo_len {es : List E} {v : Int} {n : Nat} : (nextTo es v n).length ≤ n := Nat.le_trans (List.length_filter_le _ _) (by simp)
theorem nextTo_yes {es : List E} {v : Int} {n : Nat} (h1 : ¬ (n : Int) = v) (h2 : 0 ≤ edgeIx es n v) : nextTo es v (n + 1) = nextTo es v n ++ [(n : Int)] := by
  unfold nextTo
  rw [List.range_succ, List.map_append, List.filter_append]
  simp [h1, h2]
theorem nextTo_no {es : List E} {v : Int} {n : Nat} (h : ¬ ((n : Int) ≠ v ∧ 0 ≤ edgeIx es n v)) : nextTo es v (n + 1) = nextTo es v n := by
  unfold nextTo
  rw [List.range_succ, List.map_append, List.filter_append]
  simp only [List.map_cons, List.map_nil, List.filter_cons, h, decide_false, List.filter_nil, List.append_nil]
  simp

theorem nbA_len {v : Int} {out : List Int} {e : E} : out.length ≤ (nbA v out e).length ∧ (nbA v out e).length ≤ out.length + 1 := by
  unfold nbA
  split
  · exact withL_len
  · omega
theorem nbB_len {v : Int} {out : List Int} {e : E} : out.length ≤ (nbB v out e).length ∧ (nbB v out e).length ≤ out.length + 1 := by
  unfold nbB
  split
  · exact withL_len
  · omega
theorem nbStep_len (v : Int) (out : List Int) (e : E) : (nbStep v out e).length ≤ out.length + 2 := by
  have := (nbA_len (v := v) (out := out) (e := e)).2
  have := (nbB_len (v := v) (out := nbA v out e) (e := e)).2
  unfold nbStep
  omega
theorem nbStep_mem {v x : Int} {out : List Int} {e : E} : x ∈ nbStep v out e ↔ x ∈ out ∨ Join x v e := by
  have h1 : x ∈ nbA v out e ↔ x ∈ out ∨ (e.a = v ∧ e.b = x) := by
    unfold nbA
    split
    · rename_i h; rw [mem_withL]; constructor
      · rintro (rfl | h2)
        · exact .inr ⟨h, rfl⟩
        · exact .inl h2
      · rintro (h2 | ⟨_, rfl⟩)
        · exact .inr h2
        · exact .inl rfl
    · rename_i h; exact ⟨.inl, fun h2 => h2.elim id fun h3 => absurd h3.1 h⟩
  have h2 : x ∈ nbB v (nbA v out e) e ↔ x ∈ nbA v out e ∨ (e.a = x ∧ e.b = v) := by
    unfold nbB
    split
    · rename_i h; rw [mem_withL]; constructor
      · rintro (rfl | h2)
        · exact .inr ⟨rfl, h⟩
        · exact .inl h2
      · rintro (h2 | ⟨rfl, _⟩)
        · exact .inr h2
        · exact .inl rfl
    · rename_i h; exact ⟨.inl, fun h2 => h2.elim id fun h3 => absurd h3.2 h⟩
  unfold nbStep Join
  rw [h2, h1, or_assoc]
  constructor
  · rintro (h | h | h)
    · exact .inl h
    · exact .inr (.inr h)
    · exact .inr (.inl h)
  · rintro (h | h | h)
    · exact .inl h
    · exact .inr (.inr h)
    · exact .inr (.inl h)
theorem nbFold_len (v : Int) : ∀ (es : List E) (out : List Int), (es.foldl (nbStep v) out).length ≤ out.length + 2 * es.length
  | [], out => by simp
  | e :: es, out => by
    have := nbFold_len v es (nbStep v out e)
    have := nbStep_len v out e
    simp only [List.foldl_cons, List.length_cons]
    omega
theorem nbFold_mem {v x : Int} : ∀ {es : List E} {out : List Int}, x ∈ es.foldl (nbStep v) out ↔ x ∈ out ∨ ∃ e ∈ es, Join x v e
  | [], out => by simp
  | e :: es, out => by
    rw [List.foldl_cons, nbFold_mem]
    rw [nbStep_mem]
    simp only [List.mem_cons, exists_eq_or_imp]
    rw [or_assoc]
theorem nbFold_asc {v : Int} : ∀ {es : List E} {out : List Int}, Asc out → Asc (es.foldl (nbStep v) out)
  | [], _, h => h
  | e :: es, out, h => by
    rw [List.foldl_cons]
    refine nbFold_asc ?_
    unfold nbStep nbA nbB
    split <;> split <;> first | exact h | exact asc_withL h | exact asc_withL (asc_withL h)
theorem edgeIx_ge {es : List E} {a b : Int} : 0 ≤ edgeIx es a b ↔ ∃ e ∈ es, Join a b e := by
  unfold edgeIx
  rcases firstIx_cases (p := Join a b) e0 es with ⟨h1, h2⟩ | ⟨i, h1, h2, h3, h4⟩
  · rw [h1]
    constructor
    · intro h; omega
    · rintro ⟨e, he, hj⟩
      obtain ⟨i, hi, rfl⟩ := mem_getD (d := e0) he
      exact absurd hj (h2 i hi)
  · rw [h1]
    exact ⟨fun _ => ⟨_, getD_mem h2, h3⟩, fun _ => by omega⟩
theorem nextL_asc {es : List E} {size v : Int} : Asc (nextL es size v) := by
  unfold nextL nextTo
  refine List.Pairwise.filter _ ?_
  rw [List.pairwise_map]
  exact List.pairwise_lt_range.imp fun h => by omega
theorem nextL_mem {es : List E} {size v x : Int} : x ∈ nextL es size v ↔ (0 ≤ x ∧ x < size) ∧ x ≠ v ∧ ∃ e ∈ es, Join x v e := by
  unfold nextL nextTo
  simp only [List.mem_filter, List.mem_map, List.mem_range, decide_eq_true_eq, edgeIx_ge]
  constructor
  · rintro ⟨⟨n, h1, rfl⟩, h2⟩; exact ⟨⟨by omega, by omega⟩, h2⟩
  · rintro ⟨⟨h1, h2⟩, h3⟩; exact ⟨⟨x.toNat, by omega, by omega⟩, h3⟩
theorem gok_mem {size : Int} {es : List E} (g : GOk size es) {e : E} (he : e ∈ es) : EOk size e := by
  obtain ⟨i, hi, rfl⟩ := mem_getD (d := e0) he
  exact (g.2 i hi).1
/-- Both are the same in a right graph. -/
theorem nb_next {size v : Int} {es : List E} (g : GOk size es) : es.foldl (nbStep v) [] = nextL es size v := by
  refine asc_ext (nbFold_asc List.Pairwise.nil) nextL_asc fun x => ?_
  rw [nbFold_mem, nextL_mem]
  constructor
  · rintro (h | ⟨e, he, hj⟩)
    · cases h
    · have hE := gok_mem g he
      unfold EOk at hE
      refine ⟨?_, ?_, e, he, hj⟩ <;> (rcases hj with ⟨rfl, rfl⟩ | ⟨rfl, rfl⟩ <;> omega)
  · rintro ⟨_, _, h⟩; exact .inr h
theorem next_none {size v : Int} {es : List E} (g : GOk size es) (hv : ¬ (0 ≤ v ∧ v < size)) : nextL es size v = [] := by
  have : ∀ x, ¬ x ∈ nextL es size v := fun x hx => by
    obtain ⟨_, _, e, he, hj⟩ := nextL_mem.1 hx
    have hE := gok_mem g he
    unfold EOk at hE
    rcases hj with ⟨rfl, rfl⟩ | ⟨rfl, rfl⟩ <;> omega
  cases h : nextL es size v with
  | nil => rfl
  | cons a l => exact absurd (by rw [h]; exact List.mem_cons_self) (this a)
theorem gok_len {size : Int} {es : List E} (g : GOk size es) : es.length ≤ 81 := by
  obtain ⟨⟨g1, g2⟩, g3⟩ := g
  have key : ∀ i, i < es.length → (i : Int) ≤ 9 * (es.getD i e0).a + (es.getD i e0).b := by
    intro i
    induction i with
    | zero => intro hi; have := (g3 0 hi).1; unfold EOk at this; omega
    | succ i ih =>
      intro hi
      have h1 := ih (by omega)
      have h2 := (g3 (i + 1) hi).1
      have h3 := (g3 i (by omega)).1
      have h4 := (g3 (i + 1) hi).2 (by omega)
      simp only [Nat.add_sub_cancel] at h4
      unfold EOk at h2 h3
      unfold ELt at h4
      omega
  by_cases hz : es.length = 0
  · omega
  · have h1 := key (es.length - 1) (by omega)
    have h2 := (g3 (es.length - 1) (by omega)).1
    unfold EOk at h2
    omega

section
variable {X : CallF} {h : Heap} {ev : Value} {es : List E} {n size x : Int}

open Classical in
theorem k_impl_Neighbours (he : Rows h 5 ev (edges es)) (hl : es.length ≤ 1048576) :
    ∃ v hh, C T X n_impl_Neighbours [graphV size ev, .int .i64 x] h = some (v, hh) ∧ h <+: hh ∧ Own hh h.length hh.length 1 y_int v (ints (if GOk size es then es.foldl (nbStep x) [] else [])) := by
  have hk := k_impl_GraphOk (X := X) (size := size) he (by unfold lim; omega)
  refine C_ex t_impl_Neighbours rfl ?_
  unfold F_impl_Neighbours
  unfold graphV at hk ⊢
  by_cases g : GOk size es
  rotate_left
  · simp only [hk, g, go_sem, reduceIte, Nat.reduceEqDiff, Nat.reduceAdd, Nat.reduceMul, Nat.reduceLT, Nat.reduceLeDiff, reduceCtorEq, ne_eq, Int.reduceEq, Int.reduceLT, Int.reduceLE, Int.reduceNeg, Int.reduceToNat]
    exact ⟨List.prefix_refl _, Own.nil⟩
  simp only [hk, g, he.lnm, go_sem, reduceIte, Nat.reduceEqDiff, Nat.reduceAdd, Nat.reduceMul, Nat.reduceLT, Nat.reduceLeDiff, reduceCtorEq, ne_eq, Int.reduceEq, Int.reduceLT, Int.reduceLE, Int.reduceNeg, Int.reduceToNat]
  refine w_for es.length (fun i t loc h' => h <+: h' ∧ t 1 = .int .i64 x ∧ t 13 = ev ∧ t 14 = .int .i64 es.length ∧ t 15 = .int .i64 i ∧ ∃ v, t 5 = v ∧ Own h' h.length h'.length 1 y_int v (ints ((es.take i).foldl (nbStep x) []))) ⟨List.prefix_refl _, rfl, rfl, rfl, rfl, _, rfl, Own.nil⟩ ?_
  rintro i t loc h' hi ⟨hp, t1, t13, t14, t15, v, t5, o⟩
  simp only [t14, t15, go_sem, reduceIte, Nat.reduceEqDiff, Nat.reduceAdd, Nat.reduceMul, Nat.reduceLT, Nat.reduceLeDiff, reduceCtorEq, ne_eq, Int.reduceEq, Int.reduceLT, Int.reduceLE, Int.reduceNeg, Int.reduceToNat]
  refine w_open (by simp only [go_sem, reduceIte, Nat.reduceEqDiff, Nat.reduceAdd, Nat.reduceMul, Nat.reduceLT, Nat.reduceLeDiff, reduceCtorEq, ne_eq, Int.reduceEq, Int.reduceLT, Int.reduceLE, Int.reduceNeg, Int.reduceToNat]; rfl) ?_ ?_ <;> intro hc
  · have hi1 : i < es.length := by omega
    have hw : IntKind.i64.wrap ((i : Int) + 1) = ((i + 1 : Nat) : Int) := w64 (by omega) (by omega)
    have hel := edge_el (he.up hp) hi1
    have hlen := nbFold_len x (es.take i) []
    have hlt : (es.take i).length ≤ es.length := by simp; omega
    simp only [List.length_nil] at hlen
    have hnx : (es.take (i + 1)).foldl (nbStep x) [] = nbStep x ((es.take i).foldl (nbStep x) []) (es.getD i e0) := by rw [take_getD (d := e0) hi1, List.foldl_append]; rfl
    obtain ⟨w1, h1, c1, p1, o1⟩ := k_impl_with (X := X) (n := (es.getD i e0).b) o (pre_len hp) (by unfold lim; omega)
    have o1 := o1.wide (hi' := h1.length) (Nat.le_refl _) (by have := pre_len p1; omega)
    by_cases e1 : (es.getD i e0).a = x
    · have hlw := (withL_len (l := (es.take i).foldl (nbStep x) []) (n := (es.getD i e0).b)).2
      obtain ⟨w2, h2, c2, p2, o2⟩ := k_impl_with (X := X) (n := (es.getD i e0).a) o1 (pre_len (hp.trans p1)) (by unfold lim; omega)
      have o2 := o2.wide (hi' := h2.length) (Nat.le_refl _) (by have := pre_len p2; omega)
      by_cases e2 : (es.getD i e0).b = x
      · rw [e1] at c2; rw [e2] at c1
        simp only [t1, t5, t13, t14, t15, hel.1, hel.2.2.1, e1, e2, c1, c2, hw, go_sem, reduceIte, Nat.reduceEqDiff, Nat.reduceAdd, Nat.reduceMul, Nat.reduceLT, Nat.reduceLeDiff, reduceCtorEq, ne_eq, Int.reduceEq, Int.reduceLT, Int.reduceLE, Int.reduceNeg, Int.reduceToNat]
        refine ⟨hi1, hp.trans (p1.trans p2), _, rfl, ?_⟩
        rw [hnx]
        unfold nbStep nbB nbA
        rw [if_pos e2, if_pos e1]
        exact o2
      · simp only [t1, t5, t13, t14, t15, hel.1, hel.2.2.1, e1, e2, c1, hw, go_sem, reduceIte, Nat.reduceEqDiff, Nat.reduceAdd, Nat.reduceMul, Nat.reduceLT, Nat.reduceLeDiff, reduceCtorEq, ne_eq, Int.reduceEq, Int.reduceLT, Int.reduceLE, Int.reduceNeg, Int.reduceToNat]
        refine ⟨hi1, hp.trans p1, _, rfl, ?_⟩
        rw [hnx]
        unfold nbStep nbB nbA
        rw [if_neg e2, if_pos e1]
        exact o1
    · obtain ⟨w2, h2, c2, p2, o2⟩ := k_impl_with (X := X) (n := (es.getD i e0).a) o (pre_len hp) (by unfold lim; omega)
      have o2 := o2.wide (hi' := h2.length) (Nat.le_refl _) (by have := pre_len p2; omega)
      by_cases e2 : (es.getD i e0).b = x
      · simp only [t1, t5, t13, t14, t15, hel.1, hel.2.2.1, e1, e2, c2, hw, go_sem, reduceIte, Nat.reduceEqDiff, Nat.reduceAdd, Nat.reduceMul, Nat.reduceLT, Nat.reduceLeDiff, reduceCtorEq, ne_eq, Int.reduceEq, Int.reduceLT, Int.reduceLE, Int.reduceNeg, Int.reduceToNat]
        refine ⟨hi1, hp.trans p2, _, rfl, ?_⟩
        rw [hnx]
        unfold nbStep nbB nbA
        rw [if_pos e2, if_neg e1]
        exact o2
      · simp only [t1, t5, t13, t14, t15, hel.1, hel.2.2.1, e1, e2, hw, go_sem, reduceIte, Nat.reduceEqDiff, Nat.reduceAdd, Nat.reduceMul, Nat.reduceLT, Nat.reduceLeDiff, reduceCtorEq, ne_eq, Int.reduceEq, Int.reduceLT, Int.reduceLE, Int.reduceNeg, Int.reduceToNat]
        refine ⟨hi1, hp, _, rfl, ?_⟩
        rw [hnx]
        unfold nbStep nbB nbA
        rw [if_neg e2, if_neg e1]
        exact o
  · have hi2 : i = es.length := by omega
    subst hi2
    rw [List.take_length] at o
    simp only [t5, go_sem, reduceIte, Nat.reduceEqDiff, Nat.reduceAdd, Nat.reduceMul, Nat.reduceLT, Nat.reduceLeDiff, reduceCtorEq, ne_eq, Int.reduceEq, Int.reduceLT, Int.reduceLE, Int.reduceNeg, Int.reduceToNat]
    exact ⟨o.live, o.fin hp⟩

theorem k_spec_l17Next (he : Rows h 5 ev (edges es)) (hl : es.length ≤ lim) (hs : size ≤ 1048576) :
    ∃ v hh, C T X n_spec_l17Next [graphV size ev, .int .i64 x] h = some (v, hh) ∧ h <+: hh ∧ Own hh h.length hh.length 1 y_int v (ints (nextL es size x)) := by
  refine C_ex t_spec_l17Next rfl ?_
  unfold F_spec_l17Next graphV
  simp only [zeros, fillAt, go_sem, reduceIte, Nat.reduceEqDiff, Nat.reduceAdd, Nat.reduceMul, Nat.reduceLT, Nat.reduceLeDiff, reduceCtorEq, ne_eq, Int.reduceEq, Int.reduceLT, Int.reduceLE, Int.reduceNeg, Int.reduceToNat]
  refine w_for size.toNat (fun i t loc h' => loc 2 = some [.int .i64 size, ev] ∧ t 1 = .int .i64 x ∧ t 6 = .int .i64 i ∧ h <+: h' ∧ ∃ v, t 5 = v ∧ Own h' h.length h'.length 1 y_int v (ints (nextTo es x i))) ⟨rfl, rfl, rfl, List.prefix_append _ _, _, rfl, Acc.new.own⟩ ?_
  rintro i t loc h' hi ⟨l2, t1, t6, hp, v, t5, o⟩
  simp only [l2, t6, go_sem, reduceIte, Nat.reduceEqDiff, Nat.reduceAdd, Nat.reduceMul, Nat.reduceLT, Nat.reduceLeDiff, reduceCtorEq, ne_eq, Int.reduceEq, Int.reduceLT, Int.reduceLE, Int.reduceNeg, Int.reduceToNat]
  refine w_open (by simp only [go_sem, reduceIte, Nat.reduceEqDiff, Nat.reduceAdd, Nat.reduceMul, Nat.reduceLT, Nat.reduceLeDiff, reduceCtorEq, ne_eq, Int.reduceEq, Int.reduceLT, Int.reduceLE, Int.reduceNeg, Int.reduceToNat]; rfl) ?_ ?_ <;> intro hc
  · have hi1 : i < size.toNat := by omega
    have hw : IntKind.i64.wrap ((i : Int) + 1) = ((i + 1 : Nat) : Int) := w64 (by omega) (by omega)
    have hat := k_spec_l08At (X := X) (h := h') (size := size) (x := (i : Int)) (y := x) (he.up hp) hl
    unfold graphV at hat
    have hlen := nextTo_len (es := es) (v := x) (n := i)
    by_cases e : (i : Int) = x
    · have hnx := nextTo_no (es := es) (v := x) (n := i) (fun h => h.1 e)
      subst e
      simp only [l2, t1, t5, t6, hw, go_sem, reduceIte, Nat.reduceEqDiff, Nat.reduceAdd, Nat.reduceMul, Nat.reduceLT, Nat.reduceLeDiff, reduceCtorEq, ne_eq, Int.reduceEq, Int.reduceLT, Int.reduceLE, Int.reduceNeg, Int.reduceToNat]
      exact ⟨hi1, hp, _, rfl, by rw [hnx]; exact o⟩
    · by_cases e2 : 0 ≤ edgeIx es i x
      · have hnx := nextTo_yes (es := es) (v := x) (n := i) e e2
        obtain ⟨v', h2, c2, g2, b2, o2⟩ := o.push1 (pre_len hp) [.int .i64 (i : Int)] rfl (by rw [ints_len]; unfold lim; omega)
        simp only [l2, t1, t5, t6, e, e2, hat, c2, hw, go_sem, reduceIte, Nat.reduceEqDiff, Nat.reduceAdd, Nat.reduceMul, Nat.reduceLT, Nat.reduceLeDiff, reduceCtorEq, ne_eq, Int.reduceEq, Int.reduceLT, Int.reduceLE, Int.reduceNeg, Int.reduceToNat]
        refine ⟨hi1, pre_push hp (Nat.le_refl _) g2 b2, _, rfl, ?_⟩
        rw [Nat.max_eq_right g2] at o2
        rw [hnx]
        simpa [ints] using o2
      · have hnx := nextTo_no (es := es) (v := x) (n := i) (fun h => e2 h.2)
        simp only [l2, t1, t5, t6, e, e2, hat, hw, go_sem, reduceIte, Nat.reduceEqDiff, Nat.reduceAdd, Nat.reduceMul, Nat.reduceLT, Nat.reduceLeDiff, reduceCtorEq, ne_eq, Int.reduceEq, Int.reduceLT, Int.reduceLE, Int.reduceNeg, Int.reduceToNat]
        exact ⟨hi1, hp, _, rfl, by rw [hnx]; exact o⟩
  · have hi2 : i = size.toNat := by omega
    subst hi2
    simp only [t5, go_sem, reduceIte, Nat.reduceEqDiff, Nat.reduceAdd, Nat.reduceMul, Nat.reduceLT, Nat.reduceLeDiff, reduceCtorEq, ne_eq, Int.reduceEq, Int.reduceLT, Int.reduceLE, Int.reduceNeg, Int.reduceToNat]
    exact ⟨o.live, o.fin hp⟩

end
end Go.Proofs.Ytioogligololoaa.Ab
