/- Contracts: pairings; who is lonely. No conditions. -/
import Derived.Test.YtioogligololoaaK13
set_option linter.unusedSimpArgs false
set_option linter.unusedVariables false
set_option linter.unnecessarySimpa false
set_option maxHeartbeats 4000000
namespace Go.Proofs.Ytioogligololoaa.Ab
open Go.RowKit

/-- The vertices of couples. -/
def metL (m : List Cp) : List Int := m.flatMap fun c => [c.a, c.b]
theorem metL_snoc {m : List Cp} {c : Cp} : metL (m ++ [c]) = metL m ++ [c.a, c.b] := by simp [metL]
theorem metL_len {m : List Cp} : (metL m).length = 2 * m.length := by
  unfold metL
  induction m with
  | nil => rfl
  | cons c m ih => simp only [List.flatMap_cons, List.length_append, ih, List.length_cons, List.length_nil]; omega
/-- A couple of a pairing is right. -/
def CpOk (es : List E) (m : List Cp) (i : Nat) : Prop := (m.getD i c0).a < (m.getD i c0).b ∧ 0 ≤ edgeIx es (m.getD i c0).a (m.getD i c0).b ∧ (0 < i → (m.getD (i - 1) c0).a < (m.getD i c0).a) ∧ ¬ (m.getD i c0).a ∈ metL (m.take i) ∧ ¬ (m.getD i c0).b ∈ metL (m.take i)
/-- A pairing is right. -/
def MOk (size : Int) (es : List E) (m : List Cp) : Prop := GOk size es ∧ ∀ i, i < m.length → CpOk es m i
theorem nodup_len' : ∀ {n : Nat} {l : List Int}, l.Nodup → (∀ x ∈ l, 0 ≤ x ∧ x < n) → l.length ≤ n
  | 0, [], _, _ => Nat.le_refl _
  | 0, a :: l, _, h => by have := h a List.mem_cons_self; omega
  | n + 1, l, hn, h => by
    by_cases hm : (n : Int) ∈ l
    · have h1 := List.length_erase_of_mem hm
      have h2 := nodup_len' (n := n) (hn.erase (n : Int)) fun x hx => by
        obtain ⟨h3, h4⟩ := (hn.mem_erase_iff).1 hx
        have := h x h4
        omega
      omega
    · have := nodup_len' (n := n) hn fun x hx => by
        have h3 := h x hx
        have : x ≠ n := fun e => hm (e ▸ hx)
        omega
      omega
theorem mok_met {size : Int} {es : List E} {m : List Cp} (g : MOk size es m) : ∀ i, i ≤ m.length → (metL (m.take i)).Nodup ∧ ∀ x ∈ metL (m.take i), 0 ≤ x ∧ x < size := by
  intro i
  induction i with
  | zero => intro _; simp [metL]
  | succ i ih =>
    intro hi
    obtain ⟨h1, h2⟩ := ih (by omega)
    obtain ⟨c1, c2, c3, c4, c5⟩ := g.2 i (by omega)
    rw [take_getD (d := c0) (by omega), metL_snoc]
    obtain ⟨e, he, hj⟩ := edgeIx_ge.1 c2
    have hE := gok_mem g.1 he
    unfold EOk at hE
    refine ⟨?_, fun x hx => ?_⟩
    · rw [List.nodup_append]
      refine ⟨h1, ?_, fun x hx y hy e => ?_⟩
      · simp only [List.nodup_cons, List.mem_singleton, List.not_mem_nil, not_false_eq_true, List.nodup_nil, and_true]
        omega
      · simp only [List.mem_cons, List.not_mem_nil, or_false] at hy
        subst e
        rcases hy with rfl | rfl
        · exact c4 hx
        · exact c5 hx
    · rcases List.mem_append.1 hx with hx | hx
      · exact h2 x hx
      · simp only [List.mem_cons, List.not_mem_nil, or_false] at hx
        rcases hj with ⟨j1, j2⟩ | ⟨j1, j2⟩ <;> rcases hx with rfl | rfl <;> omega
theorem mok_len {size : Int} {es : List E} {m : List Cp} (g : MOk size es m) : 2 * (m.length : Int) ≤ size := by
  obtain ⟨h1, h2⟩ := mok_met g m.length (Nat.le_refl _)
  rw [List.take_length] at h1 h2
  have hs := g.1.1
  have := nodup_len' (n := size.toNat) h1 fun x hx => by have := h2 x hx; omega
  rw [metL_len] at this
  omega

section
variable {X : CallF} {h : Heap} {ev mv : Value} {es : List E} {m : List Cp} {size : Int}

open Classical in
theorem k_impl_MatchOk (he : Rows h 5 ev (edges es)) (hm : Rows h 2 mv (cps m)) (hl : es.length ≤ lim) (hml : m.length ≤ 1048576) : C T X n_impl_MatchOk [graphV size ev, mv] h = some (.bool (decide (MOk size es m)), h) := by
  have hk := k_impl_GraphOk (X := X) (size := size) he hl
  refine C_go t_impl_MatchOk rfl ?_
  unfold F_impl_MatchOk
  by_cases g : GOk size es
  rotate_left
  · have hr : ¬ MOk size es m := fun h => g h.1
    unfold graphV at hk ⊢
    simp only [hk, g, hr, go_sem, reduceIte, Nat.reduceEqDiff, Nat.reduceAdd, Nat.reduceMul, Nat.reduceLT, Nat.reduceLeDiff, reduceCtorEq, ne_eq, Int.reduceEq, Int.reduceLT, Int.reduceLE, Int.reduceNeg, Int.reduceToNat]
  have hk' := hk
  unfold graphV at hk ⊢
  simp only [hk, g, hm.lnm, go_sem, reduceIte, Nat.reduceEqDiff, Nat.reduceAdd, Nat.reduceMul, Nat.reduceLT, Nat.reduceLeDiff, reduceCtorEq, ne_eq, Int.reduceEq, Int.reduceLT, Int.reduceLE, Int.reduceNeg, Int.reduceToNat]
  refine w_for m.length (fun i t loc h' => t 1 = mv ∧ loc 2 = some [.int .i64 size, ev] ∧ t 11 = mv ∧ t 12 = .int .i64 m.length ∧ t 13 = .int .i64 i ∧ h <+: h' ∧ (∀ j, j < i → CpOk es m j) ∧ ∃ v, t 5 = v ∧ Acc h 1 y_int v (ints (metL (m.take i))) h') ⟨rfl, rfl, rfl, rfl, rfl, List.prefix_refl _, fun j hj => by omega, _, rfl, Acc.nil⟩ ?_
  rintro i t loc h' hi ⟨t1, l2, t11, t12, t13, hp, hall, v, t5, ha⟩
  simp only [t12, t13, go_sem, reduceIte, Nat.reduceEqDiff, Nat.reduceAdd, Nat.reduceMul, Nat.reduceLT, Nat.reduceLeDiff, reduceCtorEq, ne_eq, Int.reduceEq, Int.reduceLT, Int.reduceLE, Int.reduceNeg, Int.reduceToNat]
  refine w_open (by simp only [go_sem, reduceIte, Nat.reduceEqDiff, Nat.reduceAdd, Nat.reduceMul, Nat.reduceLT, Nat.reduceLeDiff, reduceCtorEq, ne_eq, Int.reduceEq, Int.reduceLT, Int.reduceLE, Int.reduceNeg, Int.reduceToNat]; rfl) ?_ ?_ <;> intro hc
  · have hi1 : i < m.length := by omega
    have hw : IntKind.i64.wrap ((i : Int) + 1) = ((i + 1 : Nat) : Int) := w64 (by omega) (by omega)
    have hel := cp_el (hm.up hp) hi1
    have hneg : ¬ CpOk es m i → ¬ MOk size es m := fun hn g => hn (g.2 i hi1)
    have hat := k_impl_edgeAt (X := X) (size := size) (x := (m.getD i c0).a) (y := (m.getD i c0).b) (he.up hp) hl
    unfold graphV at hat
    have hml2 : (metL (m.take i)).length ≤ 2097152 := by rw [metL_len]; simp; omega
    have ha1 := k_impl_hasInt (X := X) (n := (m.getD i c0).a) ha.rows (by unfold lim; omega)
    have ha2 := k_impl_hasInt (X := X) (n := (m.getD i c0).b) ha.rows (by unfold lim; omega)
    by_cases h1 : (m.getD i c0).b ≤ (m.getD i c0).a
    · have hr := hneg fun h => by have := h.1; omega
      simp only [t1, l2, t5, t11, t12, t13, hel.1, hel.2.2.1, hat, ha1, ha2, List.prefix_refl, h1, hr, go_sem, reduceIte, Nat.reduceEqDiff, Nat.reduceAdd, Nat.reduceMul, Nat.reduceLT, Nat.reduceLeDiff, reduceCtorEq, ne_eq, Int.reduceEq, Int.reduceLT, Int.reduceLE, Int.reduceNeg, Int.reduceToNat]
      exact finish_flat rfl hp
    by_cases h2 : edgeIx es (m.getD i c0).a (m.getD i c0).b < 0
    · have hr := hneg fun h => by have := h.2.1; omega
      simp only [t1, l2, t5, t11, t12, t13, hel.1, hel.2.2.1, hat, ha1, ha2, List.prefix_refl, h1, h2, hr, go_sem, reduceIte, Nat.reduceEqDiff, Nat.reduceAdd, Nat.reduceMul, Nat.reduceLT, Nat.reduceLeDiff, reduceCtorEq, ne_eq, Int.reduceEq, Int.reduceLT, Int.reduceLE, Int.reduceNeg, Int.reduceToNat]
      exact finish_flat rfl hp
    have pos : (0 < i → (m.getD (i - 1) c0).a < (m.getD i c0).a) → ¬ (m.getD i c0).a ∈ metL (m.take i) → ¬ (m.getD i c0).b ∈ metL (m.take i) → CpOk es m i := fun a b c => ⟨by omega, by omega, a, b, c⟩
    rcases Nat.eq_zero_or_pos i with hz | hpi
    · have hz' : ¬ (0 : Int) < i := by omega
      by_cases h4 : (m.getD i c0).a ∈ metL (m.take i)
      · have hr := hneg fun h => h.2.2.2.1 h4
        simp only [t1, l2, t5, t11, t12, t13, hel.1, hel.2.2.1, hat, ha1, ha2, List.prefix_refl, h1, h2, hz', h4, hr, go_sem, reduceIte, Nat.reduceEqDiff, Nat.reduceAdd, Nat.reduceMul, Nat.reduceLT, Nat.reduceLeDiff, reduceCtorEq, ne_eq, Int.reduceEq, Int.reduceLT, Int.reduceLE, Int.reduceNeg, Int.reduceToNat]
        exact finish_flat rfl hp
      by_cases h5 : (m.getD i c0).b ∈ metL (m.take i)
      · have hr := hneg fun h => h.2.2.2.2 h5
        simp only [t1, l2, t5, t11, t12, t13, hel.1, hel.2.2.1, hat, ha1, ha2, List.prefix_refl, h1, h2, hz', h4, h5, hr, go_sem, reduceIte, Nat.reduceEqDiff, Nat.reduceAdd, Nat.reduceMul, Nat.reduceLT, Nat.reduceLeDiff, reduceCtorEq, ne_eq, Int.reduceEq, Int.reduceLT, Int.reduceLE, Int.reduceNeg, Int.reduceToNat]
        exact finish_flat rfl hp
      have hP := pos (fun h => by omega) h4 h5
      obtain ⟨v', hh', c, ha'⟩ := ha.push [[.int .i64 (m.getD i c0).a], [.int .i64 (m.getD i c0).b]] (by simp) (by simp) (by rw [ints_len]; simp; unfold lim; omega)
      simp only [List.flatten_cons, List.flatten_nil, List.append_nil, List.cons_append, List.nil_append, List.length_cons, List.length_nil, Nat.zero_add, Nat.reduceAdd] at c
      simp only [t1, l2, t5, t11, t12, t13, hel.1, hel.2.2.1, hat, ha1, ha2, List.prefix_refl, h1, h2, hz', h4, h5, c, hw, go_sem, reduceIte, Nat.reduceEqDiff, Nat.reduceAdd, Nat.reduceMul, Nat.reduceLT, Nat.reduceLeDiff, reduceCtorEq, ne_eq, Int.reduceEq, Int.reduceLT, Int.reduceLE, Int.reduceNeg, Int.reduceToNat]
      refine ⟨hi1, ha'.up, below_succ hall hP, _, rfl, ?_⟩
      rw [take_getD (d := c0) hi1, metL_snoc, ← ints_app]
      exact ha'
    · have hp' : (0 : Int) < i := by omega
      have hw1 : IntKind.i64.wrap ((i : Int) - 1) = ((i - 1 : Nat) : Int) := by rw [w64 (by omega) (by omega)]; omega
      have hel2 := cp_el (hm.up hp) (show i - 1 < m.length by omega)
      by_cases h3 : (m.getD i c0).a ≤ (m.getD (i - 1) c0).a
      · have hr := hneg fun h => by have := h.2.2.1 hpi; omega
        simp only [t1, l2, t5, t11, t12, t13, hel.1, hel.2.2.1, hat, ha1, ha2, List.prefix_refl, hw1, hel2.1, hel2.2.1, hel2.2.2.2.1, h1, h2, hp', h3, hr, go_sem, reduceIte, Nat.reduceEqDiff, Nat.reduceAdd, Nat.reduceMul, Nat.reduceLT, Nat.reduceLeDiff, reduceCtorEq, ne_eq, Int.reduceEq, Int.reduceLT, Int.reduceLE, Int.reduceNeg, Int.reduceToNat]
        exact finish_flat rfl hp
      by_cases h4 : (m.getD i c0).a ∈ metL (m.take i)
      · have hr := hneg fun h => h.2.2.2.1 h4
        simp only [t1, l2, t5, t11, t12, t13, hel.1, hel.2.2.1, hat, ha1, ha2, List.prefix_refl, hw1, hel2.1, hel2.2.1, hel2.2.2.2.1, h1, h2, hp', h3, h4, hr, go_sem, reduceIte, Nat.reduceEqDiff, Nat.reduceAdd, Nat.reduceMul, Nat.reduceLT, Nat.reduceLeDiff, reduceCtorEq, ne_eq, Int.reduceEq, Int.reduceLT, Int.reduceLE, Int.reduceNeg, Int.reduceToNat]
        exact finish_flat rfl hp
      by_cases h5 : (m.getD i c0).b ∈ metL (m.take i)
      · have hr := hneg fun h => h.2.2.2.2 h5
        simp only [t1, l2, t5, t11, t12, t13, hel.1, hel.2.2.1, hat, ha1, ha2, List.prefix_refl, hw1, hel2.1, hel2.2.1, hel2.2.2.2.1, h1, h2, hp', h3, h4, h5, hr, go_sem, reduceIte, Nat.reduceEqDiff, Nat.reduceAdd, Nat.reduceMul, Nat.reduceLT, Nat.reduceLeDiff, reduceCtorEq, ne_eq, Int.reduceEq, Int.reduceLT, Int.reduceLE, Int.reduceNeg, Int.reduceToNat]
        exact finish_flat rfl hp
      have hP := pos (fun h => by omega) h4 h5
      obtain ⟨v', hh', c, ha'⟩ := ha.push [[.int .i64 (m.getD i c0).a], [.int .i64 (m.getD i c0).b]] (by simp) (by simp) (by rw [ints_len]; simp; unfold lim; omega)
      simp only [List.flatten_cons, List.flatten_nil, List.append_nil, List.cons_append, List.nil_append, List.length_cons, List.length_nil, Nat.zero_add, Nat.reduceAdd] at c
      simp only [t1, l2, t5, t11, t12, t13, hel.1, hel.2.2.1, hat, ha1, ha2, List.prefix_refl, hw1, hel2.1, hel2.2.1, hel2.2.2.2.1, h1, h2, hp', h3, h4, h5, c, hw, go_sem, reduceIte, Nat.reduceEqDiff, Nat.reduceAdd, Nat.reduceMul, Nat.reduceLT, Nat.reduceLeDiff, reduceCtorEq, ne_eq, Int.reduceEq, Int.reduceLT, Int.reduceLE, Int.reduceNeg, Int.reduceToNat]
      refine ⟨hi1, ha'.up, below_succ hall hP, _, rfl, ?_⟩
      rw [take_getD (d := c0) hi1, metL_snoc, ← ints_app]
      exact ha'
  · have hr : MOk size es m := ⟨g, fun j hj => hall j (by omega)⟩
    simp only [hr, go_sem, reduceIte, Nat.reduceEqDiff, Nat.reduceAdd, Nat.reduceMul, Nat.reduceLT, Nat.reduceLeDiff, reduceCtorEq, ne_eq, Int.reduceEq, Int.reduceLT, Int.reduceLE, Int.reduceNeg, Int.reduceToNat]
    exact finish_flat rfl hp

open Classical in
theorem k_spec_MatchOk (he : Rows h 5 ev (edges es)) (hm : Rows h 2 mv (cps m)) (hl : es.length ≤ lim) (hml : m.length ≤ 1048576) : C T X n_spec_MatchOk [graphV size ev, mv] h = some (.bool (decide (MOk size es m)), h) := by
  have hk := k_spec_GraphOk (X := X) (size := size) he hl
  refine C_go t_spec_MatchOk rfl ?_
  unfold F_spec_MatchOk
  by_cases g : GOk size es
  rotate_left
  · have hr : ¬ MOk size es m := fun h => g h.1
    unfold graphV at hk ⊢
    simp only [hk, g, hr, go_sem, reduceIte, Nat.reduceEqDiff, Nat.reduceAdd, Nat.reduceMul, Nat.reduceLT, Nat.reduceLeDiff, reduceCtorEq, ne_eq, Int.reduceEq, Int.reduceLT, Int.reduceLE, Int.reduceNeg, Int.reduceToNat]
  have hk' := hk
  unfold graphV at hk ⊢
  by_cases hm9 : (9 : Int) < m.length
  · have hr : ¬ MOk size es m := fun h => by have := mok_len h; have := g.1; omega
    simp only [hk, g, hm.lnm, hm9, hr, go_sem, reduceIte, Nat.reduceEqDiff, Nat.reduceAdd, Nat.reduceMul, Nat.reduceLT, Nat.reduceLeDiff, reduceCtorEq, ne_eq, Int.reduceEq, Int.reduceLT, Int.reduceLE, Int.reduceNeg, Int.reduceToNat]
  simp only [hk, g, hm.lnm, hm9, zeros, fillAt, go_sem, reduceIte, Nat.reduceEqDiff, Nat.reduceAdd, Nat.reduceMul, Nat.reduceLT, Nat.reduceLeDiff, reduceCtorEq, ne_eq, Int.reduceEq, Int.reduceLT, Int.reduceLE, Int.reduceNeg, Int.reduceToNat]
  refine w_for m.length (fun i t loc h' => t 1 = mv ∧ loc 2 = some [.int .i64 size, ev] ∧ t 6 = .int .i64 i ∧ h <+: h' ∧ (∀ j, j < i → CpOk es m j) ∧ ∃ v, t 5 = v ∧ Acc h 1 y_int v (ints (metL (m.take i))) h') ⟨rfl, rfl, rfl, List.prefix_append _ _, fun j hj => by omega, _, rfl, Acc.new⟩ ?_
  rintro i t loc h' hi ⟨t1, l2, t6, hp, hall, v, t5, ha⟩
  simp only [t1, t6, (hm.up hp).lnm, go_sem, reduceIte, Nat.reduceEqDiff, Nat.reduceAdd, Nat.reduceMul, Nat.reduceLT, Nat.reduceLeDiff, reduceCtorEq, ne_eq, Int.reduceEq, Int.reduceLT, Int.reduceLE, Int.reduceNeg, Int.reduceToNat]
  refine w_open (by simp only [go_sem, reduceIte, Nat.reduceEqDiff, Nat.reduceAdd, Nat.reduceMul, Nat.reduceLT, Nat.reduceLeDiff, reduceCtorEq, ne_eq, Int.reduceEq, Int.reduceLT, Int.reduceLE, Int.reduceNeg, Int.reduceToNat]; rfl) ?_ ?_ <;> intro hc
  · have hi1 : i < m.length := by omega
    have hw : IntKind.i64.wrap ((i : Int) + 1) = ((i + 1 : Nat) : Int) := w64 (by omega) (by omega)
    have hel := cp_el (hm.up hp) hi1
    have hneg : ¬ CpOk es m i → ¬ MOk size es m := fun hn g => hn (g.2 i hi1)
    have hat := k_spec_l08At (X := X) (size := size) (x := (m.getD i c0).a) (y := (m.getD i c0).b) (he.up hp) hl
    unfold graphV at hat
    have hml2 : (metL (m.take i)).length ≤ 2097152 := by rw [metL_len]; simp; omega
    have ha1 := k_spec_l03In (X := X) (n := (m.getD i c0).a) ha.rows (by unfold lim; omega)
    have ha2 := k_spec_l03In (X := X) (n := (m.getD i c0).b) ha.rows (by unfold lim; omega)
    by_cases h1 : (m.getD i c0).b ≤ (m.getD i c0).a
    · have hr := hneg fun h => by have := h.1; omega
      simp only [t1, l2, t5, t6, hel.1, hel.2.2.1, hat, ha1, ha2, List.prefix_refl, h1, hr, go_sem, reduceIte, Nat.reduceEqDiff, Nat.reduceAdd, Nat.reduceMul, Nat.reduceLT, Nat.reduceLeDiff, reduceCtorEq, ne_eq, Int.reduceEq, Int.reduceLT, Int.reduceLE, Int.reduceNeg, Int.reduceToNat]
      exact finish_flat rfl hp
    have pos : ¬ edgeIx es (m.getD i c0).a (m.getD i c0).b < 0 → (0 < i → (m.getD (i - 1) c0).a < (m.getD i c0).a) → ¬ (m.getD i c0).a ∈ metL (m.take i) → ¬ (m.getD i c0).b ∈ metL (m.take i) → CpOk es m i := fun d a b c => ⟨by omega, by omega, a, b, c⟩
    rcases Nat.eq_zero_or_pos i with hz | hpi
    · have hz' : ¬ (0 : Int) < i := by omega
      by_cases h2 : edgeIx es (m.getD i c0).a (m.getD i c0).b < 0
      · have hr := hneg fun h => by have := h.2.1; omega
        simp only [t1, l2, t5, t6, hel.1, hel.2.2.1, hat, ha1, ha2, List.prefix_refl, h1, h2, hz', hr, go_sem, reduceIte, Nat.reduceEqDiff, Nat.reduceAdd, Nat.reduceMul, Nat.reduceLT, Nat.reduceLeDiff, reduceCtorEq, ne_eq, Int.reduceEq, Int.reduceLT, Int.reduceLE, Int.reduceNeg, Int.reduceToNat]
        exact finish_flat rfl hp
      by_cases h4 : (m.getD i c0).a ∈ metL (m.take i)
      · have hr := hneg fun h => h.2.2.2.1 h4
        simp only [t1, l2, t5, t6, hel.1, hel.2.2.1, hat, ha1, ha2, List.prefix_refl, h1, h2, hz', h4, hr, go_sem, reduceIte, Nat.reduceEqDiff, Nat.reduceAdd, Nat.reduceMul, Nat.reduceLT, Nat.reduceLeDiff, reduceCtorEq, ne_eq, Int.reduceEq, Int.reduceLT, Int.reduceLE, Int.reduceNeg, Int.reduceToNat]
        exact finish_flat rfl hp
      by_cases h5 : (m.getD i c0).b ∈ metL (m.take i)
      · have hr := hneg fun h => h.2.2.2.2 h5
        simp only [t1, l2, t5, t6, hel.1, hel.2.2.1, hat, ha1, ha2, List.prefix_refl, h1, h2, hz', h4, h5, hr, go_sem, reduceIte, Nat.reduceEqDiff, Nat.reduceAdd, Nat.reduceMul, Nat.reduceLT, Nat.reduceLeDiff, reduceCtorEq, ne_eq, Int.reduceEq, Int.reduceLT, Int.reduceLE, Int.reduceNeg, Int.reduceToNat]
        exact finish_flat rfl hp
      have hP := pos h2 (fun h => by omega) h4 h5
      obtain ⟨v', hh', c, ha'⟩ := ha.push [[.int .i64 (m.getD i c0).a], [.int .i64 (m.getD i c0).b]] (by simp) (by simp) (by rw [ints_len]; simp; unfold lim; omega)
      simp only [List.flatten_cons, List.flatten_nil, List.append_nil, List.cons_append, List.nil_append, List.length_cons, List.length_nil, Nat.zero_add, Nat.reduceAdd] at c
      simp only [t1, l2, t5, t6, hel.1, hel.2.2.1, hat, ha1, ha2, List.prefix_refl, h1, h2, hz', h4, h5, c, hw, go_sem, reduceIte, Nat.reduceEqDiff, Nat.reduceAdd, Nat.reduceMul, Nat.reduceLT, Nat.reduceLeDiff, reduceCtorEq, ne_eq, Int.reduceEq, Int.reduceLT, Int.reduceLE, Int.reduceNeg, Int.reduceToNat]
      refine ⟨hi1, ha'.up, below_succ hall hP, _, rfl, ?_⟩
      rw [take_getD (d := c0) hi1, metL_snoc, ← ints_app]
      exact ha'
    · have hp' : (0 : Int) < i := by omega
      have hw1 : IntKind.i64.wrap ((i : Int) - 1) = ((i - 1 : Nat) : Int) := by rw [w64 (by omega) (by omega)]; omega
      have hel2 := cp_el (hm.up hp) (show i - 1 < m.length by omega)
      by_cases h3 : (m.getD i c0).a ≤ (m.getD (i - 1) c0).a
      · have hr := hneg fun h => by have := h.2.2.1 hpi; omega
        simp only [t1, l2, t5, t6, hel.1, hel.2.2.1, hat, ha1, ha2, List.prefix_refl, hw1, hel2.1, hel2.2.1, hel2.2.2.2.1, h1, hp', h3, hr, go_sem, reduceIte, Nat.reduceEqDiff, Nat.reduceAdd, Nat.reduceMul, Nat.reduceLT, Nat.reduceLeDiff, reduceCtorEq, ne_eq, Int.reduceEq, Int.reduceLT, Int.reduceLE, Int.reduceNeg, Int.reduceToNat]
        exact finish_flat rfl hp
      by_cases h2 : edgeIx es (m.getD i c0).a (m.getD i c0).b < 0
      · have hr := hneg fun h => by have := h.2.1; omega
        simp only [t1, l2, t5, t6, hel.1, hel.2.2.1, hat, ha1, ha2, List.prefix_refl, h1, h2, hw1, hel2.1, hel2.2.1, hel2.2.2.2.1, hp', h3, hr, go_sem, reduceIte, Nat.reduceEqDiff, Nat.reduceAdd, Nat.reduceMul, Nat.reduceLT, Nat.reduceLeDiff, reduceCtorEq, ne_eq, Int.reduceEq, Int.reduceLT, Int.reduceLE, Int.reduceNeg, Int.reduceToNat]
        exact finish_flat rfl hp
      by_cases h4 : (m.getD i c0).a ∈ metL (m.take i)
      · have hr := hneg fun h => h.2.2.2.1 h4
        simp only [t1, l2, t5, t6, hel.1, hel.2.2.1, hat, ha1, ha2, List.prefix_refl, hw1, hel2.1, hel2.2.1, hel2.2.2.2.1, h1, h2, hp', h3, h4, hr, go_sem, reduceIte, Nat.reduceEqDiff, Nat.reduceAdd, Nat.reduceMul, Nat.reduceLT, Nat.reduceLeDiff, reduceCtorEq, ne_eq, Int.reduceEq, Int.reduceLT, Int.reduceLE, Int.reduceNeg, Int.reduceToNat]
        exact finish_flat rfl hp
      by_cases h5 : (m.getD i c0).b ∈ metL (m.take i)
      · have hr := hneg fun h => h.2.2.2.2 h5
        simp only [t1, l2, t5, t6, hel.1, hel.2.2.1, hat, ha1, ha2, List.prefix_refl, hw1, hel2.1, hel2.2.1, hel2.2.2.2.1, h1, h2, hp', h3, h4, h5, hr, go_sem, reduceIte, Nat.reduceEqDiff, Nat.reduceAdd, Nat.reduceMul, Nat.reduceLT, Nat.reduceLeDiff, reduceCtorEq, ne_eq, Int.reduceEq, Int.reduceLT, Int.reduceLE, Int.reduceNeg, Int.reduceToNat]
        exact finish_flat rfl hp
      have hP := pos h2 (fun h => by omega) h4 h5
      obtain ⟨v', hh', c, ha'⟩ := ha.push [[.int .i64 (m.getD i c0).a], [.int .i64 (m.getD i c0).b]] (by simp) (by simp) (by rw [ints_len]; simp; unfold lim; omega)
      simp only [List.flatten_cons, List.flatten_nil, List.append_nil, List.cons_append, List.nil_append, List.length_cons, List.length_nil, Nat.zero_add, Nat.reduceAdd] at c
      simp only [t1, l2, t5, t6, hel.1, hel.2.2.1, hat, ha1, ha2, List.prefix_refl, hw1, hel2.1, hel2.2.1, hel2.2.2.2.1, h1, h2, hp', h3, h4, h5, c, hw, go_sem, reduceIte, Nat.reduceEqDiff, Nat.reduceAdd, Nat.reduceMul, Nat.reduceLT, Nat.reduceLeDiff, reduceCtorEq, ne_eq, Int.reduceEq, Int.reduceLT, Int.reduceLE, Int.reduceNeg, Int.reduceToNat]
      refine ⟨hi1, ha'.up, below_succ hall hP, _, rfl, ?_⟩
      rw [take_getD (d := c0) hi1, metL_snoc, ← ints_app]
      exact ha'
  · have hr : MOk size es m := ⟨g, fun j hj => hall j (by omega)⟩
    simp only [hr, go_sem, reduceIte, Nat.reduceEqDiff, Nat.reduceAdd, Nat.reduceMul, Nat.reduceLT, Nat.reduceLeDiff, reduceCtorEq, ne_eq, Int.reduceEq, Int.reduceLT, Int.reduceLE, Int.reduceNeg, Int.reduceToNat]
    exact finish_flat rfl hp

end

/-- The vertices that are in no couple. -/
def lonelyTo (m : List Cp) (n : Nat) : List Int := ((List.range n).map fun n : Nat => (n : Int)).filter fun u => decide (¬ u ∈ metL m)
theorem lonelyTo_succ {m : List Cp} {n : Nat} : lonelyTo m (n + 1) = if (n : Int) ∈ metL m then lonelyTo m n else lonelyTo m n ++ [(n : Int)] := by
  unfold lonelyTo
  rw [List.range_succ, List.map_append, List.filter_append]
  by_cases h : (n : Int) ∈ metL m <;> simp [h]
theorem lonelyTo_len {m : List Cp} {n : Nat} : (lonelyTo m n).length ≤ n := Nat.le_trans (List.length_filter_le _ _) (by simp)
open Classical in
noncomputable def lonelyL (size : Int) (es : List E) (m : List Cp) : List Int := if MOk size es m then lonelyTo m size.toNat else []
theorem lonelyL_len {size : Int} {es : List E} {m : List Cp} : (lonelyL size es m).length ≤ 9 := by
  unfold lonelyL
  split
  · rename_i g; have := g.1.1; have := lonelyTo_len (m := m) (n := size.toNat); omega
  · simp
theorem metL_mem {m : List Cp} {x : Int} : x ∈ metL m ↔ ∃ c ∈ m, c.a = x ∨ c.b = x := by
  unfold metL
  simp only [List.mem_flatMap, List.mem_cons, List.not_mem_nil, or_false]
  constructor
  · rintro ⟨c, h1, h2⟩; exact ⟨c, h1, h2.imp Eq.symm Eq.symm⟩
  · rintro ⟨c, h1, h2⟩; exact ⟨c, h1, h2.imp Eq.symm Eq.symm⟩
/-- A vertex is in none of the first couples. -/
def AloneTo (m : List Cp) (k : Int) (i : Nat) : Prop := ∀ j, j < i → ¬ (m.getD j c0).a = k ∧ ¬ (m.getD j c0).b = k
theorem alone_succ {m : List Cp} {k : Int} {i : Nat} : AloneTo m k (i + 1) ↔ AloneTo m k i ∧ ¬ (m.getD i c0).a = k ∧ ¬ (m.getD i c0).b = k :=
  ⟨fun h => ⟨fun j hj => h j (by omega), h i (by omega)⟩, fun h => below_succ h.1 h.2⟩
theorem alone_all {m : List Cp} {k : Int} : AloneTo m k m.length ↔ ¬ k ∈ metL m := by
  rw [metL_mem]
  constructor
  · rintro h ⟨c, hc, he⟩
    obtain ⟨j, hj, rfl⟩ := mem_getD (d := c0) hc
    exact he.elim (h j hj).1 (h j hj).2
  · intro h j hj
    exact ⟨fun e => h ⟨_, getD_mem hj, .inl e⟩, fun e => h ⟨_, getD_mem hj, .inr e⟩⟩
section
variable {X : CallF} {h : Heap} {ev mv : Value} {es : List E} {m : List Cp} {size : Int}
end
end Go.Proofs.Ytioogligololoaa.Ab
