/- Contracts: drawn asks. No conditions. -/
import Derived.Test.YtioogligololoaaK35
import Derived.Test.YtioogligololoaaK6
set_option linter.unusedSimpArgs false
set_option linter.unusedVariables false
set_option linter.unnecessarySimpa false
set_option maxHeartbeats 4000000
namespace Go.Proofs.Ytioogligololoaa.Ab
open Go.RowKit

/-- Code that ends in one state, whichever way it takes. -/
def ExN (J : (Nat → Value) → (Nat → Option (List Value)) → Heap → Prop) (e : Exit) (s : St) : Prop := e = .normal ∧ s.al = (fun _ => none) ∧ J s.t s.loc s.h
section
variable {T : FuncId → Option Fun} {X : CallF} {t : Nat → Value} {loc : Nat → Option (List Value)} {h : Heap} {Q : Exit → St → Prop}
theorem w_join {x : IR} {s : St} (J : (Nat → Value) → (Nat → Option (List Value)) → Heap → Prop) (h1 : W T X x s (ExN J)) (rest : ∀ (t : Nat → Value) (loc : Nat → Option (List Value)) (h : Heap), J t loc h → Q .normal ⟨t, loc, fun _ => none, h⟩) : W T X x s Q := by
  refine h1.mono T X ?_
  rintro e ⟨t, loc, al, h⟩ ⟨rfl, rfl, hj⟩
  exact rest t loc h hj
theorem exn_normal {J : (Nat → Value) → (Nat → Option (List Value)) → Heap → Prop} : ExN J .normal ⟨t, loc, fun _ => none, h⟩ ↔ J t loc h := ⟨fun h => h.2.2, fun h => ⟨rfl, rfl, h⟩⟩
end
attribute [go_sem ↓] exn_normal

section
variable {X : CallF} {B h : Heap} {b : Nat} {cv : Value} {l : List Int}

theorem Dr.same {h1 : Heap} (d : Dr B b cv l h) (a : Fr' b h h1) (hb : ∃ (i : Nat) (x : Int), i ≤ l.length ∧ h1[b]? = some (curB cv i x)) : Dr B b cv l h1 := ⟨a.up d.base d.below, d.code, d.below, d.len, hb⟩
theorem Dr.up {h1 : Heap} (d : Dr B b cv l h) (hp : h <+: h1) : Dr B b cv l h1 := by
  obtain ⟨i, x, hi, hb⟩ := d.cur
  exact ⟨d.base.trans hp, d.code, d.below, d.len, i, x, hi, pre_get hp hb⟩
theorem Dr.push {h1 : Heap} (d : Dr B b cv l h) (hl : h.length ≤ h1.length) (hk : ∀ c, c < h.length → h1[c]? = h[c]?) : Dr B b cv l h1 := d.up (pre_of_get hl hk)
theorem pick_lit (d : Dr B b cv l h) (L : List Int) (hL : 0 < L.length) (hl : L.length ≤ lim) : ∃ x hh, C T X n_spec_l01PickInt [pk b 0, .slice (some ⟨h.length, 0, none⟩) L.length L.length] (h ++ [⟨L.map fun n => .int .i64 n, 1, y_int, true⟩]) = some (.int .i64 x, hh) ∧ Dr B b cv l hh ∧ Fr' b h hh ∧ x ∈ L := by
  have hp : h <+: h ++ [⟨L.map fun n => .int .i64 n, 1, y_int, true⟩] := List.prefix_append _ _
  have o : Own (h ++ [⟨L.map fun n => .int .i64 n, 1, y_int, true⟩]) h.length (h.length + 1) 1 y_int (.slice (some ⟨h.length, 0, none⟩) L.length L.length) (ints L) := by
    have := Own.made (h := h) (ty := y_int) (rws := ints L) ints_row
    rw [ints_len, ints_flat] at this
    exact this
  obtain ⟨x, hh, c, d1, s, hx⟩ := k_l01PickInt (X := X) (d.up hp) o d.lt hL hl
  exact ⟨x, hh, c, d1, (Fr'.pre hp).trans (Fr'.same s), hx⟩

theorem k_l13Num {s : ByteArray} : ∃ (n : Int) (ok : Bool), C T X n_spec_l13Num [.string s] h = some (.tuple ⟨[.int .i64 n, .bool ok]⟩, h) := by
  suffices hx : ∃ w hh, C T X n_spec_l13Num [.string s] h = some (w, hh) ∧ hh = h ∧ ∃ (n : Int) (ok : Bool), w = .tuple ⟨[.int .i64 n, .bool ok]⟩ by
    obtain ⟨w, hh, c, rfl, n, ok, rfl⟩ := hx
    exact ⟨n, ok, c⟩
  refine C_ex t_spec_l13Num rfl ?_
  unfold F_spec_l13Num
  by_cases h2 : (s.size : Int) = 2
  · have e0 : ixV (.string s) (.int .i64 0) = some (.int .u8 (byt s 0 : Nat)) := ix_byt (i := 0) (by omega)
    have e1 : ixV (.string s) (.int .i64 1) = some (.int .u8 (byt s 1 : Nat)) := ix_byt (i := 1) (by omega)
    have b0 := byt_lt (s := s) (i := 0)
    have b1 := byt_lt (s := s) (i := 1)
    by_cases c1 : ((byt s 0 : Nat) : Int) < 48
    · simp only [h2, e0, e1, c1, go_sem, reduceIte, Nat.reduceEqDiff, Nat.reduceAdd, Nat.reduceMul, Nat.reduceLT, Nat.reduceLeDiff, reduceCtorEq, ne_eq, Int.reduceEq, Int.reduceLT, Int.reduceLE, Int.reduceNeg, Int.reduceToNat]
      exact ⟨_, _, rfl⟩
    by_cases c2 : ((byt s 0 : Nat) : Int) > 57
    · simp only [h2, e0, e1, c1, c2, go_sem, reduceIte, Nat.reduceEqDiff, Nat.reduceAdd, Nat.reduceMul, Nat.reduceLT, Nat.reduceLeDiff, reduceCtorEq, ne_eq, Int.reduceEq, Int.reduceLT, Int.reduceLE, Int.reduceNeg, Int.reduceToNat]
      exact ⟨_, _, rfl⟩
    by_cases c3 : ((byt s 1 : Nat) : Int) < 48
    · simp only [h2, e0, e1, c1, c2, c3, go_sem, reduceIte, Nat.reduceEqDiff, Nat.reduceAdd, Nat.reduceMul, Nat.reduceLT, Nat.reduceLeDiff, reduceCtorEq, ne_eq, Int.reduceEq, Int.reduceLT, Int.reduceLE, Int.reduceNeg, Int.reduceToNat]
      exact ⟨_, _, rfl⟩
    by_cases c4 : ((byt s 1 : Nat) : Int) > 57
    · simp only [h2, e0, e1, c1, c2, c3, c4, go_sem, reduceIte, Nat.reduceEqDiff, Nat.reduceAdd, Nat.reduceMul, Nat.reduceLT, Nat.reduceLeDiff, reduceCtorEq, ne_eq, Int.reduceEq, Int.reduceLT, Int.reduceLE, Int.reduceNeg, Int.reduceToNat]
      exact ⟨_, _, rfl⟩
    · simp only [h2, e0, e1, c1, c2, c3, c4, go_sem, reduceIte, Nat.reduceEqDiff, Nat.reduceAdd, Nat.reduceMul, Nat.reduceLT, Nat.reduceLeDiff, reduceCtorEq, ne_eq, Int.reduceEq, Int.reduceLT, Int.reduceLE, Int.reduceNeg, Int.reduceToNat]
      exact ⟨_, _, rfl⟩
  · simp only [h2, go_sem, reduceIte, Nat.reduceEqDiff, Nat.reduceAdd, Nat.reduceMul, Nat.reduceLT, Nat.reduceLeDiff, reduceCtorEq, ne_eq, Int.reduceEq, Int.reduceLT, Int.reduceLE, Int.reduceNeg, Int.reduceToNat]
    exact ⟨_, _, rfl⟩

theorem k_l13Ids {mv : Value} {ml : List Pr} {w : ByteArray} (hm : Rows h 2 mv (prsL ml)) (hl : ml.length ≤ 1048576) (hk : ∀ p ∈ ml, 0 < p.k.size ∧ p.k.size ≤ lim) : ∃ v hh, C T X n_spec_l13Ids [mv, .string w] h = some (v, hh) ∧ h <+: hh ∧ ∃ L, L.length ≤ ml.length ∧ Own hh h.length hh.length 1 y_int v (ints L) := by
  refine C_ex t_spec_l13Ids rfl ?_
  unfold F_spec_l13Ids
  simp only [zeros, fillAt, go_sem, reduceIte, Nat.reduceEqDiff, Nat.reduceAdd, Nat.reduceMul, Nat.reduceLT, Nat.reduceLeDiff, reduceCtorEq, ne_eq, Int.reduceEq, Int.reduceLT, Int.reduceLE, Int.reduceNeg, Int.reduceToNat]
  refine w_for ml.length (fun i t loc h' => t 0 = mv ∧ t 1 = .string w ∧ t 6 = .int .i64 i ∧ h <+: h' ∧ ∃ L v, t 5 = v ∧ L.length ≤ i ∧ Own h' h.length h'.length 1 y_int v (ints L)) ⟨rfl, rfl, rfl, List.prefix_append _ _, [], _, rfl, Nat.zero_le _, Acc.new.own⟩ ?_
  rintro i t loc h' hi ⟨t0, t1, t6, hp, L, v, t5, hL, o⟩
  have hln : lnV h' mv = some (.int .i64 (ml.length : Int)) := (hm.up hp).lnm
  simp only [t0, t6, hln, go_sem, reduceIte, Nat.reduceEqDiff, Nat.reduceAdd, Nat.reduceMul, Nat.reduceLT, Nat.reduceLeDiff, reduceCtorEq, ne_eq, Int.reduceEq, Int.reduceLT, Int.reduceLE, Int.reduceNeg, Int.reduceToNat]
  refine w_open (by simp only [go_sem, reduceIte, Nat.reduceEqDiff, Nat.reduceAdd, Nat.reduceMul, Nat.reduceLT, Nat.reduceLeDiff, reduceCtorEq, ne_eq, Int.reduceEq, Int.reduceLT, Int.reduceLE, Int.reduceNeg, Int.reduceToNat]; rfl) ?_ ?_ <;> intro hc
  · have hi1 : i < ml.length := by omega
    have hw : IntKind.i64.wrap ((i : Int) + 1) = ((i + 1 : Nat) : Int) := w64 (by omega) (by omega)
    have el := (hm.up hp).el (f := prR) p0 hi1
    have cl0 := (hm.up hp).cell (f := prR) p0 hi1 (o := 0) (by omega)
    have cl1 := (hm.up hp).cell (f := prR) p0 hi1 (o := 1) (by omega)
    obtain ⟨q, hq⟩ : ∃ q, q = ml.getD i p0 := ⟨_, rfl⟩
    have hkq := hk _ (getD_mem (d := p0) hi1)
    rw [← hq] at el cl0 cl1 hkq
    have k0 : ldC h' (elemP mv 2 i 0) 1 = some [.string q.k] := cl0
    have k1 : ldC h' (elemP mv 2 i 1) 1 = some [.string q.v] := cl1
    have e0 : ixV (.string q.k) (.int .i64 0) = some (.int .u8 (byt q.k 0 : Nat)) := ix_byt (i := 0) hkq.1
    have hkl := hkq.2
    unfold lim at hkl
    have hsl : slSV (.string q.k) (some (.int .i64 1)) none = some (.string (q.k.extract 1 q.k.size)) := by
      simp only [slSV, bnd]
      rw [if_pos ⟨by omega, by omega, by omega⟩]
      rfl
    obtain ⟨n, ok, cn⟩ := k_l13Num (X := X) (h := h') (s := q.k.extract 1 q.k.size)
    by_cases c1 : ((byt q.k 0 : Nat) : Int) = 118
    · by_cases c2 : w = noT
      · obtain ⟨v2, h2, c3, q1, q2, o2⟩ := o.push1 (pre_len hp) [.int .i64 n] rfl (by rw [ints_len]; unfold lim; omega)
        rw [Nat.max_eq_right q1] at o2
        have c2' : (w.toList == ByteArray.toList ⟨⟨[]⟩⟩) = true := by rw [str_eq]; exact decide_eq_true c2
        simp only [t0, t1, t5, t6, el.1, el.2.1, k0, k1, e0, c1, c2', hsl, cn, zeros, fillAt, c3, hw, go_sem, reduceIte, Nat.reduceEqDiff, Nat.reduceAdd, Nat.reduceMul, Nat.reduceLT, Nat.reduceLeDiff, reduceCtorEq, ne_eq, Int.reduceEq, Int.reduceLT, Int.reduceLE, Int.reduceNeg, Int.reduceToNat]
        exact ⟨hi1, pre_push hp (Nat.le_refl _) q1 q2, L ++ [n], v2, rfl, by simp; omega, by simpa [ints] using o2⟩
      · have c2' : (w.toList == ByteArray.toList ⟨⟨[]⟩⟩) = false := by rw [str_eq]; exact decide_eq_false c2
        by_cases c4 : q.v = w
        · obtain ⟨v2, h2, c3, q1, q2, o2⟩ := o.push1 (pre_len hp) [.int .i64 n] rfl (by rw [ints_len]; unfold lim; omega)
          rw [Nat.max_eq_right q1] at o2
          have c4' : (q.v.toList == w.toList) = true := by rw [str_eq]; exact decide_eq_true c4
          simp only [t0, t1, t5, t6, el.1, el.2.1, k0, k1, e0, c1, c2', c4', hsl, cn, zeros, fillAt, c3, hw, go_sem, reduceIte, Nat.reduceEqDiff, Nat.reduceAdd, Nat.reduceMul, Nat.reduceLT, Nat.reduceLeDiff, reduceCtorEq, ne_eq, Int.reduceEq, Int.reduceLT, Int.reduceLE, Int.reduceNeg, Int.reduceToNat]
          exact ⟨hi1, pre_push hp (Nat.le_refl _) q1 q2, L ++ [n], v2, rfl, by simp; omega, by simpa [ints] using o2⟩
        · have c4' : (q.v.toList == w.toList) = false := by rw [str_eq]; exact decide_eq_false c4
          simp only [t0, t1, t5, t6, el.1, el.2.1, k0, k1, e0, c1, c2', c4', hw, go_sem, reduceIte, Nat.reduceEqDiff, Nat.reduceAdd, Nat.reduceMul, Nat.reduceLT, Nat.reduceLeDiff, reduceCtorEq, ne_eq, Int.reduceEq, Int.reduceLT, Int.reduceLE, Int.reduceNeg, Int.reduceToNat]
          exact ⟨hi1, hp, L, v, rfl, by omega, o⟩
    · simp only [t0, t1, t5, t6, el.1, el.2.1, k0, k1, e0, c1, hw, go_sem, reduceIte, Nat.reduceEqDiff, Nat.reduceAdd, Nat.reduceMul, Nat.reduceLT, Nat.reduceLeDiff, reduceCtorEq, ne_eq, Int.reduceEq, Int.reduceLT, Int.reduceLE, Int.reduceNeg, Int.reduceToNat]
      exact ⟨hi1, hp, L, v, rfl, by omega, o⟩
  · simp only [t5, go_sem, reduceIte, Nat.reduceEqDiff, Nat.reduceAdd, Nat.reduceMul, Nat.reduceLT, Nat.reduceLeDiff, reduceCtorEq, ne_eq, Int.reduceEq, Int.reduceLT, Int.reduceLE, Int.reduceNeg, Int.reduceToNat]
    refine ⟨o.live, ?_⟩
    obtain ⟨f1, f2⟩ := o.fin hp
    exact ⟨f1, L, by omega, f2⟩
end
end Go.Proofs.Ytioogligololoaa.Ab
