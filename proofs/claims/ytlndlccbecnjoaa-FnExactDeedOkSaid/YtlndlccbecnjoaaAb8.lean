/- What the machine does at an operation is what the small language says: memory made, and grown. No conditions. -/
import Derived.Test.YtlndlccbecnjoaaAb7
namespace Go.Proofs.Ytlndlccbecnjoaa.Ab
set_option linter.unusedSimpArgs false
set_option linter.unusedVariables false
set_option linter.unnecessarySimpa false
open Go.RowKit

section
variable {P : Program} {N : Nat} {D E : List Nat} {μ : Map} {s : St} {a : Act} {w : World} {o : Oper} {v : Value} {h' : Heap}

theorem zeroOf_spec {t : TypeId} {z : List Value} (h : zeroOf P t = some z) : ∃ i zv, P.info? t = some i ∧ i.zero = some zv ∧ zv.cells = ⟨z⟩ ∧ z.length = i.size ∧ (∀ x ∈ z, prim x = true) := by
  unfold zeroOf at h
  split at h
  · rename_i i hi
    split at h
    · rename_i zv hz
      split at h
      · rename_i cs hcs
        split at h
        · rename_i hc
          cases h
          refine ⟨i, zv, hi, hz, ?_, hc.1, by simpa using hc.2⟩
          unfold cellsOf at hcs
          split at hcs
          · cases hcs; rfl
          · cases hcs
          · cases hcs
          · cases hcs
            rename_i h1 h2 h3
            cases zv <;> first | rfl | exact absurd rfl (h1 _) | exact absurd rfl (h2 _) | exact absurd rfl (h3 _)
        · cases h
      · cases h
    · cases h
  · cases h

theorem All2.prims {h : Heap} {xs : List Value} (hp : ∀ x ∈ xs, prim x = true) : All2 (VR1 μ h) xs xs :=
  ⟨rfl, fun i x y hx hy => by rw [hx] at hy; cases hy; exact .base _ _ (.prim _ (hp x (List.mem_of_getElem? hx)))⟩

theorem zeros_len (z : List Value) : ∀ n, (zeros z n).length = n * z.length
  | 0 => by simp [zeros]
  | n + 1 => by rw [zeros, List.length_append, zeros_len z n, Nat.add_mul, Nat.one_mul, Nat.add_comm]
theorem zeros_prim {z : List Value} (hp : ∀ x ∈ z, prim x = true) : ∀ n, ∀ x ∈ zeros z n, prim x = true
  | 0, x, hx => by simp [zeros] at hx
  | n + 1, x, hx => by
    rw [zeros, List.mem_append] at hx
    rcases hx with h | h
    · exact hp x h
    · exact zeros_prim hp n x h
theorem zeros_get {z : List Value} (hz : 0 < z.length) : ∀ (n i : Nat), i < n * z.length → (zeros z n)[i]? = z[i % z.length]?
  | 0, i, h => by simp at h
  | n + 1, i, h => by
    rw [zeros]
    by_cases hi : i < z.length
    · rw [List.getElem?_append_left hi, Nat.mod_eq_of_lt hi]
    · rw [List.getElem?_append_right (by omega), zeros_get hz n (i - z.length) (by rw [Nat.add_mul] at h; omega), ← Nat.mod_eq_sub_mod (by omega)]
theorem made_zeros {z : List Value} (hz : 0 < z.length) (n : Nat) : madeCells ⟨z⟩ (n * z.length) = ⟨zeros z n⟩ := by
  apply Array.ext'
  apply List.ext_getElem?
  intro i
  unfold madeCells
  by_cases hi : i < n * z.length
  · rw [zeros_get hz n i hi]
    have hm : i % z.length < z.length := Nat.mod_lt _ hz
    have hm' : i % (⟨z⟩ : Array Value).size < (⟨z⟩ : Array Value).size := hm
    rw [Array.getElem?_toList, Array.getElem?_map, Array.getElem?_range, if_pos hi]
    simp only [Option.map_some]
    have : (⟨z⟩ : Array Value)[i % (⟨z⟩ : Array Value).size]! = z[i % z.length] := getElem!_pos (⟨z⟩ : Array Value) _ hm'
    rw [this, List.getElem?_eq_getElem hm]
  · rw [List.getElem?_eq_none (by simp; omega), List.getElem?_eq_none (by rw [zeros_len]; omega)]

/-- A new block. -/
theorem Out.made {cells : List Value} {sz : Nat} {ty : TypeId} {new : Array Value} {vv vv' : Value} {n : Nat} (H : HRel μ s.h w) (hp : 0 < sz) (hle : cells.length ≤ new.size)
    (hc : ∀ (i : Nat) (x : Value), cells[i]? = some x → ∃ x', new[i]? = some x' ∧ VR1 μ s.h x x') (hr : (execOp a.eval o).run P w = .ok (.value vv') ({ w with drawn := n }.alloc (.cells new ty)))
    (hv : VR (μ.to s.h.length ⟨w.heap.size, 0, new.size⟩) (s.h ++ [⟨cells, sz, ty, true⟩]) vv vv') : Out P μ s.h w o a vv (s.h ++ [⟨cells, sz, ty, true⟩]) := by
  obtain ⟨h1, h2⟩ := H.push (blk := ⟨cells, sz, ty, true⟩) (new := new) (w' := { w with drawn := n }.alloc (.cells new ty)) rfl hp hle hc (heap_alloc_new { w with drawn := n } _) (fun j hj => heap_alloc_old { w with drawn := n } _ hj) (by show (w.heap.push _).size = _; simp) rfl rfl rfl
  exact ⟨_, _, _, hr, hv, h1, h2⟩

theorem alloc_count (w : World) (x : Obj) : w.alloc x = ({ w with drawn := w.drawn } : World).alloc x := rfl

/-- A slice of a new block. -/
theorem VR.newSlice {h : Heap} {cells : List Value} {sz n c : Nat} {ty : TypeId} {l : Loc} (hn : n * sz = cells.length) (hc : n ≤ c) (hm : c ≤ maxLen) (ho : l.o = 0) (hcs : c * sz = l.c) :
    VR (μ.to h.length l) (h ++ [⟨cells, sz, ty, true⟩]) (.slice (some ⟨h.length, 0, none⟩) n n) (.slice (some ⟨l.g, 0, none⟩) n c) := by
  refine .val _ _ (.one _ _ (.base _ _ (.sl h.length 0 n n _ ⟨cells, sz, ty, true⟩ (by simp) (Nat.le_refl _) (by simp only; omega) (fun _ => ⟨⟨l.g, 0, none⟩, c, rfl, hc, hm, .inr ?_, fun _ _ => ?_⟩) rfl)))
  · rw [Map.to_same, ho]
  · rw [Map.to_same]; exact hcs

theorem VR.newPtr {h : Heap} {cells : List Value} {sz n : Nat} {ty : TypeId} {l : Loc} (hn : n = cells.length) (ho : l.o = 0) :
    VR (μ.to h.length l) (h ++ [⟨cells, sz, ty, true⟩]) (.pointer (some ⟨h.length, 0, some n⟩)) (.pointer (some ⟨l.g, 0, none⟩)) := by
  refine .val _ _ (.one _ _ (.base _ _ (.ptr h.length 0 n _ ⟨cells, sz, ty, true⟩ (by simp) (Nat.le_of_eq hn) (fun _ => ?_) rfl)))
  rw [Map.to_same, ho]

theorem ok_nw {t : TypeId} {n : Nat} {agg : Bool} {z : List Value} (H : HRel μ s.h w) (ho : o.op = .alloc t) (ht : rowOf P t = some (n, agg)) (hz : zeroOf P t = some z) (hn : n = z.length) (h0 : 0 < n) (hr : (MI.nw t z).run s = some (v, h')) : Out P μ s.h w o a v h' := by
  simp only [MI.run, Option.some.injEq, Prod.mk.injEq] at hr
  obtain ⟨rfl, rfl⟩ := hr
  obtain ⟨i, zv, h1, h2, h3, h4, h5⟩ := zeroOf_spec hz
  refine Out.made (new := ⟨z⟩) (n := w.drawn) H (by omega) (Nat.le_refl _) (fun i x hx => ⟨x, by simpa using hx, .base _ _ (.prim _ (h5 x (List.mem_of_getElem? hx)))⟩) (vv' := .pointer (some ⟨w.heap.size, 0, none⟩)) ?_ (VR.newPtr rfl rfl)
  simp [execOp, ho, Instr.alloc, zeroValue, typeInfo, h1, h2, newVar, newRow, h3]

theorem ok_bx {x : Operand} {y : Opd} {t : TypeId} {n : Nat} {agg : Bool} (R : RelT N μ s a) (H : HRel μ s.h w) (ho : o.op = .box t x) (hx : opd x = some y) (ht : rowOf P t = some (n, agg)) (h0 : 0 < n) (hr : (MI.bx t n y).run s = some (v, h')) : Out P μ s.h w o a v h' := by
  simp only [MI.run] at hr
  split at hr
  · rename_i cs hcs
    split at hr
    · rename_i hl
      simp only [Option.some.injEq, Prod.mk.injEq] at hr
      obtain ⟨rfl, rfl⟩ := hr
      obtain ⟨ys, e, k⟩ := (eval_opd R hx).cells hcs
      refine Out.made (new := ⟨ys⟩) (n := w.drawn) H h0 (by rw [k.1]; exact Nat.le_refl _) (fun i x hx => ?_) (vv' := .pointer (some ⟨w.heap.size, 0, none⟩)) ?_ (VR.newPtr hl.symm rfl)
      · obtain ⟨x', h1, h2⟩ := k.get hx
        exact ⟨x', by simpa using h1, h2⟩
      · simp [execOp, ho, Instr.box, newVar, newRow, e]
    · cases hr
  · cases hr

theorem ok_mk {x : Operand} {y : Opd} {t e : TypeId} {sz bytes : Nat} {z : List Value} (R : RelT N μ s a) (H : HRel μ s.h w) (ho : o.op = .makeSlice t x x) (hx : opd x = some y) (ht : elemOf P t = some (e, sz, bytes, z)) (hr : (MI.mk sz e bytes z y).run s = some (v, h')) : Out P μ s.h w o a v h' := by
  simp only [MI.run] at hr
  split at hr
  · rename_i n hn
    split at hr
    · rename_i hc
      simp only [Option.some.injEq, Prod.mk.injEq] at hr
      obtain ⟨rfl, rfl⟩ := hr
      obtain ⟨i, e1, e2, e3, e4, e5, e6, e7, e8⟩ := elemOf_spec ht
      obtain ⟨i', zv, h1, h2, h3, h4, h5⟩ := zeroOf_spec e8
      rw [e2] at h1
      cases h1
      have hv := eval_opd R hx
      rw [hn] at hv
      have hlim : n ≤ 1099511627776 := hc.2
      have hb : (i.bytes : Int) * n ≤ 281474976710656 := by
        have : (i.bytes : Int) * n ≤ 64 * 1099511627776 := Int.mul_le_mul (by omega) hlim hc.1 (by omega)
        omega
      have hrun := run_make (P := P) w t e i zv e1 e2 h2 .i64 .i64 n n hc.1 (Int.le_refl _) hb (by omega)
      have hzl : z.length = sz := by rw [h4, e3]
      rw [h3, ← h4, made_zeros (by omega)] at hrun
      refine Out.made (new := ⟨zeros z n.toNat⟩) (n := w.drawn) H e5 (Nat.le_refl _) (fun i x hx => ⟨x, by simpa using hx, .base _ _ (.prim _ (zeros_prim h5 _ x (List.mem_of_getElem? hx)))⟩) (vv' := .slice (some ⟨w.heap.size, 0, none⟩) n.toNat n.toNat) ?_
        (VR.newSlice (by rw [zeros_len, hzl]) (Nat.le_refl _) (by simp [maxLen]; omega) rfl (by simp [zeros_len, hzl]))
      simp [execOp, ho, hv.int, hrun]
    · cases hr
  · cases hr

theorem opds_cons {x : Operand} {xs : List Operand} {l : List Opd} (h : opds (x :: xs) = some l) : ∃ y ys, l = y :: ys ∧ opd x = some y ∧ opds xs = some ys := by
  simp only [opds] at h
  split at h
  · rename_i y ys h1 h2
    cases h
    exact ⟨y, ys, rfl, h1, h2⟩
  · cases h

theorem opds_all {xs : List Operand} {l : List Opd} (R : RelT N μ s a) (h : opds xs = some l) : All2 (VR μ s.h) (l.map s.val) (xs.map a.eval) := by
  induction xs generalizing l with
  | nil => simp [opds] at h; subst h; exact All2.nil
  | cons x xs ih =>
    obtain ⟨y, ys, rfl, h1, h2⟩ := opds_cons h
    exact All2.cons (eval_opd R h1) (ih h2)

theorem parts_rel {xs : List (Nat × Operand)} {l : List Opd} {place : Nat → Option (Nat × Nat)} {ps : List (Nat × Nat)} (R : RelT N μ s a) (h : opds (xs.map (·.2)) = some l) (hp : ∀ (j i : Nat), (xs.map (·.1))[j]? = some i → ∃ p, ps[j]? = some p ∧ place i = some p) (hl : ps.length = xs.length) :
    All2 (fun (p : Nat × Nat × Value) (q : Nat × Value) => place q.1 = some (p.1, p.2.1) ∧ VR μ s.h p.2.2 q.2) ((ps.zip l).map fun p => (p.1.1, p.1.2, s.val p.2)) (xs.map fun p => (p.1, a.eval p.2)) := by
  have hv := opds_all R h
  have hll : l.length = xs.length := by have := hv.1; simpa using this
  refine ⟨by simp [hl, hll], fun j x y hx hy => ?_⟩
  simp only [List.getElem?_map, Option.map_eq_some_iff] at hx hy
  obtain ⟨q, hq, rfl⟩ := hy
  obtain ⟨p, hp', rfl⟩ := hx
  obtain ⟨hp1, hp2⟩ := List.getElem?_zip_eq_some.1 hp'
  obtain ⟨p2, h1, h2⟩ := hp j q.1 (by simp [hq])
  rw [h1] at hp1
  cases hp1
  refine ⟨h2, ?_⟩
  exact hv.2 j _ _ (by simp [hp2]) (by simp [hq])

theorem placesOf_get {fs : List (Nat × Nat)} : ∀ {is : List Nat} {ps : List (Nat × Nat)}, placesOf fs is = some ps → ps.length = is.length ∧ ∀ (j i : Nat), is[j]? = some i → ∃ p, ps[j]? = some p ∧ fs[i]? = some p
  | [], ps, h => by simp [placesOf] at h; subst h; exact ⟨rfl, fun j i hj => by simp at hj⟩
  | i :: is, ps, h => by
    simp only [placesOf] at h
    split at h
    · rename_i p ps' h1 h2
      cases h
      obtain ⟨g1, g2⟩ := placesOf_get h2
      refine ⟨by simp [g1], fun j i' hj => ?_⟩
      cases j with
      | zero => simp at hj; subst hj; exact ⟨p, rfl, h1⟩
      | succ j => simp at hj; obtain ⟨p', h3, h4⟩ := g2 j i' hj; exact ⟨p', by simpa using h3, h4⟩
    · cases h

theorem ok_bld {t : TypeId} {parts : Array (Nat × Operand)} {z : List Value} {fs ps : List (Nat × Nat)} {xs : List Opd} (R : RelT N μ s a) (H : HRel μ s.h w) (ho : o.op = .build t parts) (hz : zeroOf P t = some z) (hf : fieldsOf P t = some fs) (hx : opds (parts.toList.map (·.2)) = some xs)
    (hp : placesOf fs (parts.toList.map (·.1)) = some ps) (hr : (MI.bld z ((ps.zip xs).map fun p => (p.1.1, p.1.2, p.2))).run s = some (v, h')) : Out P μ s.h w o a v h' := by
  simp only [MI.run, Option.map_eq_some_iff, Prod.mk.injEq, List.map_map] at hr
  obtain ⟨cs, hcs, rfl, rfl⟩ := hr
  obtain ⟨i, zv, h1, h2, h3, h4, h5⟩ := zeroOf_spec hz
  obtain ⟨g1, g2⟩ := placesOf_get hp
  unfold fieldsOf at hf
  split at hf
  · rename_i fields hu
    have hrel := parts_rel (place := (fs.toArray[·]?)) R hx (fun j i hj => by obtain ⟨p, a1, a2⟩ := g2 j i hj; exact ⟨p, a1, by simpa using a2⟩) (by simpa using g1)
    obtain ⟨cs', e1, e2⟩ := fill_off (All2.prims h5) hrel hcs
    refine Out.pure (v' := .agg ⟨cs'⟩) ?_ (.val _ _ (.agg _ _ e2)) H
    have hb : P.built t (parts.map fun p => (p.1, a.eval p.2)).toList = some ⟨cs'⟩ := by
      unfold Program.built
      simp only [h1, hu, h2, hf, h3, Array.toList_map]
      exact e1
    have := run_build (P := P) w t (parts.map fun p => (p.1, a.eval p.2)) ⟨cs'⟩ hb
    simp [execOp, ho, this]
  · cases hf

theorem fillAt_off {sz : Nat} : ∀ {cells cs : List Value} {ps : List (Nat × Value)}, fillAt sz cells ps = some cs → fillOff cells (ps.map fun p => (p.1 * sz, sz, p.2)) = some cs
  | cells, cs, [], h => by simpa [fillAt, fillOff] using h
  | cells, cs, (i, v) :: ps, h => by
    simp only [fillAt] at h
    simp only [List.map_cons, fillOff]
    split at h
    · rename_i vs hvs
      split at h
      · rename_i hc
        rw [if_pos ⟨hc.1, hc.2⟩]
        exact fillAt_off h
      · cases h
    · cases h

theorem fillOff_len : ∀ {cells cs : List Value} {ps : List (Nat × Nat × Value)}, fillOff cells ps = some cs → cs.length = cells.length
  | cells, cs, [], h => by simp [fillOff] at h; rw [h]
  | cells, cs, (off, n, v) :: ps, h => by
    simp only [fillOff] at h
    split at h
    · rename_i vs hvs
      split at h
      · rename_i hc
        have := fillOff_len h
        rw [this]
        unfold Ab.putAt
        simp only [List.length_append, List.length_take, List.length_drop]
        omega
      · cases h
    · cases h

theorem run_lit {t e : TypeId} {n sz bytes : Nat} {parts : Array (Nat × Operand)} {z : List Value} {xs : List Opd} {cs : List Value} (R : RelT N μ s a) (ht : elemOf P t = some (e, sz, bytes, z)) (hx : opds (parts.toList.map (·.2)) = some xs)
    (hn : n * sz ≤ 16777216) (hn0 : 0 < n) (hcs : fillAt sz (zeros z n) (((parts.toList.map (·.1)).zip xs).map fun p => (p.1, s.val p.2)) = some cs) :
    ∃ cs' : List Value, All2 (VR1 μ s.h) cs cs' ∧ (Instr.buildSlice t n (parts.map fun p => (p.1, a.eval p.2))).run P w = .ok (.slice (some ⟨w.heap.size, 0, none⟩) n n) (w.alloc (.cells ⟨cs'⟩ e)) := by
  obtain ⟨i, e1, e2, e3, e4, e5, e6, e7, e8⟩ := elemOf_spec ht
  obtain ⟨i', zv, h1, h2, h3, h4, h5⟩ := zeroOf_spec e8
  rw [e2] at h1
  cases h1
  have hzl : z.length = sz := by rw [h4, e3]
  have hfo := fillAt_off hcs
  have hps : (((parts.toList.map (·.1)).zip xs).map fun p => (p.1, s.val p.2)).map (fun p => (p.1 * sz, sz, p.2)) = (((parts.toList.map fun p => (p.1 * sz, sz)).zip xs).map fun p => (p.1.1, p.1.2, s.val p.2)) := by
    rw [List.map_map]
    have : (parts.toList.map fun p => (p.1 * sz, sz)) = (parts.toList.map (·.1)).map fun i => (i * sz, sz) := by rw [List.map_map]; rfl
    rw [this]
    generalize parts.toList.map (·.1) = is
    rw [List.zip_map_left, List.map_map]
    rfl
  rw [hps] at hfo
  have hrel := parts_rel (place := fun i => some (i * sz, sz)) (ps := parts.toList.map fun p => (p.1 * sz, sz)) R hx (fun j i hj => by
    simp only [List.getElem?_map, Option.map_eq_some_iff] at hj
    obtain ⟨q, hq, rfl⟩ := hj
    exact ⟨_, by simp [hq], rfl⟩) (by simp)
  obtain ⟨cs', g1, g2⟩ := fill_off (place := fun i => some (i * sz, sz)) (All2.prims (zeros_prim h5 n)) hrel hfo
  refine ⟨cs', g2, ?_⟩
  have h0 : ¬ n * sz = 0 := by
    have : 0 < n * sz := Nat.mul_pos hn0 e5
    omega
  refine run_buildSlice w t e n _ ⟨cs'⟩ i zv e1 e2 h2 (by rw [e3]; omega) (by rw [e3]; exact h0) ?_
  have := made_zeros (z := z) (by omega) n
  rw [hzl] at this
  unfold madeCells at this
  rw [e3, h3, this, Array.toList_map]
  exact g1

theorem ok_lit {t e : TypeId} {n sz bytes : Nat} {parts : Array (Nat × Operand)} {z : List Value} {xs : List Opd} (R : RelT N μ s a) (H : HRel μ s.h w) (ho : o.op = .buildSlice t n parts) (ht : elemOf P t = some (e, sz, bytes, z)) (hx : opds (parts.toList.map (·.2)) = some xs)
    (hn : n * sz ≤ 16777216) (hr : (MI.lit n sz e z ((parts.toList.map (·.1)).zip xs)).run s = some (v, h')) : Out P μ s.h w o a v h' := by
  simp only [MI.run, Option.map_eq_some_iff, Prod.mk.injEq] at hr
  obtain ⟨cs, hcs, rfl, rfl⟩ := hr
  obtain ⟨i, e1, e2, e3, e4, e5, e6, e7, e8⟩ := elemOf_spec ht
  obtain ⟨i', zv, h1, h2, h3, h4, h5⟩ := zeroOf_spec e8
  rw [e2] at h1
  cases h1
  have hzl : z.length = sz := by rw [h4, e3]
  have hfo := fillAt_off hcs
  have hlen := fillOff_len hfo
  rw [zeros_len, hzl] at hlen
  have hps : (((parts.toList.map (·.1)).zip xs).map fun p => (p.1, s.val p.2)).map (fun p => (p.1 * sz, sz, p.2)) = (((parts.toList.map fun p => (p.1 * sz, sz)).zip xs).map fun p => (p.1.1, p.1.2, s.val p.2)) := by
    rw [List.map_map]
    have : (parts.toList.map fun p => (p.1 * sz, sz)) = (parts.toList.map (·.1)).map fun i => (i * sz, sz) := by rw [List.map_map]; rfl
    rw [this]
    generalize parts.toList.map (·.1) = is
    rw [List.zip_map_left, List.map_map]
    rfl
  rw [hps] at hfo
  have hrel := parts_rel (place := fun i => some (i * sz, sz)) (ps := parts.toList.map fun p => (p.1 * sz, sz)) R hx (fun j i hj => by
    simp only [List.getElem?_map, Option.map_eq_some_iff] at hj
    obtain ⟨q, hq, rfl⟩ := hj
    exact ⟨_, by simp [hq], rfl⟩) (by simp)
  obtain ⟨cs', g1, g2⟩ := fill_off (place := fun i => some (i * sz, sz)) (All2.prims (zeros_prim h5 n)) hrel hfo
  have hcl : cs'.length = n * sz := by rw [← g2.1, hlen]
  have hrun : (Instr.buildSlice t n (parts.map fun p => (p.1, a.eval p.2))).run P w = .ok (.slice (some ⟨w.heap.size, 0, none⟩) n n) (w.alloc (.cells ⟨cs'⟩ e)) := by
    by_cases h0 : n * sz = 0
    · have hn0 : n = 0 := by
        rcases Nat.mul_eq_zero.1 h0 with h | h
        · exact h
        · omega
      subst hn0
      have hpe : parts = #[] := by
        cases hq : parts.toList with
        | nil => exact Array.toList_eq_nil_iff.1 hq
        | cons p ps =>
          rw [hq] at hx hcs
          obtain ⟨y, ys, rfl, _, _⟩ := opds_cons hx
          simp only [zeros, List.map_cons, List.zip_cons_cons, fillAt, List.length_nil] at hcs
          split at hcs
          · rw [if_neg (by omega)] at hcs; cases hcs
          · cases hcs
      subst hpe
      have hc' : cs' = [] := List.eq_nil_of_length_eq_zero (by omega)
      subst hc'
      simp [Instr.buildSlice, run_underlying e1, run_sizeOf e2, Instr.fill, newRow, Array.range_zero']
    · refine run_buildSlice w t e n _ ⟨cs'⟩ i zv e1 e2 h2 (by rw [e3]; omega) (by rw [e3]; exact h0) ?_
      have := made_zeros (z := z) (by omega) n
      rw [hzl] at this
      unfold madeCells at this
      rw [e3, h3, this, Array.toList_map]
      exact g1
  refine Out.made (new := ⟨cs'⟩) (n := w.drawn) H e5 (by simp [hlen, hcl]) (fun i x hx => ?_) (vv' := .slice (some ⟨w.heap.size, 0, none⟩) n n) ?_ (VR.newSlice (by rw [hlen]) (Nat.le_refl _) ?_ rfl (by simp [hcl]))
  · obtain ⟨x', k1, k2⟩ := g2.get hx
    exact ⟨x', by simpa using k1, k2⟩
  · simp [execOp, ho, hrun]
  · have : n ≤ n * sz := Nat.le_mul_of_pos_right n e5
    simp [maxLen]
    omega

/-- The cells that a slice shows, in the machine. -/
theorem row_rel {sz : Nat} {x : Value} {cs : List Value} {x' : Value} (H : HRel μ s.h w) (hc : rowC s.h sz x = some cs) (k : VR μ s.h x x') :
    ∃ a' n c', x' = .slice a' n c' ∧ n ≤ c' ∧ cs.length = n * sz ∧ (∀ a n' c, x = .slice a n' c → n' = n) ∧ (0 < n → ∃ A ys, a' = some A ∧ All2 (VR1 μ s.h) cs ys ∧ ∀ j v', ys[j]? = some v' → w.cell? (A.add j) = some v') := by
  unfold rowC at hc
  split at hc
  · cases hc
    rcases k.sliceNil with hv | ⟨A, hv⟩
    · exact ⟨none, 0, 0, hv, Nat.le_refl _, by simp, fun a n' c e => by injection e with _ e _; exact e.symm, fun h => absurd h (by omega)⟩
    · exact ⟨some A, 0, 0, hv, Nat.le_refl _, by simp, fun a n' c e => by injection e with _ e _; exact e.symm, fun h => absurd h (by omega)⟩
  · rename_i b off len cap
    split at hc
    · rename_i blk hblk
      split at hc
      · rename_i hv
        obtain ⟨rfl, hv⟩ := hv
        cases hc
        obtain ⟨g1, g2, g3⟩ := k.slice' hblk
        obtain ⟨A, c, rfl, k1, k2, k3, k4⟩ := g3 hv
        have hlen : off + len * blk.sz ≤ blk.cells.length := by
          have : len * blk.sz ≤ cap * blk.sz := Nat.mul_le_mul_right _ g1
          omega
        refine ⟨some A, len, c, rfl, k1, by rw [List.length_take, List.length_drop]; omega, fun a n' c e => by injection e with _ e _; exact e.symm, fun h0 => ?_⟩
        rcases k3 with ⟨z, _⟩ | rfl
        · omega
        · obtain ⟨ys, q1, q2⟩ := All2.of_cells H hblk hlen
          exact ⟨_, ys, rfl, q1, q2⟩
      · cases hc
    · cases hc
  · cases hc

theorem run_app_zero {t e ty : TypeId} {i : TypeInfo} (ht : P.underlying t = some (.slice e)) (hi : P.info? e = some i) (base b : Option Addr) (l c c' : Nat) (hlc : l ≤ c) :
    (Builtin.append_ #[t, t] ty #[.slice base l c, .slice b 0 c']).run P w = .ok (.slice base l c) w := by
  cases base <;> cases b <;> simp [Builtin.append_, run_underlying ht, sizeOf, typeInfo, hi, Builtin.lenOf, hlc, Builtin.firstCells, loadCells, loadCellsFrom, storeCells]

theorem app_core {d x : Operand} {d' : Opd} {t e : TypeId} {sz bytes : Nat} {z : List Value} {cs : List Value} {ax' : Option Addr} {nx cx' : Nat} (R : RelT N μ s a) (H : HRel μ s.h w) (ho : o.op = .call { callee := .builtin .append, args := #[d, x], argTypes := #[t, t] }) (hd : opd d = some d')
    (ht : elemOf P t = some (e, sz, bytes, z)) (hx' : a.eval x = .slice ax' nx cx') (hcl : cs.length = nx * sz) (hrow : 0 < nx → ∃ A ys, ax' = some A ∧ All2 (VR1 μ s.h) cs ys ∧ ∀ j v', ys[j]? = some v' → w.cell? (A.add j) = some v')
    (hr : appV s.h sz e (s.val d') cs nx = some (v, h')) : Out P μ s.h w o a v h' := by
  obtain ⟨i, e1, e2, e3, e4, e5, e6, e7, e8⟩ := elemOf_spec ht
  obtain ⟨i', zv, z1, z2, z3, z4, z5⟩ := zeroOf_spec e8
  rw [e2] at z1
  cases z1
  have hzs : zv.cells.size = sz := by rw [z3]; simpa [e3] using z4
  have kd := eval_opd R hd
  have hexec : (execOp a.eval o).run P w = ((Builtin.append_ #[t, t] o.type #[a.eval d, a.eval x]).run P w).andThen fun u w' => .ok (.value u) w' := by
    simp [execOp, ho, resolve, invoke, builtin]
  unfold appV at hr
  split at hr
  · rename_i hdv
    rw [hdv] at kd
    have hd' := kd.sliceNil
    split at hr
    · rename_i h0
      subst h0
      simp only [Option.some.injEq, Prod.mk.injEq] at hr
      obtain ⟨rfl, rfl⟩ := hr
      rcases hd' with hd' | ⟨A, hd'⟩
      · refine Out.pure (v' := .slice none 0 0) ?_ (by rw [hdv]; exact VR.of_prim rfl) H
        rw [hexec, hd', hx', run_app_zero e1 e2 none ax' 0 0 cx' (Nat.le_refl _)]
        rfl
      · refine Out.pure (v' := .slice (some A) 0 0) ?_ (by rw [hdv]; exact VR.of_hollow A) H
        rw [hexec, hd', hx', run_app_zero e1 e2 (some A) ax' 0 0 cx' (Nat.le_refl _)]
        rfl
    · rename_i h0
      split at hr
      · rename_i hlim
        simp only [Option.some.injEq, Prod.mk.injEq] at hr
        obtain ⟨rfl, rfl⟩ := hr
        obtain ⟨A, ys, rfl, k1, k2⟩ := hrow (by omega)
        have hlim' : nx ≤ 1099511627776 := hlim
        have hyl : ys.length = nx * i.size := by rw [← k1.1, hcl, e3]
        have hb : nx * i.bytes ≤ 281474976710656 := by
          have : nx * i.bytes ≤ 1099511627776 * 64 := Nat.mul_le_mul hlim' (by omega)
          omega
        have hrun : (Builtin.append_ #[t, t] o.type #[a.eval d, .slice (some A) nx cx']).run P w = .ok (.slice (some ⟨w.heap.size, 0, none⟩) nx (grownCap w nx 0 e)) (w.drew.alloc (.cells (ys.toArray ++ Builtin.zeroCells zv.cells (grownCap w nx 0 e - nx)) e)) := by
          rcases hd' with hd' | ⟨A', hd'⟩
          · rw [hd']
            exact run_append_nil (P := P) w t o.type e i zv e1 e2 z2 A nx cx' ys hyl k2 (by omega) (by omega) hb
          · rw [hd']
            have := run_append_grow (P := P) w t o.type e i zv e1 e2 z2 A' 0 0 [] (by simp) (fun j v h => by simp at h) A nx cx' ys hyl k2 (by omega) (by omega) (by rw [Nat.zero_add, nextslicecap_zero (by omega)]; exact hb)
            simpa using this
        have hge := grownCap_ge w nx 0 e
        have hle := grownCap_le_maxLen w nx 0 e (by simp [maxLen]; omega)
        refine Out.made (new := ys.toArray ++ Builtin.zeroCells zv.cells (grownCap w nx 0 e - nx)) (n := w.drawn + 1) (vv' := .slice (some ⟨w.heap.size, 0, none⟩) nx (grownCap w nx 0 e)) H e5 (by simp [k1.1]) (fun j y hy => ?_) ?_ (VR.newSlice hcl.symm hge hle rfl ?_)
        · obtain ⟨y', q1, q2⟩ := k1.get hy
          refine ⟨y', ?_, q2⟩
          rw [Array.getElem?_append_left (by have := (List.getElem?_eq_some_iff.1 q1).1; simpa using this)]
          simpa using q1
        · rw [hexec, hx', hrun]
          rfl
        · simp only [Array.size_append, List.size_toArray, size_zeroCells, hzs, hyl, e3, ← Nat.add_mul]
          congr 1
          omega
      · cases hr
  · rename_i b off len cap hdv
    split at hr
    · rename_i blk hblk
      split at hr
      · rename_i hval
        rw [hdv] at kd
        obtain ⟨g1, g2, g3⟩ := kd.slice' hblk
        obtain ⟨A0, c, hA, q1, q2, q3, q4⟩ := g3 hval
        split at hr
        · rename_i h0
          subst h0
          simp only [Option.some.injEq, Prod.mk.injEq] at hr
          obtain ⟨rfl, rfl⟩ := hr
          refine Out.pure (v' := .slice (some A0) len c) ?_ (by rw [hdv, ← hA]; exact kd) H
          rw [hexec, hA, hx', run_app_zero e1 e2 (some A0) ax' len c cx' q1]
          rfl
        · rename_i h0
          split at hr
          · rename_i hc
            obtain ⟨rfl, rfl, rfl, hown, rfl, hlim⟩ := hc
            simp only [Option.some.injEq, Prod.mk.injEq] at hr
            obtain ⟨rfl, rfl⟩ := hr
            have hlim' : len + nx ≤ 1099511627776 := hlim
            obtain ⟨A, ys, rfl, k1, k2⟩ := hrow (by omega)
            obtain ⟨o1, cur, o2, o3, o4⟩ := H.own b blk hblk hown
            have hcsz : c * blk.sz = cur.size := by rw [o3]; exact q4 hown rfl
            obtain rfl : A0 = ⟨(μ b).g, 0, none⟩ := by
              rcases q3 with ⟨_, h⟩ | rfl
              · omega
              · rw [o1]
            have hvl : len * blk.sz = blk.cells.length := by omega
            have hyl : ys.length = nx * i.size := by rw [← k1.1, hcl, e3]
            -- the old cells
            obtain ⟨xs, x1, x2⟩ := All2.of_cells (off := 0) (n := blk.cells.length) H hblk (by omega)
            rw [List.drop_zero, List.take_length] at x1
            have hxl : xs.length = len * i.size := by rw [← x1.1, ← hvl, e3]
            have x2' : ∀ j v', xs[j]? = some v' → w.cell? ((⟨(μ b).g, 0, none⟩ : Addr).add j) = some v' := by
              intro j v' hj
              have := x2 j v' hj
              rw [o1] at this
              exact this
            by_cases hroom : len + nx ≤ c
            · have hfit : len * i.size + ys.length ≤ cur.size := by
                rw [hyl, e3, ← Nat.add_mul, ← hcsz]
                exact Nat.mul_le_mul_right _ hroom
              have hrun := run_append_room (P := P) w t o.type _ i e1 e2 (μ b).g len c cur o2 A nx cx' ys hyl k2 (fun u hu => by
                obtain ⟨j, hj⟩ := List.mem_iff_getElem?.1 hu
                obtain ⟨hj1, _⟩ := List.getElem?_eq_some_iff.1 hj
                exact (k1.2 j _ u (List.getElem?_eq_getElem (by rw [k1.1]; exact hj1)) hj).oneCell) hroom hfit
              have hks : len * i.size = blk.cells.length := by rw [e3]; exact hvl
              rw [hks] at hrun hfit
              have hkc : blk.cells.length ≤ cur.size := o4
              have hnew : (cur.toList.take (blk.cells.length) ++ ys ++ cur.toList.drop (blk.cells.length + ys.length)).length = cur.size := by
                simp only [List.length_append, List.length_take, List.length_drop, Array.length_toList]
                omega
              obtain ⟨p1, p2⟩ := H.put (cells := blk.cells ++ cs) (new := (cur.toList.take (blk.cells.length) ++ ys ++ cur.toList.drop (blk.cells.length + ys.length)).toArray) (w' := w.setRow (μ b).g (cur.toList.take (blk.cells.length) ++ ys ++ cur.toList.drop (blk.cells.length + ys.length)).toArray)
                hblk hown (by rw [List.size_toArray, hnew, o3]) (by rw [List.size_toArray, hnew, List.length_append, ← hvl, hcl, ← Nat.add_mul, ← hcsz]; exact Nat.mul_le_mul_right _ hroom) (by simp)
                (fun j y hy => by
                  by_cases hj : j < blk.cells.length
                  · rw [List.getElem?_append_left hj] at hy
                    obtain ⟨y', r1, r2⟩ := x1.get hy
                    refine ⟨y', ?_, r2⟩
                    have := x2' j y' r1
                    rw [Addr.add_lit, Nat.zero_add, cell_of_row o2] at this
                    rw [List.getElem?_toArray, List.append_assoc, List.getElem?_append_left (by rw [List.length_take, Array.length_toList]; omega), List.getElem?_take, if_pos hj, Array.getElem?_toList]
                    exact this
                  · rw [List.getElem?_append_right (by omega)] at hy
                    obtain ⟨y', r1, r2⟩ := k1.get hy
                    refine ⟨y', ?_, r2⟩
                    have hjl := (List.getElem?_eq_some_iff.1 r1).1
                    rw [List.getElem?_toArray, List.append_assoc, List.getElem?_append_right (by rw [List.length_take, Array.length_toList]; omega), List.length_take, show j - min blk.cells.length cur.toList.length = j - blk.cells.length by rw [Array.length_toList]; omega, List.getElem?_append_left (by omega)]
                    exact r1)
                (setRow_heap w _ cur _ _ _ o2) (fun j hj => setRow_other w _ j _ hj) (by simp [World.setRow]) rfl rfl rfl
              refine ⟨_, _, _, by rw [hexec, hA, hx', hrun]; rfl, ?_, p1, p2⟩
              have hbl := lt_of_get hblk
              refine .val _ _ (.one _ _ (.base _ _ (.sl b 0 (len + nx) (len + nx) _ { blk with cells := blk.cells ++ cs } (by rw [List.getElem?_set_self hbl]) (Nat.le_refl _) ?_ (fun _ => ⟨_, c, rfl, hroom, q2, .inr (by rw [o1]), fun _ _ => by rw [hcsz, o3]⟩) rfl)))
              simp only [List.length_append]
              rw [Nat.add_mul]
              omega
            · have hfits : Builtin.nextslicecap (len + nx) c * i.bytes ≤ 281474976710656 := growslice_fits (by omega) (by
                have : (len + nx) * i.bytes ≤ 1099511627776 * 64 := Nat.mul_le_mul hlim' (by omega)
                omega)
              have hrun := run_append_grow (P := P) w t o.type _ i zv e1 e2 z2 ⟨(μ b).g, 0, none⟩ len c xs hxl x2' A nx cx' ys hyl k2 (by omega) (by omega) hfits
              have hge := grownCap_ge w (len + nx) c blk.ty
              have hle := grownCap_le_maxLen w (len + nx) c blk.ty (by simp [maxLen]; omega)
              have hnl : 0 < cs.length := by rw [hcl]; exact Nat.mul_pos (by omega) e5
              obtain ⟨p1, p2⟩ := H.move (cells := blk.cells ++ cs) (new := xs.toArray ++ ys.toArray ++ Builtin.zeroCells zv.cells (grownCap w (len + nx) c blk.ty - (len + nx))) (w' := w.drew.alloc (.cells (xs.toArray ++ ys.toArray ++ Builtin.zeroCells zv.cells (grownCap w (len + nx) c blk.ty - (len + nx))) blk.ty))
                hblk hown (by simp only [List.length_append, Array.size_append, List.size_toArray]; rw [x1.1, k1.1]; omega) (by rw [List.length_append]; omega)
                (fun j y hy => by
                  obtain ⟨y', r1, r2⟩ := (x1.append k1).get hy
                  refine ⟨y', ?_, r2⟩
                  have hjl := (List.getElem?_eq_some_iff.1 r1).1
                  rw [Array.getElem?_append_left (by simpa using hjl)]
                  simpa using r1)
                (heap_alloc_new w.drew _) (fun j hj => heap_alloc_old w.drew _ hj) (by show (w.drew.heap.push _).size = _; simp) rfl rfl rfl
              refine ⟨_, _, _, by rw [hexec, hA, hx', hrun]; rfl, ?_, p1, p2⟩
              have hbl := lt_of_get hblk
              refine .val _ _ (.one _ _ (.base _ _ (.sl b 0 (len + nx) (len + nx) _ { blk with cells := blk.cells ++ cs } (by rw [List.getElem?_set_self hbl]) (Nat.le_refl _) ?_ (fun _ => ⟨_, _, rfl, hge, hle, .inr (by rw [Map.to_same]), fun _ _ => ?_⟩) rfl)))
              · simp only [List.length_append]
                rw [Nat.add_mul]
                omega
              · rw [Map.to_same]
                simp only [Array.size_append, List.size_toArray, size_zeroCells, hzs, hyl, hxl, e3, ← Nat.add_mul]
                congr 1
                omega
          · cases hr
      · cases hr
    · cases hr
  · cases hr

theorem ok_app {d x : Operand} {d' x' : Opd} {t e : TypeId} {sz bytes : Nat} {z : List Value} (R : RelT N μ s a) (H : HRel μ s.h w) (ho : o.op = .call { callee := .builtin .append, args := #[d, x], argTypes := #[t, t] }) (hd : opd d = some d') (hx : opd x = some x')
    (ht : elemOf P t = some (e, sz, bytes, z)) (hr : (MI.app sz e bytes d' x').run s = some (v, h')) : Out P μ s.h w o a v h' := by
  have kx := eval_opd R hx
  simp only [MI.run] at hr
  split at hr
  · rename_i ax nx cx hxv
    simp only [Option.bind_eq_some_iff] at hr
    obtain ⟨cs, hcs, hr⟩ := hr
    rw [hxv] at kx
    obtain ⟨ax', nx', cx', hx', hncx, hcl, hnn, hrow⟩ := row_rel H hcs kx
    have := hnn _ _ _ rfl
    subst this
    exact app_core R H ho hd ht hx' hcl hrow hr
  · cases hr

theorem VR0.of_base {h : Heap} {v v' : Value} (hb : isBase v = true) (k : VR μ h v v') : VR0 μ h v v' := by
  cases k with
  | dead => simp [isBase, undef, Ab.prim] at hb
  | gone => simp [isBase, Ab.prim] at hb
  | tup => simp [isBase, Ab.prim] at hb
  | val _ _ k => cases k with
    | agg => simp [isBase, Ab.prim] at hb
    | one _ _ k => cases k with
      | base _ _ k => exact k
      | fn => simp [isBase, Ab.prim] at hb

theorem ok_fn {f : Fn} {first caps : Array Operand} {l : List Opd} (R : RelT N μ s a) (H : HRel μ s.h w) (ho : o.op = .makeFunc f first caps) (h0 : first.size = 0) (hx : opds caps.toList = some l) (hr : (MI.fn f l).run s = some (v, h')) : Out P μ s.h w o a v h' := by
  simp only [MI.run] at hr
  split at hr
  · rename_i hb
    simp only [Option.some.injEq, Prod.mk.injEq] at hr
    obtain ⟨rfl, rfl⟩ := hr
    have k := opds_all R hx
    have hf : first = #[] := Array.eq_empty_of_size_eq_zero h0
    refine Out.pure (v' := .func f #[] ⟨caps.toList.map a.eval⟩) ?_ (.val _ _ (.one _ _ (.fn f _ _ ⟨k.1, fun i x y hx hy => VR0.of_base (by
      have := List.mem_of_getElem? hx
      rw [List.all_eq_true] at hb
      exact hb x this) (k.2 i x y hx hy)⟩))) H
    have : caps.map a.eval = ⟨caps.toList.map a.eval⟩ := by apply Array.ext'; simp
    simp [execOp, ho, Instr.makeFunc, hf, this]
  · cases hr

end
end Go.Proofs.Ytlndlccbecnjoaa.Ab
