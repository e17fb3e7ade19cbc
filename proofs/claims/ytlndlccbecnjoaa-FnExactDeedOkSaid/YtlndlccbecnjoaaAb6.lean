/- What the machine does at an operation is what the small language says: cuts, texts, structs compared and built. No conditions. -/
import Derived.Test.YtlndlccbecnjoaaAb5
namespace Go.Proofs.Ytlndlccbecnjoaa.Ab
set_option linter.unusedSimpArgs false
set_option linter.unusedVariables false
set_option linter.unnecessarySimpa false
open Go.RowKit

section
variable {P : Program} {N : Nat} {D E : List Nat} {μ : Map} {s : St} {a : Act} {w : World} {o : Oper} {v : Value} {h' : Heap}

theorem oopd_some {x : Option Operand} {y : Option Opd} (h : oopd x = some y) : (x = none ∧ y = none) ∨ ∃ x' y', x = some x' ∧ y = some y' ∧ opd x' = some y' := by
  cases x with
  | none => simp [oopd] at h; exact .inl ⟨rfl, h.symm⟩
  | some x' => simp only [oopd, Option.map_eq_some_iff] at h; obtain ⟨y', h1, h2⟩ := h; exact .inr ⟨x', y', rfl, h2.symm, h1⟩

/-- A bound of a cut. -/
theorem bnd_some {x : Option Operand} {y : Option Opd} {d l : Int} (R : RelT N μ s a) (h : oopd x = some y) (hb : bnd d (y.map s.val) = some l) :
    (x = none ∧ l = d) ∨ ∃ x' k, x = some x' ∧ a.eval x' = .int k l := by
  rcases oopd_some h with ⟨rfl, rfl⟩ | ⟨x', y', rfl, rfl, h'⟩
  · simp [bnd] at hb; exact .inl ⟨rfl, hb.symm⟩
  · have hv := eval_opd R h'
    simp only [Option.map_some] at hb
    unfold bnd at hb
    split at hb
    · rename_i e; cases e
    · rename_i k i e
      cases hb
      injection e with e
      rw [e] at hv
      exact .inr ⟨x', k, rfl, hv.int⟩
    · cases hb

theorem run_bounds {isSlice : Bool} {len cap : Nat} {lo hi : Option Operand} {l r : Int} (hlo : (lo = none ∧ l = 0) ∨ ∃ x k, lo = some x ∧ a.eval x = .int k l) (hhi : (hi = none ∧ r = len) ∨ ∃ x k, hi = some x ∧ a.eval x = .int k r)
    (h0 : 0 ≤ l) (h1 : l ≤ r) (h2 : r ≤ (cap : Int)) (w : World) : (Instr.sliceBounds isSlice len cap (lo.map a.eval) (hi.map a.eval) none).run P w = .ok (l.toNat, r.toNat, cap) w := by
  have h3 : max r 0 = r := by omega
  have h4 : (0 : Int) ≤ l ∧ l ≤ r := ⟨h0, h1⟩
  have h5 : (0 : Int) ≤ r ∧ r ≤ (cap : Int) := ⟨by omega, h2⟩
  rcases hhi with ⟨rfl, rfl⟩ | ⟨x, k, rfl, hx⟩
  · rcases hlo with ⟨rfl, rfl⟩ | ⟨y, k', rfl, hy⟩
    · simp [Instr.sliceBounds]
    · simp [Instr.sliceBounds, Instr.sliceBound, asIntOf, hy, h4]
  · rcases hlo with ⟨rfl, rfl⟩ | ⟨y, k', rfl, hy⟩
    · simp [Instr.sliceBounds, Instr.sliceBound, asIntOf, hx, h5]
    · simp [Instr.sliceBounds, Instr.sliceBound, asIntOf, hx, hy, h5, h4, h3]

theorem ok_slS {x : Operand} {y : Opd} {lo hi : Option Operand} {lo' hi' : Option Opd} {t : TypeId} (R : RelT N μ s a) (H : HRel μ s.h w) (ho : o.op = .slice t x lo hi none) (hx : opd x = some y) (hlo : oopd lo = some lo') (hhi : oopd hi = some hi')
    (ht : P.underlying t = some .string) (hr : (MI.slS y lo' hi').run s = some (v, h')) : Out P μ s.h w o a v h' := by
  simp only [MI.run, Option.map_eq_some_iff, Prod.mk.injEq] at hr
  obtain ⟨u, hu, rfl, rfl⟩ := hr
  have hcv := eval_opd R hx
  unfold slSV at hu
  split at hu
  · rename_i b hb
    split at hu
    · rename_i l r hl hr
      split at hu
      · rename_i hc
        cases hu
        rw [hb] at hcv
        refine Out.pure (v' := .string (b.extract l.toNat r.toNat)) ?_ VR.mk_string H
        have := run_bounds (P := P) (isSlice := false) (len := b.size) (cap := b.size) (bnd_some R hlo hl) (bnd_some R hhi hr) hc.1 hc.2.1 hc.2.2 w
        simp [execOp, ho, Instr.sliceAt, Instr.slice, run_underlying ht, hcv.string, this]
      · cases hu
    · cases hu
  · cases hu

theorem ok_slL {x : Operand} {y : Opd} {lo hi : Option Operand} {lo' hi' : Option Opd} {t e : TypeId} {sz bytes : Nat} {z : List Value} (R : RelT N μ s a) (H : HRel μ s.h w) (ho : o.op = .slice t x lo hi none) (hx : opd x = some y) (hlo : oopd lo = some lo') (hhi : oopd hi = some hi')
    (ht : elemOf P t = some (e, sz, bytes, z)) (hr : (MI.slL sz y lo' hi').run s = some (v, h')) : Out P μ s.h w o a v h' := by
  simp only [MI.run, Option.map_eq_some_iff, Prod.mk.injEq] at hr
  obtain ⟨u, hu, rfl, rfl⟩ := hr
  have hcv := eval_opd R hx
  obtain ⟨inf, e1, e2, e3, _, hpos, _⟩ := elemOf_spec ht
  unfold slLV at hu
  split at hu
  · rename_i hb
    split at hu
    · rename_i hl hr
      cases hu
      rw [hb] at hcv ⊢
      have := run_bounds (P := P) (isSlice := true) (len := 0) (cap := 0) (bnd_some R hlo hl) (bnd_some R hhi hr) (Int.le_refl _) (Int.le_refl _) (Int.le_refl _) w
      rcases hcv.sliceNil with hv | ⟨A, hv⟩
      · refine Out.pure (v' := .slice none 0 0) ?_ (VR.of_prim rfl) H
        simp [execOp, ho, Instr.sliceAt, Instr.slice, run_underlying e1, hv, this, run_sizeOf e2]
      · refine Out.pure (v' := .slice (some A) 0 0) ?_ (VR.of_hollow A) H
        simp [execOp, ho, Instr.sliceAt, Instr.slice, run_underlying e1, hv, this, run_sizeOf e2]
    · cases hu
  · rename_i b off len cap hb
    split at hu
    · rename_i blk hblk
      split at hu
      · rename_i l r hl hr
        split at hu
        · rename_i hc
          obtain ⟨c0, c1, c2, c3, c4⟩ := hc
          cases hu
          subst c3
          rw [hb] at hcv
          obtain ⟨hlc, hcc, hsl⟩ := hcv.slice' hblk
          obtain ⟨A, c, hA, g1, g2, g3, g4⟩ := hsl c4
          have hrun := run_bounds (P := P) (isSlice := true) (len := len) (cap := c) (bnd_some R hlo hl) (bnd_some R hhi hr) c0 c1 (by omega) w
          have hmul : (cap - l.toNat) * blk.sz + l.toNat * blk.sz = cap * blk.sz := by rw [← Nat.add_mul]; congr 1; omega
          refine Out.pure (v' := .slice (some (if c = l.toNat then A else A.add (l.toNat * blk.sz))) (r.toNat - l.toNat) (c - l.toNat)) ?_
            (.val _ _ (.one _ _ (.base _ _ (.sl b (off + l.toNat * blk.sz) (r - l).toNat (cap - l.toNat) _ blk hblk (by omega) (by omega) (fun _ => ?_) rfl)))) H
          · simp [execOp, ho, Instr.sliceAt, Instr.slice, run_underlying e1, hA, hrun, run_sizeOf e2, e3]
            split <;> rfl
          · have hrl : (r - l).toNat = r.toNat - l.toNat := by omega
            refine ⟨_, _, by rw [hrl], by omega, by omega, ?_, fun ho' hz => ?_⟩
            · rcases g3 with ⟨z1, z2⟩ | rfl
              · exact .inl ⟨by omega, by omega⟩
              · by_cases hcl : c = l.toNat
                · by_cases hl0 : l.toNat = 0
                  · rw [if_pos hcl, hl0, Nat.zero_mul, Nat.add_zero]; exact .inr rfl
                  · refine .inl ⟨by omega, ?_⟩
                    have : 0 < l.toNat * blk.sz := Nat.mul_pos (by omega) hpos
                    omega
                · rw [if_neg hcl, Addr.add_lit, Nat.add_assoc]; exact .inr rfl
            · have h0 : l.toNat * blk.sz = 0 := by omega
              have hl0 : l.toNat = 0 := by
                rcases Nat.mul_eq_zero.1 h0 with h | h
                · exact h
                · omega
              rw [hl0, Nat.sub_zero]
              exact g4 ho' (by omega)
        · cases hu
      · cases hu
    · cases hu
  · cases hu

theorem ints8_map : ∀ {cs : List Value} {ns : List Int}, ints8 cs = some ns → cs = ns.map (Value.int .u8)
  | [], ns, h => by simp [ints8] at h; subst h; rfl
  | c :: cs, ns, h => by
    simp only [ints8] at h
    split at h
    · rename_i n ns' h1 h2
      cases h
      rw [List.map_cons, ints8_map h2]
      congr 1
      unfold isInt8 at h1
      split at h1
      · cases h1; rfl
      · cases h1
    · cases h

theorem ok_str {x : Operand} {y : Opd} {t t' e : TypeId} (R : RelT N μ s a) (H : HRel μ s.h w) (ho : o.op = .convert t t' x) (ht : P.underlying t = some (.slice e)) (he : P.underlying e = some (.int .u8)) (ht' : P.underlying t' = some .string) (hx : opd x = some y) (hr : (MI.str y).run s = some (v, h')) : Out P μ s.h w o a v h' := by
  simp only [MI.run, Option.map_eq_some_iff, Prod.mk.injEq] at hr
  obtain ⟨u, hu, rfl, rfl⟩ := hr
  have hcv := eval_opd R hx
  unfold strV at hu
  split at hu
  · rename_i cs hcs
    simp only [Option.map_eq_some_iff] at hu
    obtain ⟨ns, hns, rfl⟩ := hu
    have hcells := ints8_map hns
    subst hcells
    unfold rowC at hcs
    split at hcs
    · rename_i hb
      cases hns' : ns with
      | cons n ns' => rw [hns'] at hcs; simp at hcs
      | nil =>
        rw [hb] at hcv
        refine Out.pure (v' := .string (strOfNums [])) ?_ VR.mk_string H
        rcases hcv.sliceNil with hv | ⟨A, hv⟩
        · have := run_convert_bytes_nil (P := P) w t e ht he 0 0 t' ht'
          simp [execOp, ho, hv, this]
          rfl
        · have h1 : (Conv.bytesToString (.slice (some A) 0 0)).run P w = .ok (.string ByteArray.empty) w := by simp [Conv.bytesToString, loadCells, loadCellsFrom]
          simp [execOp, ho, hv, run_convert_bytes_string w t t' e _ 0 0 ht he ht', h1]
          rfl
    · rename_i b off len cap hb
      split at hcs
      · rename_i blk hblk
        split at hcs
        · rename_i hc
          rw [hb] at hcv
          obtain ⟨hlc, hcc, hsl⟩ := hcv.slice' hblk
          rw [hc.1, Nat.mul_one] at hcc
          obtain ⟨A, c, hA, g1, g2, g3, g4⟩ := hsl (by rw [hc.1]; exact hc.2)
          have hcs' := Option.some.inj hcs
          rw [Nat.mul_one] at hcs'
          have hlen : ns.length = len := by
            have := congrArg List.length hcs'
            simp only [List.length_take, List.length_drop, List.length_map] at this
            omega
          refine Out.pure (v' := .string (strOfNums ns)) ?_ VR.mk_string H
          have hrun : (convert t t' (.slice (some A) len c)).run P w = .ok (.string (strOfNums ns)) w := by
            have hsp : A = ⟨A.block, A.off, none⟩ ∨ len = 0 := by
              rcases g3 with ⟨z, _⟩ | rfl
              · exact .inr z
              · exact .inl rfl
            rw [run_convert_bytes_string w t t' e _ len c ht he ht']
            have hl : (loadCells A len).run P w = .ok (ns.map (Value.int .u8)).toArray w := by
              have := run_loadCells_list (P := P) w A (ns.map (Value.int .u8)) (fun j v hj => by
                have hj' : j < len := by
                  have := (List.getElem?_eq_some_iff.1 hj).1
                  simpa [hlen] using this
                rcases g3 with ⟨z, _⟩ | rfl
                · omega
                · have hcell : blk.cells[off + j]? = some v := by
                    rw [← hcs', List.getElem?_take, if_pos hj', List.getElem?_drop] at hj
                    exact hj
                  obtain ⟨v', h1, h2⟩ := H.cell b blk hblk _ _ hcell
                  have hv : v' = v := by
                    simp only [List.getElem?_map, Option.map_eq_some_iff] at hj
                    obtain ⟨n, _, rfl⟩ := hj
                    exact (VR.val _ _ (.one _ _ h2)).int
                  rw [Addr.add_lit, Nat.add_assoc, h1, hv])
              simpa [hlen] using this
            rw [run_bytesToString w A len c ns hl, foldl_push_bytes]
            simp [strOfNums, ByteArray.empty, ByteArray.emptyWithCapacity]
            rfl
          simp [execOp, ho, hA, hrun]
        · cases hcs
      · cases hcs
    · cases hcs
  · cases hu

end
end Go.Proofs.Ytlndlccbecnjoaa.Ab
