/- A frame of the machine shows a state of the small language; one operation keeps that: own stores made, aliases, stores, what is not taken. No conditions. -/
import Derived.Test.YtlndlccbecnjoaaAb9
namespace Go.Proofs.Ytlndlccbecnjoaa.Ab
set_option linter.unusedSimpArgs false
set_option linter.unusedVariables false
set_option linter.unnecessarySimpa false
open Go.RowKit
section
variable {P : Program} {N : Nat} {D : List Nat} {E L : List (Nat × Nat)} {μ0 : Map} {h0 : Heap} {w0 : World} {lam : Nat → Nat} {μ : Map} {s : St} {a : Act} {w : World} {o : Oper} {v : Value} {h' : Heap}

/-- An own store is made. -/
theorem Rel.newLoc {d : Nat} {cs : List Value} {new : Array Value} {ty : TypeId} {al' : Nat → Option (Nat × Nat)} {v' : Value} (R : Rel N D E L μ0 h0 w0 lam μ s a w) (hd : d < N) (hk : LocOk D L d w.heap.size v') (k : All2 (VR1 μ s.h) cs new.toList)
    (hal : ∀ e d' off, al' e = some (d', off) → d' ≠ d ∧ s.al e = some (d', off)) :
    Rel N D E L μ0 h0 w0 (upd lam d w.heap.size) μ { s with t := upd s.t d undef, loc := upd s.loc d (some cs), al := al' } (a.put (some d) v') (w.alloc (.cells new ty)) := by
  have hs : d < a.tmps.size := by rw [R.rt.size]; exact hd
  have hsz : (w.alloc (.cells new ty)).heap.size = w.heap.size + 1 := by show (w.heap.push _).size = _; simp
  have hold : ∀ j, j < w.heap.size → (w.alloc (.cells new ty)).heap[j]? = w.heap[j]? := fun j hj => heap_alloc_old w _ hj
  have nin : ¬ In μ s.h w.heap.size := fun ⟨b, blk, hb, e⟩ => by have := R.hr.lt b blk hb; omega
  refine ⟨⟨by simp [Act.put, R.rt.size], fun i => ?_⟩, R.hr.other nin (fun j _ hj => hold j hj) (by omega), ⟨R.to.up, ⟨R.to.frame.os, R.to.frame.tape, R.to.frame.output, by rw [hsz]; have := R.to.frame.size; omega, fun j hj hm => ?_⟩, R.to.keeps, R.to.ins⟩, fun d' cs2 hl => ?_, fun d1 d2 c1 c2 h1 h2 hne => ?_, fun e' d' off he hl => ?_, fun e' d' off he => R.alD e' d' off (hal e' d' off he).2, R.dfr⟩
  · rw [tmps_put a d v' hs]
    show VR μ s.h (upd s.t d undef i) _
    by_cases e : i = d
    · subst e; rw [upd_same]; exact .dead _
    · rw [upd_ne _ _ e, if_neg e]; exact R.rt.t i
  · rw [hold j (Nat.lt_of_lt_of_le hj R.to.frame.size)]; exact R.to.frame.block j hj hm
  · rw [tmps_put a d v' hs]
    by_cases e' : d' = d
    · subst e'
      simp only [upd_same, Option.some.injEq] at hl
      subst hl
      rw [upd_same, if_pos rfl]
      exact ⟨R.to.frame.size, by rw [hsz]; exact Nat.lt_succ_self _, nin, ⟨new, ty, heap_alloc_new w _, k⟩, hk⟩
    · simp only [upd_ne _ _ e'] at hl
      rw [upd_ne _ _ e', if_neg e']
      obtain ⟨g1, g2, g3, ⟨cur, e2, g4, g5⟩, g6⟩ := R.loc d' cs2 hl
      exact ⟨g1, by omega, g3, ⟨cur, e2, by rw [hold _ g2]; exact g4, g5⟩, g6⟩
  · by_cases e1 : d1 = d
    · subst e1
      have e2 : d2 ≠ d1 := fun e => hne e.symm
      simp only [upd_ne _ _ e2] at h2
      rw [upd_same, upd_ne _ _ e2]
      have := (R.loc d2 c2 h2).2.1
      omega
    · simp only [upd_ne _ _ e1] at h1
      rw [upd_ne _ _ e1]
      by_cases e2 : d2 = d
      · subst e2
        rw [upd_same]
        have := (R.loc d1 c1 h1).2.1
        omega
      · simp only [upd_ne _ _ e2] at h2
        rw [upd_ne _ _ e2]
        exact R.locs d1 d2 c1 c2 h1 h2 hne
  · obtain ⟨q1, q2⟩ := hal e' d' off he
    simp only [upd_ne _ _ q1] at hl
    obtain ⟨p1, p2, p3, p4, p5⟩ := R.al e' d' off q2 hl
    have hne : e' ≠ d := by
      rintro rfl
      rcases hk with ⟨h, _, _⟩ | ⟨n, h, _⟩
      · rw [p2] at h; cases h
      · rw [h] at p3; cases p3
    refine ⟨p1, p2, p3, p4, ?_⟩
    rw [tmps_put a d v' hs, if_neg hne, upd_ne _ _ q1]
    exact p5

/-- An alias is laid. -/
theorem Rel.alias {e d off : Nat} (R : Rel N D E L μ0 h0 w0 lam μ s a w) (he : e < N) (hE : E.lookup e = some d) (hD : D.contains e = false) (hL : (L.lookup e).isNone = true) (hd : D.contains d = true) :
    Rel N D E L μ0 h0 w0 lam μ { s with t := upd s.t e undef, al := upd s.al e (some (d, off)) } (a.put (some e) (.pointer (some ⟨lam d, off, none⟩))) w := by
  have hs : e < a.tmps.size := by rw [R.rt.size]; exact he
  refine ⟨⟨by simp [Act.put, R.rt.size], fun i => ?_⟩, R.hr, R.to, fun d' cs2 hl => ?_, R.locs, fun e' d' off' he' hl => ?_, fun e' d' off' he' => ?_, R.dfr⟩
  · rw [tmps_put a e _ hs]
    show VR μ s.h (upd s.t e undef i) _
    by_cases h : i = e
    · subst h; rw [upd_same]; exact .dead _
    · rw [upd_ne _ _ h, if_neg h]; exact R.rt.t i
  · have h1 := R.loc d' cs2 hl
    have hne : d' ≠ e := by
      rintro rfl
      rcases h1.2.2.2.2 with ⟨h, _, _⟩ | ⟨n, h, _⟩
      · rw [hD] at h; cases h
      · rw [h] at hL; cases hL
    rw [tmps_put a e _ hs, if_neg hne]
    exact h1
  · rw [tmps_put a e _ hs]
    by_cases h : e' = e
    · subst h
      simp only [upd_same, Option.some.injEq, Prod.mk.injEq] at he'
      obtain ⟨rfl, rfl⟩ := he'
      rw [if_pos rfl]
      exact ⟨hE, hD, hL, hd, rfl⟩
    · simp only [upd_ne _ _ h] at he'
      rw [if_neg h]
      exact R.al e' d' off' he' hl
  · by_cases h : e' = e
    · subst h
      simp only [upd_same, Option.some.injEq, Prod.mk.injEq] at he'
      obtain ⟨rfl, rfl⟩ := he'
      exact hd
    · simp only [upd_ne _ _ h] at he'
      exact R.alD e' d' off' he'

/-- What is not taken. -/
theorem Rel.skip {m : MOp} (R : Rel N D E L μ0 h0 w0 lam μ s a w) (hd : ∀ d, m.dst = some d → d < N) : Rel N D E L μ0 h0 w0 lam μ (m.skip s) (a.put m.dst undef) w := by
  unfold MOp.skip
  cases hm : m.dst with
  | none => exact R
  | some d =>
    have hs : d < a.tmps.size := by rw [R.rt.size]; exact hd d hm
    refine ⟨⟨by simp [Act.put, R.rt.size], fun i => ?_⟩, R.hr, R.to, fun d' cs2 hl => ?_, fun d1 d2 c1 c2 h1 h2 hne => ?_, fun e' d' off' he' hl => ?_, fun e' d' off' he' => ?_, R.dfr⟩
    · rw [tmps_put a d _ hs]
      show VR μ s.h (upd s.t d gone i) _
      by_cases h : i = d
      · subst h; rw [upd_same, if_pos rfl]; exact .gone
      · rw [upd_ne _ _ h, if_neg h]; exact R.rt.t i
    · by_cases h : d' = d
      · subst h; simp only [upd_same] at hl; cases hl
      · simp only [upd_ne _ _ h] at hl
        rw [tmps_put a d _ hs, if_neg h]
        exact R.loc d' cs2 hl
    · have q1 : d1 ≠ d := by rintro rfl; simp only [upd_same] at h1; cases h1
      have q2 : d2 ≠ d := by rintro rfl; simp only [upd_same] at h2; cases h2
      simp only [upd_ne _ _ q1] at h1
      simp only [upd_ne _ _ q2] at h2
      exact R.locs d1 d2 c1 c2 h1 h2 hne
    · have q1 : e' ≠ d := by rintro rfl; simp only [upd_same] at he'; cases he'
      have q2 : d' ≠ d := by rintro rfl; simp only [upd_same] at hl; cases hl
      simp only [upd_ne _ _ q1] at he'
      simp only [upd_ne _ _ q2] at hl
      rw [tmps_put a d _ hs, if_neg q1]
      exact R.al e' d' off' he' hl
    · have q1 : e' ≠ d := by rintro rfl; simp only [upd_same] at he'; cases he'
      simp only [upd_ne _ _ q1] at he'
      exact R.alD e' d' off' he'

theorem putAt_take (C ys : List Value) (off K : Nat) (h1 : off + ys.length ≤ K) (h2 : K ≤ C.length) : putAt (C.take K) off ys = (putAt C off ys).take K := by
  unfold putAt
  rw [List.take_append, List.take_append, List.length_take, List.length_append, List.length_take, List.take_take, List.take_take, List.drop_take, List.take_of_length_le (l := ys) (by omega), show min off K = min K off by omega, show K - (min off C.length + ys.length) = K - (off + ys.length) by omega]

/-- A store through a pointer. -/
theorem Rel.st {t : TypeId} {x vo : Operand} {x' vo' : Opd} {n : Nat} {i : TypeInfo} {vs : List Value} (R : Rel N D E L μ0 h0 w0 lam μ s a w) (ho : o.op = .store t x vo) (hx : opd x = some x') (hv : opd vo = some vo') (hi : P.info? t = some i) (hin : i.size = n)
    (hvs : cellsOf (s.val vo') = some vs) (hl : vs.length = n) (hst : stC s.h (s.val x') vs = some h') :
    ∃ w', (execOp a.eval o).run P w = .ok .skip w' ∧ Rel N D E L μ0 h0 w0 lam μ { s with h := h' } a w' := by
  unfold stC at hst
  split at hst
  · rename_i b off Ln hp
    split at hst
    · rename_i blk hblk
      split at hst
      · rename_i hc
        obtain ⟨hL, hfit, hown⟩ := hc
        cases hst
        have kx := eval_opd R.rt hx
        rw [hp] at kx
        have ex := kx.ptr' hblk hL
        obtain ⟨o1, cur, o2, o3, o4⟩ := R.hr.own b blk hblk hown
        rw [o1, Nat.zero_add] at ex
        obtain ⟨ys, e1, e2⟩ := (eval_opd R.rt hv).cells hvs
        have hyl : ys.length = n := by rw [← e2.1, hl]
        have hrun := run_storeLoc (P := P) (w := w) (off := off) hi hin e1 hyl (VR1.ones e2) o2 (by omega)
        obtain ⟨p1, p2⟩ := R.hr.put (cells := putAt blk.cells off vs) (new := ⟨putAt cur.toList off ys⟩) (w' := w.setRow (μ b).g ⟨putAt cur.toList off ys⟩) hblk hown
          (by simp [putAt]; omega) (by simp [putAt]; omega) (by simp [putAt]; omega)
          (fun j y hy => by
            have hcells : ∃ zs : List Value, All2 (VR1 μ s.h) blk.cells zs ∧ ∀ (j : Nat) (z : Value), zs[j]? = some z → cur[j]? = some z := by
              obtain ⟨zs, z1, z2⟩ := All2.of_cells (off := 0) (n := blk.cells.length) R.hr hblk (by omega)
              rw [List.drop_zero, List.take_length] at z1
              refine ⟨zs, z1, fun j z hz => ?_⟩
              have := z2 j z hz
              rw [o1, Addr.add_lit, Nat.zero_add, cell_of_row o2] at this
              exact this
            obtain ⟨zs, z1, z2⟩ := hcells
            obtain ⟨y', r1, r2⟩ := (z1.putAt e2 off).get hy
            refine ⟨y', ?_, r2⟩
            have hzl : zs.length = blk.cells.length := z1.1.symm
            have hzt : zs = cur.toList.take blk.cells.length := by
              apply List.ext_getElem?
              intro q
              by_cases hq : q < zs.length
              · have hz := z2 q zs[q] (List.getElem?_eq_getElem hq)
                rw [List.getElem?_take, if_pos (by omega), List.getElem?_eq_getElem hq]
                simpa using hz.symm
              · rw [List.getElem?_eq_none (by omega), List.getElem?_eq_none (by rw [List.length_take, Array.length_toList]; omega)]
            have hjl := (List.getElem?_eq_some_iff.1 r1).1
            have hjl' : j < blk.cells.length := by
              simp only [putAt, List.length_append, List.length_take, List.length_drop] at hjl
              omega
            have hpre : putAt zs off ys = (putAt cur.toList off ys).take blk.cells.length := by
              rw [hzt]
              exact putAt_take _ _ _ _ (by omega) (by simpa using o4)
            rw [hpre, List.getElem?_take, if_pos hjl'] at r1
            simpa using r1)
          (setRow_heap w _ cur _ _ _ o2) (fun j hj => setRow_other w _ j _ hj) (by simp [World.setRow]) rfl rfl rfl
        refine ⟨_, ?_, R.mem p1 p2⟩
        simp [execOp, ho, Instr.storeAt, Instr.sureAddr, ex, hrun]
      · cases hst
    · cases hst
  · cases hst

end
end Go.Proofs.Ytlndlccbecnjoaa.Ab
