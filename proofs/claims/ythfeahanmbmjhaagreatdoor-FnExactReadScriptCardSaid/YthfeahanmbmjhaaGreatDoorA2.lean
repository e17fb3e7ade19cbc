/- The small language is sound: operations, regions, code, calls. No conditions. -/
import Derived.Test.YthfeahanmbmjhaaGreatDoorA1
import Derived.Tactics
import Derived.LoopN
set_option linter.unusedSimpArgs false
set_option linter.unusedVariables false
set_option linter.unnecessarySimpa false
set_option maxHeartbeats 4000000
/- A frame of the machine shows a state of the small language; one operation keeps that: own stores made, aliases, stores, what is not taken. No conditions. -/
namespace Go.Proofs.YthfeahanmbmjhaaGreatDoor.Ab
open Go.RowKit
section
variable {P : Program} {N : Nat} {D : List Nat} {E L : List (Nat × Nat)} {μ0 : Map} {h0 : Heap} {w0 : World} {lam : Nat → Nat} {μ : Map} {s : St} {a : Act} {w : World} {o : Oper} {v : Value} {h' : Heap}
/-- An own store is made. -/
theorem Rel.newLoc {d : Nat} {cs : List Value} {new : Array Value} {ty : TypeId} {al' : Nat → Option (Nat × Nat)} {v' : Value} (R : Rel N D E L μ0 h0 w0 lam μ s a w) (hd : d < N) (hk : LocOk D L d w.heap.size v') (k : All2 (VR1 μ s.h) cs new.toList)
    (hal : ∀ e d' off, al' e = some (d', off) → d' ≠ d ∧ s.al e = some (d', off)) :
    Rel N D E L μ0 h0 w0 (upd lam d w.heap.size) μ { s with t := upd s.t d undef, loc := upd s.loc d (some cs), al := al' } (a.put (some d) v') (w.alloc (.cells new ty)) := by
  have hs : d < a.tmps.size := by rw [R.rt.size]; exact hd
  have hsz : (w.alloc (.cells new ty)).heap.size = w.heap.size + 1 := by show (w.heap.push _).size = _; simp
  have hold : ∀ j, j < w.heap.size → (w.alloc (.cells new ty)).heap[j]? = w.heap[j]? := fun j hj => heap_alloc_old w _ hj
  have nin : ¬ In μ s.h w.heap.size := fun ⟨b, blk, hb, e⟩ => by have := R.hr.lt b blk hb; omega
  refine ⟨⟨by simp [Act.put, R.rt.size], fun i => ?_⟩, R.hr.other nin (fun j _ hj => hold j hj) (by omega), ⟨R.to.up, ⟨R.to.frame.os, R.to.frame.tape, R.to.frame.output, by rw [hsz]; have := R.to.frame.size; omega, fun j hj hm => ?_⟩, R.to.keeps, R.to.ins⟩, fun d' cs2 hl => ?_, fun d1 d2 c1 c2 h1 h2 hne => ?_, fun e' d' off he hl => ?_, fun e' d' off he => R.alD e' d' off (hal e' d' off he).2, R.dfr⟩
  · rw [tmps_put a d v' hs]
    show VR μ s.h (upd s.t d undef i) _
    by_cases e : i = d
    · subst e; rw [upd_same]; exact .dead _
    · rw [upd_ne _ _ e, if_neg e]; exact R.rt.t i
  · rw [hold j (Nat.lt_of_lt_of_le hj R.to.frame.size)]; exact R.to.frame.block j hj hm
  · rw [tmps_put a d v' hs]
    by_cases e' : d' = d
    · subst e'
      simp only [upd_same, Option.some.injEq] at hl
      subst hl
      rw [upd_same, if_pos rfl]
      exact ⟨R.to.frame.size, by rw [hsz]; exact Nat.lt_succ_self _, nin, ⟨new, ty, heap_alloc_new w _, k⟩, hk⟩
    · simp only [upd_ne _ _ e'] at hl
      rw [upd_ne _ _ e', if_neg e']
      obtain ⟨g1, g2, g3, ⟨cur, e2, g4, g5⟩, g6⟩ := R.loc d' cs2 hl
      exact ⟨g1, by omega, g3, ⟨cur, e2, by rw [hold _ g2]; exact g4, g5⟩, g6⟩
  · by_cases e1 : d1 = d
    · subst e1
      have e2 : d2 ≠ d1 := fun e => hne e.symm
      simp only [upd_ne _ _ e2] at h2
      rw [upd_same, upd_ne _ _ e2]
      have := (R.loc d2 c2 h2).2.1
      omega
    · simp only [upd_ne _ _ e1] at h1
      rw [upd_ne _ _ e1]
      by_cases e2 : d2 = d
      · subst e2
        rw [upd_same]
        have := (R.loc d1 c1 h1).2.1
        omega
      · simp only [upd_ne _ _ e2] at h2
        rw [upd_ne _ _ e2]
        exact R.locs d1 d2 c1 c2 h1 h2 hne
  · obtain ⟨q1, q2⟩ := hal e' d' off he
    simp only [upd_ne _ _ q1] at hl
    obtain ⟨p1, p2, p3, p4, p5⟩ := R.al e' d' off q2 hl
    have hne : e' ≠ d := by
      rintro rfl
      rcases hk with ⟨h, _, _⟩ | ⟨n, h, _⟩
      · rw [p2] at h; cases h
      · rw [h] at p3; cases p3
    refine ⟨p1, p2, p3, p4, ?_⟩
    rw [tmps_put a d v' hs, if_neg hne, upd_ne _ _ q1]
    exact p5
/-- An alias is laid. -/
theorem Rel.alias {e d off : Nat} (R : Rel N D E L μ0 h0 w0 lam μ s a w) (he : e < N) (hE : E.lookup e = some d) (hD : D.contains e = false) (hL : (L.lookup e).isNone = true) (hd : D.contains d = true) :
    Rel N D E L μ0 h0 w0 lam μ { s with t := upd s.t e undef, al := upd s.al e (some (d, off)) } (a.put (some e) (.pointer (some ⟨lam d, off, none⟩))) w := by
  have hs : e < a.tmps.size := by rw [R.rt.size]; exact he
  refine ⟨⟨by simp [Act.put, R.rt.size], fun i => ?_⟩, R.hr, R.to, fun d' cs2 hl => ?_, R.locs, fun e' d' off' he' hl => ?_, fun e' d' off' he' => ?_, R.dfr⟩
  · rw [tmps_put a e _ hs]
    show VR μ s.h (upd s.t e undef i) _
    by_cases h : i = e
    · subst h; rw [upd_same]; exact .dead _
    · rw [upd_ne _ _ h, if_neg h]; exact R.rt.t i
  · have h1 := R.loc d' cs2 hl
    have hne : d' ≠ e := by
      rintro rfl
      rcases h1.2.2.2.2 with ⟨h, _, _⟩ | ⟨n, h, _⟩
      · rw [hD] at h; cases h
      · rw [h] at hL; cases hL
    rw [tmps_put a e _ hs, if_neg hne]
    exact h1
  · rw [tmps_put a e _ hs]
    by_cases h : e' = e
    · subst h
      simp only [upd_same, Option.some.injEq, Prod.mk.injEq] at he'
      obtain ⟨rfl, rfl⟩ := he'
      rw [if_pos rfl]
      exact ⟨hE, hD, hL, hd, rfl⟩
    · simp only [upd_ne _ _ h] at he'
      rw [if_neg h]
      exact R.al e' d' off' he' hl
  · by_cases h : e' = e
    · subst h
      simp only [upd_same, Option.some.injEq, Prod.mk.injEq] at he'
      obtain ⟨rfl, rfl⟩ := he'
      exact hd
    · simp only [upd_ne _ _ h] at he'
      exact R.alD e' d' off' he'
/-- What is not taken. -/
theorem Rel.skip {m : MOp} (R : Rel N D E L μ0 h0 w0 lam μ s a w) (hd : ∀ d, m.dst = some d → d < N) : Rel N D E L μ0 h0 w0 lam μ (m.skip s) (a.put m.dst undef) w := by
  unfold MOp.skip
  cases hm : m.dst with
  | none => exact R
  | some d =>
    have hs : d < a.tmps.size := by rw [R.rt.size]; exact hd d hm
    refine ⟨⟨by simp [Act.put, R.rt.size], fun i => ?_⟩, R.hr, R.to, fun d' cs2 hl => ?_, fun d1 d2 c1 c2 h1 h2 hne => ?_, fun e' d' off' he' hl => ?_, fun e' d' off' he' => ?_, R.dfr⟩
    · rw [tmps_put a d _ hs]
      show VR μ s.h (upd s.t d gone i) _
      by_cases h : i = d
      · subst h; rw [upd_same, if_pos rfl]; exact .gone
      · rw [upd_ne _ _ h, if_neg h]; exact R.rt.t i
    · by_cases h : d' = d
      · subst h; simp only [upd_same] at hl; cases hl
      · simp only [upd_ne _ _ h] at hl
        rw [tmps_put a d _ hs, if_neg h]
        exact R.loc d' cs2 hl
    · have q1 : d1 ≠ d := by rintro rfl; simp only [upd_same] at h1; cases h1
      have q2 : d2 ≠ d := by rintro rfl; simp only [upd_same] at h2; cases h2
      simp only [upd_ne _ _ q1] at h1
      simp only [upd_ne _ _ q2] at h2
      exact R.locs d1 d2 c1 c2 h1 h2 hne
    · have q1 : e' ≠ d := by rintro rfl; simp only [upd_same] at he'; cases he'
      have q2 : d' ≠ d := by rintro rfl; simp only [upd_same] at hl; cases hl
      simp only [upd_ne _ _ q1] at he'
      simp only [upd_ne _ _ q2] at hl
      rw [tmps_put a d _ hs, if_neg q1]
      exact R.al e' d' off' he' hl
    · have q1 : e' ≠ d := by rintro rfl; simp only [upd_same] at he'; cases he'
      simp only [upd_ne _ _ q1] at he'
      exact R.alD e' d' off' he'
theorem putAt_take (C ys : List Value) (off K : Nat) (h1 : off + ys.length ≤ K) (h2 : K ≤ C.length) : putAt (C.take K) off ys = (putAt C off ys).take K := by
  unfold putAt
  rw [List.take_append, List.take_append, List.length_take, List.length_append, List.length_take, List.take_take, List.take_take, List.drop_take, List.take_of_length_le (l := ys) (by omega), show min off K = min K off by omega, show K - (min off C.length + ys.length) = K - (off + ys.length) by omega]
/-- A store through a pointer. -/
theorem Rel.st {t : TypeId} {x vo : Operand} {x' vo' : Opd} {n : Nat} {i : TypeInfo} {vs : List Value} (R : Rel N D E L μ0 h0 w0 lam μ s a w) (ho : o.op = .store t x vo) (hx : opd x = some x') (hv : opd vo = some vo') (hi : P.info? t = some i) (hin : i.size = n)
    (hvs : cellsOf (s.val vo') = some vs) (hl : vs.length = n) (hst : stC s.h (s.val x') vs = some h') :
    ∃ w', (execOp a.eval o).run P w = .ok .skip w' ∧ Rel N D E L μ0 h0 w0 lam μ { s with h := h' } a w' := by
  unfold stC at hst
  split at hst
  · rename_i b off Ln hp
    split at hst
    · rename_i blk hblk
      split at hst
      · rename_i hc
        obtain ⟨hL, hfit, hown⟩ := hc
        cases hst
        have kx := eval_opd R.rt hx
        rw [hp] at kx
        have ex := kx.ptr' hblk hL
        obtain ⟨o1, cur, o2, o3, o4⟩ := R.hr.own b blk hblk hown
        rw [o1, Nat.zero_add] at ex
        obtain ⟨ys, e1, e2⟩ := (eval_opd R.rt hv).cells hvs
        have hyl : ys.length = n := by rw [← e2.1, hl]
        have hrun := run_storeLoc (P := P) (w := w) (off := off) hi hin e1 hyl (VR1.ones e2) o2 (by omega)
        obtain ⟨p1, p2⟩ := R.hr.put (cells := putAt blk.cells off vs) (new := ⟨putAt cur.toList off ys⟩) (w' := w.setRow (μ b).g ⟨putAt cur.toList off ys⟩) hblk hown
          (by simp [putAt]; omega) (by simp [putAt]; omega) (by simp [putAt]; omega)
          (fun j y hy => by
            have hcells : ∃ zs : List Value, All2 (VR1 μ s.h) blk.cells zs ∧ ∀ (j : Nat) (z : Value), zs[j]? = some z → cur[j]? = some z := by
              obtain ⟨zs, z1, z2⟩ := All2.of_cells (off := 0) (n := blk.cells.length) R.hr hblk (by omega)
              rw [List.drop_zero, List.take_length] at z1
              refine ⟨zs, z1, fun j z hz => ?_⟩
              have := z2 j z hz
              rw [o1, Addr.add_lit, Nat.zero_add, cell_of_row o2] at this
              exact this
            obtain ⟨zs, z1, z2⟩ := hcells
            obtain ⟨y', r1, r2⟩ := (z1.putAt e2 off).get hy
            refine ⟨y', ?_, r2⟩
            have hzl : zs.length = blk.cells.length := z1.1.symm
            have hzt : zs = cur.toList.take blk.cells.length := by
              apply List.ext_getElem?
              intro q
              by_cases hq : q < zs.length
              · have hz := z2 q zs[q] (List.getElem?_eq_getElem hq)
                rw [List.getElem?_take, if_pos (by omega), List.getElem?_eq_getElem hq]
                simpa using hz.symm
              · rw [List.getElem?_eq_none (by omega), List.getElem?_eq_none (by rw [List.length_take, Array.length_toList]; omega)]
            have hjl := (List.getElem?_eq_some_iff.1 r1).1
            have hjl' : j < blk.cells.length := by
              simp only [putAt, List.length_append, List.length_take, List.length_drop] at hjl
              omega
            have hpre : putAt zs off ys = (putAt cur.toList off ys).take blk.cells.length := by
              rw [hzt]
              exact putAt_take _ _ _ _ (by omega) (by simpa using o4)
            rw [hpre, List.getElem?_take, if_pos hjl'] at r1
            simpa using r1)
          (setRow_heap w _ cur _ _ _ o2) (fun j hj => setRow_other w _ j _ hj) (by simp [World.setRow]) rfl rfl rfl
        refine ⟨_, ?_, R.mem p1 p2⟩
        simp [execOp, ho, Instr.storeAt, Instr.sureAddr, ex, hrun]
      · cases hst
    · cases hst
  · cases hst
end
end Go.Proofs.YthfeahanmbmjhaaGreatDoor.Ab
/- One operation of a loaded function, read into the small language and run there, is what the machine does. No conditions. -/
namespace Go.Proofs.YthfeahanmbmjhaaGreatDoor.Ab
open Go.RowKit
section
variable {P : Program} {N : Nat} {D : List Nat} {E L : List (Nat × Nat)} {μ0 : Map} {h0 : Heap} {w0 : World} {lam : Nat → Nat} {μ : Map} {s : St} {a : Act} {w : World} {o : Oper} {v : Value} {h' : Heap}
theorem isStr_spec {t : TypeId} (h : isStr P t = true) : P.underlying t = some .string := by
  unfold isStr at h
  split at h
  · assumption
  · cases h
theorem isSlice_spec {t : TypeId} (h : isSlice P t = true) : ∃ e, P.underlying t = some (.slice e) := by
  unfold isSlice at h
  split at h
  · exact ⟨_, by assumption⟩
  · cases h
/-- A literal's cells, appended. -/
theorem ok_appL {d : Operand} {x : Nat} {d' : Opd} {t e : TypeId} {sz bytes n : Nat} {z : List Value} (R : Rel N D E L μ0 h0 w0 lam μ s a w) (ho : o.op = .call { callee := .builtin .append, args := #[d, .tmp x], argTypes := #[t, t] }) (hd : opd d = some d')
    (hL : L.lookup x = some n) (ht : elemOf P t = some (e, sz, bytes, z)) (hr : (MI.appL sz e bytes n d' x).run s = some (v, h')) : Out P μ s.h w o a v h' := by
  simp only [MI.run] at hr
  split at hr
  · rename_i cs hl
    split at hr
    · rename_i hcl
      obtain ⟨_, _, _, ⟨cur, e', l4, l5⟩, l6⟩ := R.loc x cs hl
      rcases l6 with ⟨_, h1, l6⟩ | ⟨n', h1, h2, l6⟩
      · rw [hL] at h1; cases h1
      · rw [hL] at h1
        cases h1
        refine app_core R.rt R.hr ho hd ht (show a.eval (.tmp x) = _ from l6) hcl (fun _ => ⟨_, cur.toList, rfl, l5, fun j v' hj => ?_⟩) hr
        rw [Addr.add_lit, Nat.zero_add, cell_of_row l4]
        simpa using hj
    · cases hr
  · cases hr
theorem ok_strL {x : Nat} {t t' e : TypeId} {n : Nat} (R : Rel N D E L μ0 h0 w0 lam μ s a w) (ho : o.op = .convert t t' (.tmp x)) (ht : P.underlying t = some (.slice e)) (he : P.underlying e = some (.int .u8)) (ht' : P.underlying t' = some .string) (hL : L.lookup x = some n) (hr : (MI.strL n x).run s = some (v, h')) : Out P μ s.h w o a v h' := by
  simp only [MI.run] at hr
  split at hr
  · rename_i cs hl
    split at hr
    case isFalse => cases hr
    rename_i hcl
    simp only [Option.map_eq_some_iff, Prod.mk.injEq] at hr
    obtain ⟨ns, hns, rfl, rfl⟩ := hr
    have hcells := ints8_map hns
    subst hcells
    obtain ⟨_, _, _, ⟨cur, e', l4, l5⟩, l6⟩ := R.loc x _ hl
    have hcur : cur.toList = ns.map (Value.int .u8) := by
      apply List.ext_getElem?
      intro j
      by_cases hj : j < ns.length
      · obtain ⟨y, hy, k⟩ := l5.get (i := j) (List.getElem?_eq_getElem (by simpa using hj))
        rw [hy, List.getElem?_eq_getElem (by simpa using hj)]
        have := (VR.val _ _ (.one _ _ k))
        simp only [List.getElem_map] at this ⊢
        rw [this.int]
      · rw [List.getElem?_eq_none (by rw [← l5.1]; simpa using hj), List.getElem?_eq_none (by simpa using hj)]
    rcases l6 with ⟨_, h1, l6⟩ | ⟨n', h1, h2, l6⟩
    · rw [hL] at h1; cases h1
    · rw [hL] at h1
      cases h1
      have hnl : ns.length = n := by simpa using hcl
      refine Out.pure (v' := .string (strOfNums ns)) ?_ VR.mk_string R.hr
      have hl' : (loadCells ⟨lam x, 0, none⟩ n).run P w = .ok (ns.map (Value.int .u8)).toArray w := by
        have := run_loadCells_list (P := P) w ⟨lam x, 0, none⟩ (ns.map (Value.int .u8)) (fun j v' hj => by
          rw [Addr.add_lit, Nat.zero_add, cell_of_row l4, ← Array.getElem?_toList, hcur]; exact hj)
        simpa [hnl] using this
      have he2 : a.eval (.tmp x) = .slice (some ⟨lam x, 0, none⟩) n n := l6
      have hrun : (convert t t' (.slice (some ⟨lam x, 0, none⟩) n n)).run P w = .ok (.string (strOfNums ns)) w := by
        rw [run_convert_bytes_string w t t' e _ n n ht he ht', run_bytesToString w _ n n ns hl', foldl_push_bytes]
        simp [strOfNums, ByteArray.empty, ByteArray.emptyWithCapacity]
        rfl
      simp [execOp, ho, he2, hrun]
  · cases hr
theorem toArray2 {α : Type} {xs : Array α} {x y : α} (h : xs.toList = [x, y]) : xs = #[x, y] := by apply Array.ext'; simpa using h
theorem toArray1 {α : Type} {xs : Array α} {x : α} (h : xs.toList = [x]) : xs = #[x] := by apply Array.ext'; simpa using h
/-- Every operation that gives a value. -/
theorem value_ok {i : MI} (R : Rel N D E L μ0 h0 w0 lam μ s a w) (hc : compIns P D E L o = some i) (hr : i.run s = some (v, h')) : Out P μ s.h w o a v h' := by
  have RT := R.rt
  have H := R.hr
  unfold compIns at hc
  split at hc
  · rename_i x ho
    simp only [Option.map_eq_some_iff] at hc
    obtain ⟨y, hy, rfl⟩ := hc
    exact ok_move RT H (.inl ho) hy hr
  · rename_i x ho
    simp only [Option.map_eq_some_iff] at hc
    obtain ⟨y, hy, rfl⟩ := hc
    exact ok_move RT H (.inr ho) hy hr
  · rename_i c x y ho
    split at hc
    · rename_i h1 h2 h3
      cases hc
      exact ok_pick RT H ho h1 h2 h3 hr
    · cases hc
  · -- binOp
    rename_i op t x y t' ho
    split at hc
    · rename_i h1 h2 h3; cases hc; exact ok_bin RT H ho h1 h2 hr
    · rename_i h1 h2 h3; cases hc; exact ok_bin RT H ho h1 h2 hr
    · rename_i h1 h2 h3; cases hc; exact ok_binB RT H ho h3 h1 h2 hr
    · rename_i fs h1 h2 h3
      split at hc
      · rename_i h4 h5; cases hc; exact ok_eqS (neg := false) RT H ho h1 h2 h3 h4 h5 hr
      · rename_i h4 h5; cases hc; exact ok_eqS (neg := true) RT H ho h1 h2 h3 h4 h5 hr
      · cases hc
    · cases hc
  · rename_i op t x ho
    simp only [Option.map_eq_some_iff] at hc
    obtain ⟨y, hy, rfl⟩ := hc
    exact ok_un RT H ho hy hr
  · -- convert
    rename_i t t' x ho
    split at hc
    · rename_i h1 h2 h3; cases hc; exact ok_conv RT H ho h2 h3 h1 hr
    · rename_i y e h1 h2 h3
      split at hc
      · rename_i h4
        split at hc
        · rename_i q
          have hx : x = .tmp q := by
            cases x <;> simp [opd] at h1
            · exact congrArg _ h1
          subst hx
          split at hc
          · rename_i n hL; cases hc; exact ok_strL R ho h2 h4 h3 hL hr
          · cases hc; exact ok_str RT H ho h2 h4 h3 (by simp [opd]) hr
        · cases hc
      · cases hc
    · cases hc
  · -- load
    rename_i t x ho
    split at hc
    · rename_i n agg q h1
      split at hc
      · rename_i hD
        cases hc
        simp only [MI.run] at hr
        split at hr
        · rename_i cs hl
          split at hr
          · rename_i hn
            simp only [Option.map_eq_some_iff, Prod.mk.injEq] at hr
            obtain ⟨u, hu, rfl, rfl⟩ := hr
            obtain ⟨_, _, _, _, l6⟩ := R.loc q cs hl
            rcases l6 with ⟨_, _, l6⟩ | ⟨n', h, h', l6⟩
            · exact ok_ldLoc R ho l6 h1 hl (by omega) (by simpa using hu)
            · rw [hD] at h'; cases h'
          · cases hr
        · cases hr
      · split at hc
        · rename_i d hE
          cases hc
          simp only [MI.run] at hr
          split at hr
          · rename_i d' off cs hal hl
            split at hr
            · rename_i hn
              obtain ⟨rfl, hn⟩ := hn
              simp only [Option.map_eq_some_iff, Prod.mk.injEq] at hr
              obtain ⟨u, hu, rfl, rfl⟩ := hr
              obtain ⟨_, _, _, _, p5⟩ := R.al q d' off hal (by rw [hl]; rfl)
              exact ok_ldLoc R ho p5 h1 hl hn hu
            · cases hr
          · cases hr
        · cases hc
          exact ok_ld RT H ho (by simp [opd]) h1 hr
    · cases hc
  · -- store
    rename_i t x vo ho
    split at hc
    · split at hc
      · split at hc
        · cases hc; simp [MI.run] at hr
        · split at hc <;> (cases hc; simp [MI.run] at hr)
      · cases hc
    · cases hc
  · -- fieldAddr
    rename_i t x f ho
    split at hc
    · rename_i off n agg q h1
      split at hc
      · cases hc; simp [MI.run] at hr
      · split at hc
        · cases hc; simp [MI.run] at hr
        · cases hc; exact ok_fa RT H ho (by simp [opd]) h1 hr
    · cases hc
  · rename_i t x f ho
    split at hc
    · rename_i h1 h2; cases hc; exact ok_fl RT H ho h2 h1 hr
    · cases hc
  · rename_i t x j ho
    split at hc
    · rename_i h1 h2 h3; cases hc; exact ok_ia RT H ho h2 h3 h1 hr
    · cases hc
  · rename_i t x j ho
    split at hc
    · rename_i h1 h2 h3; cases hc; exact ok_ix RT H ho h2 h3 (isStr_spec h1) hr
    · cases hc
  · rename_i t x lo hi ho
    split at hc
    · rename_i h1 h2 h3 h4; cases hc; exact ok_slS RT H ho h2 h3 h4 (isStr_spec h1) hr
    · rename_i h0 h1 h2 h3 h4; cases hc; exact ok_slL RT H ho h2 h3 h4 h1 hr
    · cases hc
  · -- buildSlice
    rename_i t n parts ho
    split at hc
    · rename_i e sz b z xs h1 h2
      split at hc
      · rename_i hn
        split at hc
        · split at hc
          · split at hc
            · cases hc; simp [MI.run] at hr
            · cases hc
          · cases hc; exact ok_lit RT H ho h1 h2 hn hr
        · cases hc
      · cases hc
    · cases hc
  · -- build
    rename_i t parts ho
    split at hc
    · rename_i h1 h2 h3
      split at hc
      · rename_i h4; cases hc; exact ok_bld RT H ho h1 h2 h3 h4 hr
      · cases hc
    · cases hc
  · -- makeSlice
    rename_i t n c ho
    split at hc
    · rename_i h1
      split at hc
      · rename_i e; subst e; cases hc; exact ok_mk RT H ho (by simp [opd]) h1 hr
      · cases hc
    · rename_i h1
      split at hc
      · rename_i e; subst e; cases hc; exact ok_mk RT H ho (by simp [opd, constOk]) h1 hr
      · cases hc
    · cases hc
  · -- alloc
    rename_i t ho
    split at hc
    · rename_i h1 h2 h3
      split at hc
      · rename_i h4
        split at hc
        · cases hc; simp [MI.run] at hr
        · cases hc; exact ok_nw H ho h1 h2 h4.1 h4.2 hr
      · cases hc
    · cases hc
  · -- box
    rename_i t x ho
    split at hc
    · rename_i h1 h2 h3
      split at hc
      · rename_i h4
        split at hc
        · cases hc; simp [MI.run] at hr
        · cases hc; exact ok_bx RT H ho h2 h1 h4 hr
      · cases hc
    · cases hc
  · rename_i x j ho
    simp only [Option.map_eq_some_iff] at hc
    obtain ⟨y, hy, rfl⟩ := hc
    exact ok_ext RT H ho hy hr
  · rename_i x ho
    simp only [Option.map_eq_some_iff] at hc
    obtain ⟨y, hy, rfl⟩ := hc
    exact ok_chk RT H ho hy hr
  · rename_i f first caps ho
    split at hc
    · rename_i h0
      simp only [Option.map_eq_some_iff] at hc
      obtain ⟨y, hy, rfl⟩ := hc
      exact ok_fn RT H ho h0 hy hr
    · cases hc
  · rename_i f args ts ho
    split at hc
    · cases hc
      simp [MI.run] at hr
    · simp only [Option.map_eq_some_iff] at hc
      obtain ⟨y, hy, rfl⟩ := hc
      simp [MI.run] at hr
  · rename_i f args ts ho
    simp only [Option.map_eq_some_iff] at hc
    obtain ⟨y, hy, rfl⟩ := hc
    simp [MI.run] at hr
  · -- len
    rename_i args ts ho
    split at hc
    · rename_i x t h1 h2
      rw [toArray1 h1, toArray1 h2] at ho
      split at hc
      · rename_i h3
        simp only [Option.map_eq_some_iff] at hc
        obtain ⟨y, hy, rfl⟩ := hc
        exact ok_lenS RT H ho hy (isStr_spec h3) hr
      · split at hc
        · rename_i h3
          simp only [Option.map_eq_some_iff] at hc
          obtain ⟨y, hy, rfl⟩ := hc
          obtain ⟨e, he⟩ := isSlice_spec h3
          exact ok_len RT H ho hy he hr
        · cases hc
    · cases hc
  · -- append
    rename_i args ts ho
    split at hc
    · rename_i d x t u h1 h2
      rw [toArray2 h1, toArray2 h2] at ho
      split at hc
      · rename_i e sz b z sd q h3 h4 h5
        split at hc
        · rename_i hu
          subst hu
          have hx : x = .tmp q := by
            cases x <;> simp [opd] at h5
            · exact congrArg _ h5
          subst hx
          split at hc
          · rename_i n hL; cases hc; exact ok_appL R ho h4 hL h3 hr
          · cases hc; exact ok_app RT H ho h4 h5 h3 hr
        · cases hc
      · rename_i h3 h4 h5
        split at hc
        · rename_i hu; subst hu; cases hc; exact ok_app RT H ho h4 h5 h3 hr
        · cases hc
      · cases hc
    · cases hc
  · rename_i args ts ho
    split at hc
    · rename_i x y h1
      rw [toArray2 h1] at ho
      split at hc
      · rename_i h2 h3; cases hc; exact ok_mm (isMax := true) RT H ho h2 h3 hr
      · cases hc
    · cases hc
  · rename_i args ts ho
    split at hc
    · rename_i x y h1
      rw [toArray2 h1] at ho
      split at hc
      · rename_i h2 h3; cases hc; exact ok_mm (isMax := false) RT H ho h2 h3 hr
      · cases hc
    · cases hc
  · cases hc
end
end Go.Proofs.YthfeahanmbmjhaaGreatDoor.Ab
/- One operation that is taken: the machine's frame shows the turned state. No conditions. -/
namespace Go.Proofs.YthfeahanmbmjhaaGreatDoor.Ab
open Go.RowKit
/-- What stood in a first world stands there still, and is nobody's own. -/
def Gd (W : World) (μ : Map) (h : Heap) (w : World) : Prop := W.heap.size ≤ w.heap.size ∧ ∀ g, g < W.heap.size → w.heap[g]? = W.heap[g]? ∧ ¬ Mine μ h g
theorem Gd.to {W w w' : World} {μ μ' : Map} {h h' : Heap} (G : Gd W μ h w) (t : To μ h w μ' h' w') : Gd W μ' h' w' := by
  refine ⟨Nat.le_trans G.1 t.frame.size, fun g hg => ⟨?_, fun hm => ?_⟩⟩
  · rw [t.frame.block g (Nat.lt_of_lt_of_le hg G.1) (G.2 g hg).2]
    exact (G.2 g hg).1
  · rcases t.keeps g hm with k | k
    · have := G.1
      omega
    · exact (G.2 g hg).2 k
/-- What calls come to is what the machine's calls come to, behind a first world. -/
def SoundC (P : Program) (W : World) (call : FuncId → List Value → Heap → Option (Value × Heap)) : Prop :=
  ∀ f args h v h', call f args h = some (v, h') → (∀ args' w, (callFunc f args').run P w = .ok (.enter f args') w) ∧
    ∀ μ w (args' : List Value), HRel μ h w → Gd W μ h w → All2 (VR μ h) args args' → Calls P f ⟨args'⟩ w fun e w' => ∃ v' μ', e = .returned v' ∧ VR μ' h' v v' ∧ HRel μ' h' w' ∧ To μ h w μ' h' w'
/-- The frame shows the state, somehow. -/
def Shows (N : Nat) (D : List Nat) (E L : List (Nat × Nat)) (μ0 : Map) (h0 : Heap) (w0 : World) (s : St) (a : Act) (w : World) : Prop := ∃ lam μ, Rel N D E L μ0 h0 w0 lam μ s a w
section
variable {P : Program} {N : Nat} {D : List Nat} {E L : List (Nat × Nat)} {μ0 : Map} {h0 : Heap} {w0 W : World} {lam : Nat → Nat} {μ : Map} {s s' : St} {a : Act} {w : World} {o : Oper} {v : Value} {h' : Heap} {call : FuncId → List Value → Heap → Option (Value × Heap)} {Q : Exit → Act → World → Prop}
theorem wp_value {v' : Value} {w' : World} {K : Act → World → Prop} (hr : (execOp a.eval o).run P w = .ok (.value v') w') (hk : K (a.put o.dst v') w') : o.wp P a w K Q := by
  unfold Oper.wp; rw [hr]; exact hk
theorem wp_skip' {w' : World} {K : Act → World → Prop} (hr : (execOp a.eval o).run P w = .ok .skip w') (hk : K (a.put o.dst undef) w') : o.wp P a w K Q := by
  unfold Oper.wp; rw [hr]; exact hk
/-- A value operation. -/
theorem go_value {i : MI} (R : Rel N D E L μ0 h0 w0 lam μ s a w) (hc : compIns P D E L o = some i) {d : Nat} (hd : o.dst = some d) (hp : plain D E L d = true) (hN : d < N) (hr : i.run s = some (v, h')) : o.wp P a w (Shows N D E L μ0 h0 w0 { s.put o.dst v with h := h' }) Q := by
  obtain ⟨v', w', μ', h1, h2, h3, h4⟩ := value_ok R hc hr
  refine wp_value h1 ?_
  rw [hd]
  exact ⟨lam, μ', R.put hp hN h2 h3 h4⟩
theorem dstOk_value {i : MI} (h : dstOk D E L N i o.dst = true) (hr : ∃ r, i.run s = some r) : ∃ d, o.dst = some d ∧ plain D E L d = true ∧ d < N := by
  obtain ⟨r, hr⟩ := hr
  cases hd : o.dst with
  | none => rw [hd] at h; cases i <;> simp [dstOk] at h <;> simp [MI.run] at hr
  | some d =>
    rw [hd] at h
    cases i <;> simp only [dstOk, Bool.and_eq_true, decide_eq_true_eq, Bool.false_eq_true] at h <;> first | exact ⟨d, rfl, h.1, h.2⟩ | (simp [MI.run] at hr)
theorem run_resolve_fn {f : FuncId} {args : Array Operand} {ts : Array TypeId} (ho : o.op = .call { callee := .value (.func f), args := args, argTypes := ts }) (he : ∀ args' w, (callFunc f args').run P w = .ok (.enter f args') w) :
    (execOp a.eval o).run P w = .ok (.enter f (args.map a.eval)) w := by
  have : a.eval (.func f) = .func (.func f) #[] #[] := rfl
  simp [execOp, ho, resolve, Deferred.ofValue, invoke, this, he]
theorem upon_calls {f : FuncId} {args : Array Value} {K : Act → World → Prop} (hr : (execOp a.eval o).run P w = .ok (.enter f args) w)
    (hk : Calls P f args w fun e w' => ∃ v', e = .returned v' ∧ K (a.put o.dst v') w') : o.wp P a w K Q := by
  unfold Oper.wp
  rw [hr]
  refine Calls.mono hk fun e w' => ?_
  rintro ⟨v', rfl, h⟩
  exact h
theorem Rel.ret {μ' : Map} {w' : World} {v' : Value} (R : Rel N D E L μ0 h0 w0 lam μ s a w) (hd : ∀ d, o.dst = some d → plain D E L d = true ∧ d < N) (k : VR μ' h' v v') (H : HRel μ' h' w') (T : To μ s.h w μ' h' w') :
    Shows N D E L μ0 h0 w0 { s.put o.dst v with h := h' } (a.put o.dst v') w' := by
  cases ho : o.dst with
  | none => exact ⟨lam, μ', R.mem H T⟩
  | some d => exact ⟨lam, μ', R.put (hd d ho).1 (hd d ho).2 k H T⟩
theorem go_call {f : FuncId} {args : Array Operand} {ts : Array TypeId} {l : List Opd} (hS : SoundC P W call) (hG : Gd W μ0 h0 w0) (R : Rel N D E L μ0 h0 w0 lam μ s a w) (ho : o.op = .call { callee := .value (.func f), args := args, argTypes := ts }) (hl : opds args.toList = some l) (hd : ∀ d, o.dst = some d → plain D E L d = true ∧ d < N)
    (hr : call f (l.map s.val) s.h = some (v, h')) : o.wp P a w (Shows N D E L μ0 h0 w0 { s.put o.dst v with h := h' }) Q := by
  obtain ⟨he, hc⟩ := hS _ _ _ _ _ hr
  have ka := opds_all R.rt hl
  refine upon_calls (run_resolve_fn ho he) ?_
  have e : args.map a.eval = ⟨args.toList.map a.eval⟩ := by apply Array.ext'; simp
  rw [e]
  refine (hc μ w _ R.hr (hG.to R.to) ka).mono fun e w' => ?_
  rintro ⟨v', μ', rfl, h1, h2, h3⟩
  exact ⟨v', rfl, R.ret hd h1 h2 h3⟩
/-- A literal of the call's own is laid into the memory. -/
theorem Rel.lay {e n sz : Nat} {ty : TypeId} {cs : List Value} (R : Rel N D E L μ0 h0 w0 lam μ s a w) (hl : s.loc e = some cs) (hL : L.lookup e = some n) (hn : cs.length = n * sz) (hp : 0 < sz) (hm : n ≤ lim) :
    ∃ μ', Rel N D E L μ0 h0 w0 lam μ' { s with loc := upd s.loc e none, h := s.h ++ [⟨cs, sz, ty, false⟩] } a w ∧ VR μ' (s.h ++ [⟨cs, sz, ty, false⟩]) (.slice (some ⟨s.h.length, 0, none⟩) n n) (a.tmps.getD e undef) := by
  obtain ⟨l1, l2, l3, ⟨cur, et, l4, l5⟩, l6⟩ := R.loc e cs hl
  have hv : a.tmps.getD e undef = .slice (some ⟨lam e, 0, none⟩) n n := by
    rcases l6 with ⟨_, h, _⟩ | ⟨n', h, _, h'⟩
    · rw [hL] at h; cases h
    · rw [hL] at h; cases h; exact h'
  have H := R.hr
  have up := Up.push μ s.h ⟨lam e, 0, cur.size⟩ ⟨cs, sz, ty, false⟩
  have hne : ∀ d, upd s.loc e none d = s.loc d ∨ (d = e ∧ upd s.loc e none d = none) := fun d => by
    by_cases q : d = e
    · subst q; exact .inr ⟨rfl, upd_same _ _ _⟩
    · exact .inl (upd_ne _ _ q)
  refine ⟨μ.to s.h.length ⟨lam e, 0, cur.size⟩, ⟨R.rt.same up rfl, ⟨fun b blk hb i v hv => ?_, fun b blk hb => ?_, fun b blk hb => ?_, fun b blk hb ho => ?_, fun b1 b2 k1 k2 h1 h2 h3 h4 => ?_⟩, ⟨R.to.up.trans up, R.to.frame, fun g hg => ?_, fun g hg => ?_⟩, fun d ds hd => ?_, fun d d' ds ds' h1 h2 h3 => ?_, fun e' d off he hd => ?_, R.alD, R.dfr⟩, ?_⟩
  · rcases push_get hb with ⟨rfl, rfl⟩ | ⟨hlt, hb⟩
    · obtain ⟨v', q1, q2⟩ := l5.get hv
      refine ⟨v', ?_, q2.up up⟩
      rw [Map.to_same, Nat.zero_add, cell_of_row l4]
      simpa using q1
    · obtain ⟨v', q1, q2⟩ := H.cell b blk hb i v hv
      exact ⟨v', by rw [Map.to_ne _ _ (by omega)]; exact q1, q2.up up⟩
  · rcases push_get hb with ⟨rfl, rfl⟩ | ⟨hlt, hb⟩
    · exact hp
    · exact H.pos _ _ hb
  · rcases push_get hb with ⟨rfl, rfl⟩ | ⟨hlt, hb⟩
    · rw [Map.to_same]; exact l2
    · rw [Map.to_ne _ _ (by omega)]; exact H.lt _ _ hb
  · rcases push_get hb with ⟨rfl, rfl⟩ | ⟨hlt, hb⟩
    · cases ho
    · rw [Map.to_ne _ _ (by omega)]; exact H.own _ _ hb ho
  · rcases push_get h1 with ⟨rfl, rfl⟩ | ⟨hlt, g1⟩
    · cases h3
    · rcases push_get h2 with ⟨rfl, rfl⟩ | ⟨hlt', h2⟩
      · rw [Map.to_same, Map.to_ne _ _ (by omega)]
        exact fun q => l3 ⟨b1, k1, g1, q.symm⟩
      · rw [Map.to_ne _ _ (by omega), Map.to_ne _ _ (by omega)]; exact H.sep _ _ _ _ g1 h2 h3 h4
  · obtain ⟨b, blk, hb, ho, q⟩ := hg
    rcases push_get hb with ⟨rfl, rfl⟩ | ⟨hlt, hb⟩
    · cases ho
    · rw [Map.to_ne _ _ (by omega)] at q
      exact R.to.keeps g ⟨b, blk, hb, ho, q⟩
  · obtain ⟨b, blk, hb, q⟩ := hg
    rcases push_get hb with ⟨rfl, rfl⟩ | ⟨hlt, hb⟩
    · rw [Map.to_same] at q
      exact .inl (by rw [← q]; exact l1)
    · rw [Map.to_ne _ _ (by omega)] at q
      exact R.to.ins g ⟨b, blk, hb, q⟩
  · rcases hne d with q | ⟨rfl, q⟩
    · have hde : d ≠ e := by
        rintro rfl
        have this : upd s.loc d none d = none := upd_same _ _ _
        have hd2 : upd s.loc d none d = some ds := hd
        rw [this] at hd2
        cases hd2
      have hd' : s.loc d = some ds := by rw [← q]; exact hd
      obtain ⟨m1, m2, m3, ⟨cu, ee, m4, m5⟩, m6⟩ := R.loc d ds hd'
      refine ⟨m1, m2, fun hm => ?_, ⟨cu, ee, m4, m5.imp fun _ _ k => k.up up⟩, m6⟩
      obtain ⟨b, blk, hb, q⟩ := hm
      rcases push_get hb with ⟨rfl, rfl⟩ | ⟨hlt, hb⟩
      · rw [Map.to_same] at q
        exact R.locs d e _ _ hd' hl hde q.symm
      · rw [Map.to_ne _ _ (by omega)] at q
        exact m3 ⟨b, blk, hb, q⟩
    · have hd2 : upd s.loc d none d = some ds := hd
      rw [q] at hd2
      cases hd2
  · have k1 : s.loc d = some ds := by
      rcases hne d with q | ⟨_, q⟩
      · rw [← q]; exact h1
      · have h1' : upd s.loc e none d = some ds := h1
        rw [q] at h1'; cases h1'
    have k2 : s.loc d' = some ds' := by
      rcases hne d' with q | ⟨_, q⟩
      · rw [← q]; exact h2
      · have h2' : upd s.loc e none d' = some ds' := h2
        rw [q] at h2'; cases h2'
    exact R.locs d d' ds ds' k1 k2 h3
  · refine R.al e' d off he ?_
    rcases hne d with q | ⟨_, q⟩
    · rw [← q]; exact hd
    · have hd2 : (upd s.loc e none d).isSome = true := hd
      rw [q] at hd2; cases hd2
  · rw [hv]
    refine .val _ _ (.one _ _ (.base _ _ (.sl s.h.length 0 n n _ ⟨cs, sz, ty, false⟩ (by simp) (Nat.le_refl _) ?_ (fun _ => ⟨_, n, rfl, Nat.le_refl _, ?_, .inr ?_, fun q => by cases q⟩) rfl)))
    · show 0 + n * sz ≤ cs.length
      omega
    · unfold lim at hm
      unfold maxLen
      omega
    · rw [Map.to_same]
theorem go_callL {f : FuncId} {args : Array Operand} {ts : Array TypeId} {n sz e : Nat} {ty : TypeId} {cs : List Value} (hS : SoundC P W call) (hG : Gd W μ0 h0 w0) (R : Rel N D E L μ0 h0 w0 lam μ s a w) (ho : o.op = .call { callee := .value (.func f), args := args, argTypes := ts }) (hx : args.toList = [.tmp e]) (hL : L.lookup e = some n)
    (hl : s.loc e = some cs) (hn : cs.length = n * sz ∧ 0 < sz ∧ n ≤ lim) (hd : ∀ d, o.dst = some d → plain D E L d = true ∧ d < N)
    (hr : call f [.slice (some ⟨s.h.length, 0, none⟩) n n] (s.h ++ [⟨cs, sz, ty, false⟩]) = some (v, h')) : o.wp P a w (Shows N D E L μ0 h0 w0 { s.put o.dst v with loc := upd s.loc e none, h := h' }) Q := by
  obtain ⟨he, hc⟩ := hS _ _ _ _ _ hr
  obtain ⟨μ1, R1, k1⟩ := R.lay (ty := ty) hl hL hn.1 hn.2.1 hn.2.2
  refine upon_calls (run_resolve_fn ho he) ?_
  have e : args.map a.eval = ⟨[a.tmps.getD e undef]⟩ := by
    apply Array.ext'
    rw [Array.toList_map, hx]
    rfl
  rw [e]
  refine (hc μ1 w _ R1.hr (hG.to R1.to) (.cons k1 .nil)).mono fun e w' => ?_
  rintro ⟨v', μ', rfl, h1, h2, h3⟩
  refine ⟨v', rfl, ?_⟩
  have := R1.ret hd h1 h2 h3
  cases hdd : o.dst with
  | none => rw [hdd] at this; exact this
  | some d => rw [hdd] at this; exact this
theorem go_callV {g : FuncId} {ft : Nat} {args : Array Operand} {ts : Array TypeId} {l : List Opd} {caps : List Value} (hS : SoundC P W call) (hG : Gd W μ0 h0 w0) (R : Rel N D E L μ0 h0 w0 lam μ s a w) (ho : o.op = .call { callee := .value (.tmp ft), args := args, argTypes := ts }) (hl : opds args.toList = some l) (hd : ∀ d, o.dst = some d → plain D E L d = true ∧ d < N)
    (hf : s.t ft = .func (.func g) #[] ⟨caps⟩) (hr : call g (l.map s.val ++ caps) s.h = some (v, h')) : o.wp P a w (Shows N D E L μ0 h0 w0 { s.put o.dst v with h := h' }) Q := by
  obtain ⟨he, hc⟩ := hS _ _ _ _ _ hr
  have ka := opds_all R.rt hl
  have kf := R.rt.t ft
  rw [hf] at kf
  obtain ⟨caps', hv, kc⟩ : ∃ caps', a.tmps.getD ft undef = .func (.func g) #[] ⟨caps'⟩ ∧ All2 (VR0 μ s.h) caps caps' := by
    generalize a.tmps.getD ft undef = u at kf
    cases kf with
    | val _ _ k => cases k with
      | one _ _ k => cases k with
        | base _ _ k => cases k with
          | prim _ hp => simp [Ab.prim] at hp
        | fn _ _ ys k => exact ⟨ys, rfl, k⟩
  have hrun : (execOp a.eval o).run P w = .ok (.enter g (args.map a.eval ++ ⟨caps'⟩)) w := by
    have : a.eval (.tmp ft) = .func (.func g) #[] ⟨caps'⟩ := hv
    simp [execOp, ho, resolve, Deferred.ofValue, invoke, this, he]
  refine upon_calls hrun ?_
  have e : args.map a.eval ++ (⟨caps'⟩ : Array Value) = ⟨args.toList.map a.eval ++ caps'⟩ := by apply Array.ext'; simp
  rw [e]
  refine (hc μ w _ R.hr (hG.to R.to) (ka.append (kc.imp fun _ _ q => .val _ _ (.one _ _ (.base _ _ q))))).mono fun e w' => ?_
  rintro ⟨v', μ', rfl, h1, h2, h3⟩
  exact ⟨v', rfl, R.ret hd h1 h2 h3⟩
end
end Go.Proofs.YthfeahanmbmjhaaGreatDoor.Ab
/- One operation that is taken, whatever it is; one that is not. No conditions. -/
namespace Go.Proofs.YthfeahanmbmjhaaGreatDoor.Ab
open Go.RowKit
section
variable {P : Program} {N : Nat} {D : List Nat} {E L : List (Nat × Nat)} {μ0 : Map} {h0 : Heap} {w0 W : World} {lam : Nat → Nat} {μ : Map} {s s' : St} {a : Act} {w : World} {o : Oper} {v : Value} {h' : Heap} {call : FuncId → List Value → Heap → Option (Value × Heap)} {Q : Exit → Act → World → Prop}
theorem inv_newL {z : List Value} (hc : compIns P D E L o = some (.newL z)) : ∃ t n agg, o.op = .alloc t ∧ rowOf P t = some (n, agg) ∧ zeroOf P t = some z ∧ n = z.length ∧ 0 < n := by
  unfold compIns at hc
  split at hc <;> (repeat' split at hc) <;> simp only [Option.map_eq_some_iff, Option.some.injEq, reduceCtorEq, MI.newL.injEq, and_false, exists_false] at hc
  all_goals (subst hc; rename_i h1 h2 h3 h4 h5; exact ⟨_, _, _, by assumption, by assumption, by assumption, h4.1, h4.2⟩)
theorem inv_boxL {n : Nat} {y : Opd} (hc : compIns P D E L o = some (.boxL n y)) : ∃ t x agg, o.op = .box t x ∧ rowOf P t = some (n, agg) ∧ opd x = some y ∧ 0 < n := by
  unfold compIns at hc
  split at hc <;> (repeat' split at hc) <;> simp only [Option.map_eq_some_iff, Option.some.injEq, reduceCtorEq, MI.boxL.injEq, and_false, exists_false] at hc
  all_goals (obtain ⟨rfl, rfl⟩ := hc; exact ⟨_, _, _, by assumption, by assumption, by assumption, by assumption⟩)
theorem inv_faB {off d : Nat} (hc : compIns P D E L o = some (.faB off d)) : ∃ t f n agg, o.op = .fieldAddr t (.tmp d) f ∧ fieldOf P t f = some (off, n, agg) ∧ D.contains d = true := by
  unfold compIns at hc
  split at hc <;> (repeat' split at hc) <;> simp only [Option.map_eq_some_iff, Option.some.injEq, reduceCtorEq, MI.faB.injEq, and_false, exists_false] at hc
  all_goals (obtain ⟨rfl, rfl⟩ := hc; exact ⟨_, _, _, _, by assumption, by assumption, by assumption⟩)
theorem inv_faE {off d e : Nat} (hc : compIns P D E L o = some (.faE off d e)) : ∃ t f n agg, o.op = .fieldAddr t (.tmp e) f ∧ fieldOf P t f = some (off, n, agg) ∧ E.lookup e = some d := by
  unfold compIns at hc
  split at hc <;> (repeat' split at hc) <;> simp only [Option.map_eq_some_iff, Option.some.injEq, reduceCtorEq, MI.faE.injEq, and_false, exists_false] at hc
  all_goals (obtain ⟨rfl, rfl, rfl⟩ := hc; exact ⟨_, _, _, _, by assumption, by assumption, by assumption⟩)
theorem inv_stB {n d : Nat} {y : Opd} (hc : compIns P D E L o = some (.stB n d y)) : ∃ t x agg i, o.op = .store t (.tmp d) x ∧ rowOf P t = some (n, agg) ∧ P.info? t = some i ∧ i.size = n ∧ opd x = some y ∧ D.contains d = true := by
  unfold compIns at hc
  split at hc <;> (repeat' split at hc) <;> simp only [Option.map_eq_some_iff, Option.some.injEq, reduceCtorEq, MI.stB.injEq, and_false, exists_false] at hc
  all_goals (obtain ⟨rfl, rfl, rfl⟩ := hc; exact ⟨_, _, _, _, by assumption, by assumption, by assumption, by assumption, by assumption, by assumption⟩)
theorem inv_stE {n d e : Nat} {y : Opd} (hc : compIns P D E L o = some (.stE n d e y)) : ∃ t x agg i, o.op = .store t (.tmp e) x ∧ rowOf P t = some (n, agg) ∧ P.info? t = some i ∧ i.size = n ∧ opd x = some y ∧ E.lookup e = some d := by
  unfold compIns at hc
  split at hc <;> (repeat' split at hc) <;> simp only [Option.map_eq_some_iff, Option.some.injEq, reduceCtorEq, MI.stE.injEq, and_false, exists_false] at hc
  all_goals (obtain ⟨rfl, rfl, rfl, rfl⟩ := hc; exact ⟨_, _, _, _, by assumption, by assumption, by assumption, by assumption, by assumption, by assumption⟩)
theorem inv_st {n : Nat} {x' y : Opd} (hc : compIns P D E L o = some (.st n x' y)) : ∃ t z x agg i, o.op = .store t (.tmp z) x ∧ x' = .t z ∧ rowOf P t = some (n, agg) ∧ P.info? t = some i ∧ i.size = n ∧ opd x = some y := by
  unfold compIns at hc
  split at hc <;> (repeat' split at hc) <;> simp only [Option.map_eq_some_iff, Option.some.injEq, reduceCtorEq, MI.st.injEq, and_false, exists_false] at hc
  all_goals (obtain ⟨rfl, rfl, rfl⟩ := hc; exact ⟨_, _, _, _, _, by assumption, rfl, by assumption, by assumption, by assumption, by assumption⟩)
theorem inv_litL {n sz : Nat} {z : List Value} {ps : List (Nat × Opd)} (hc : compIns P D E L o = some (.litL n sz z ps)) : ∃ t parts e b xs d, o.op = .buildSlice t n parts ∧ elemOf P t = some (e, sz, b, z) ∧ opds (parts.toList.map (·.2)) = some xs ∧ ps = (parts.toList.map (·.1)).zip xs ∧ n * sz ≤ 16777216 ∧ 0 < n ∧ o.dst = some d ∧ L.lookup d = some n := by
  unfold compIns at hc
  split at hc <;> (repeat' split at hc) <;> simp only [Option.map_eq_some_iff, Option.some.injEq, reduceCtorEq, MI.litL.injEq, and_false, exists_false] at hc
  all_goals (obtain ⟨rfl, rfl, rfl, rfl⟩ := hc; rename_i h1; obtain ⟨rfl, h1⟩ := h1; exact ⟨_, _, _, _, _, _, by assumption, by assumption, by assumption, rfl, by assumption, h1, by assumption, by assumption⟩)
theorem inv_call {f : FuncId} {l : List Opd} (hc : compIns P D E L o = some (.call f l)) : ∃ args ts, o.op = .call { callee := .value (.func f), args := args, argTypes := ts } ∧ opds args.toList = some l := by
  unfold compIns at hc
  split at hc <;> (repeat' split at hc) <;> simp only [Option.map_eq_some_iff, Option.some.injEq, reduceCtorEq, MI.call.injEq, and_false, exists_false] at hc
  all_goals (obtain ⟨_, h, rfl, rfl⟩ := hc; exact ⟨_, _, by assumption, h⟩)
theorem litCall_spec {L : List (Nat × Nat)} {xs : List Operand} {ts : List TypeId} {n sz e : Nat} {ty : TypeId} (h : litCall P L xs ts = some (n, sz, ty, e)) : xs = [.tmp e] ∧ L.lookup e = some n := by
  unfold litCall at h
  split at h
  · split at h
    · rename_i h1 h2
      cases h
      exact ⟨rfl, h1⟩
    · cases h
  · cases h
theorem inv_callL {f : FuncId} {n sz e : Nat} {ty : TypeId} (hc : compIns P D E L o = some (.callL f n sz ty e)) : ∃ args ts, o.op = .call { callee := .value (.func f), args := args, argTypes := ts } ∧ args.toList = [.tmp e] ∧ L.lookup e = some n := by
  unfold compIns at hc
  split at hc <;> (repeat' split at hc) <;> simp only [Option.map_eq_some_iff, Option.some.injEq, reduceCtorEq, MI.callL.injEq, and_false, exists_false] at hc
  all_goals (obtain ⟨rfl, rfl, rfl, rfl, rfl⟩ := hc; rename_i h1; exact ⟨_, _, by assumption, litCall_spec h1⟩)
theorem inv_callV {f : Opd} {l : List Opd} (hc : compIns P D E L o = some (.callV f l)) : ∃ ft args ts, f = .t ft ∧ o.op = .call { callee := .value (.tmp ft), args := args, argTypes := ts } ∧ opds args.toList = some l := by
  unfold compIns at hc
  split at hc <;> (repeat' split at hc) <;> simp only [Option.map_eq_some_iff, Option.some.injEq, reduceCtorEq, MI.callV.injEq, and_false, exists_false] at hc
  all_goals (obtain ⟨_, h, rfl, rfl⟩ := hc; exact ⟨_, _, _, rfl, by assumption, h⟩)
end
end Go.Proofs.YthfeahanmbmjhaaGreatDoor.Ab
/- One operation that is taken, whatever it is; one that is not; a region in the text's order. No conditions. -/
namespace Go.Proofs.YthfeahanmbmjhaaGreatDoor.Ab
open Go.RowKit
section
variable {P : Program} {N : Nat} {D : List Nat} {E L : List (Nat × Nat)} {μ0 : Map} {h0 : Heap} {w0 W : World} {lam : Nat → Nat} {μ : Map} {s s' : St} {a : Act} {w : World} {o : Oper} {v : Value} {h' : Heap} {call : FuncId → List Value → Heap → Option (Value × Heap)} {Q : Exit → Act → World → Prop}
theorem unal_spec {al : Nat → Option (Nat × Nat)} {d e d' off : Nat} (h : unal al d e = some (d', off)) : d' ≠ d ∧ al e = some (d', off) := by
  unfold unal at h
  split at h
  · rename_i d2 off2 he
    split at h
    · cases h
    · rename_i hne
      cases h
      exact ⟨hne, he⟩
  · cases h
theorem lookup_isNone {l : List (Nat × Nat)} {d : Nat} (h : (l.lookup d).isNone = true) : l.lookup d = none := Option.isNone_iff_eq_none.1 h
theorem go_newL {z : List Value} {d : Nat} {al' : Nat → Option (Nat × Nat)} (R : Rel N D E L μ0 h0 w0 lam μ s a w) (hc : compIns P D E L o = some (.newL z)) (hd : o.dst = some d) (hk : dstOk D E L N (.newL z) (some d) = true)
    (hal : ∀ e d' off, al' e = some (d', off) → d' ≠ d ∧ s.al e = some (d', off)) : o.wp P a w (Shows N D E L μ0 h0 w0 { s with t := upd s.t d undef, loc := upd s.loc d (some z), al := al' }) Q := by
  obtain ⟨t, n, agg, ho, h1, h2, h3, h4⟩ := inv_newL hc
  simp only [dstOk, Bool.and_eq_true, decide_eq_true_eq] at hk
  obtain ⟨i, zv, z1, z2, z3, z4, z5⟩ := zeroOf_spec h2
  refine wp_value (v' := .pointer (some ⟨w.heap.size, 0, none⟩)) (w' := w.alloc (.cells ⟨z⟩ t)) ?_ ?_
  · simp [execOp, ho, Instr.alloc, zeroValue, typeInfo, z1, z2, newVar, newRow, z3]
  · rw [hd]
    exact ⟨_, μ, R.newLoc hk.2 (.inl ⟨hk.1.1, lookup_isNone hk.1.2, rfl⟩) (All2.prims z5) hal⟩
theorem go_boxL {n d : Nat} {y : Opd} {cs : List Value} (R : Rel N D E L μ0 h0 w0 lam μ s a w) (hc : compIns P D E L o = some (.boxL n y)) (hd : o.dst = some d) (hk : dstOk D E L N (.boxL n y) (some d) = true) (hcs : cellsOf (s.val y) = some cs) :
    o.wp P a w (Shows N D E L μ0 h0 w0 { s with t := upd s.t d undef, loc := upd s.loc d (some cs), al := unal s.al d }) Q := by
  obtain ⟨t, x, agg, ho, h1, h2, h3⟩ := inv_boxL hc
  simp only [dstOk, Bool.and_eq_true, decide_eq_true_eq] at hk
  obtain ⟨ys, e, k⟩ := (eval_opd R.rt h2).cells hcs
  refine wp_value (v' := .pointer (some ⟨w.heap.size, 0, none⟩)) (w' := w.alloc (.cells ⟨ys⟩ t)) ?_ ?_
  · simp [execOp, ho, Instr.box, newVar, newRow, e]
  · rw [hd]
    exact ⟨_, μ, R.newLoc hk.2 (.inl ⟨hk.1.1, lookup_isNone hk.1.2, rfl⟩) k fun _ _ _ h => unal_spec h⟩
theorem go_litL {n sz d : Nat} {z : List Value} {ps : List (Nat × Opd)} {cs : List Value} (R : Rel N D E L μ0 h0 w0 lam μ s a w) (hc : compIns P D E L o = some (.litL n sz z ps)) (hd : o.dst = some d) (hk : dstOk D E L N (.litL n sz z ps) (some d) = true)
    (hcs : fillAt sz (zeros z n) (ps.map fun p => (p.1, s.val p.2)) = some cs) : o.wp P a w (Shows N D E L μ0 h0 w0 { s with t := upd s.t d undef, loc := upd s.loc d (some cs) }) Q := by
  obtain ⟨t, parts, e, b, xs, d', ho, ht, hx, rfl, hn, hn0, hd', hL⟩ := inv_litL hc
  rw [hd] at hd'
  cases hd'
  simp only [dstOk, Bool.and_eq_true, decide_eq_true_eq, Bool.not_eq_true'] at hk
  obtain ⟨cs', k, hrun⟩ := run_lit (w := w) R.rt ht hx hn hn0 hcs
  refine wp_value (v' := .slice (some ⟨w.heap.size, 0, none⟩) n n) (w' := w.alloc (.cells ⟨cs'⟩ e)) ?_ ?_
  · simp [execOp, ho, hrun]
  · rw [hd]
    refine ⟨_, μ, R.newLoc hk.2 (.inr ⟨n, hL, hk.1.1.2, rfl⟩) k fun e' d2 off h => ⟨?_, h⟩⟩
    rintro rfl
    rw [R.alD e' d2 off h] at hk
    simp at hk
theorem go_faB {off d e : Nat} {cs : List Value} (R : Rel N D E L μ0 h0 w0 lam μ s a w) (hc : compIns P D E L o = some (.faB off d)) (hd : o.dst = some e) (hk : dstOk D E L N (.faB off d) (some e) = true) (hl : s.loc d = some cs) :
    o.wp P a w (Shows N D E L μ0 h0 w0 { s with t := upd s.t e undef, al := upd s.al e (some (d, off)) }) Q := by
  obtain ⟨t, f, n, agg, ho, h1, h2⟩ := inv_faB hc
  simp only [dstOk, Bool.and_eq_true, decide_eq_true_eq, Bool.not_eq_true', beq_iff_eq] at hk
  obtain ⟨fs, fd, i, f1, f2, f3, f4, f5, f6, f7⟩ := fieldOf_spec h1
  obtain ⟨_, _, _, _, l6⟩ := R.loc d cs hl
  rcases l6 with ⟨_, _, l6⟩ | ⟨n', _, h, _⟩
  · refine wp_value (v' := .pointer (some ⟨lam d, off, none⟩)) (w' := w) ?_ ?_
    · have h8 : ¬ i.size = 0 := by omega
      have e' : a.eval (.tmp d) = .pointer (some ⟨lam d, 0, none⟩) := l6
      simp [execOp, ho, Instr.fieldAt, run_underlying f1, f2, Instr.sureAddr, e', fieldPlace, run_sizeOf f5, h8, f3, Addr.add_lit]
    · rw [hd]
      exact ⟨lam, μ, R.alias hk.2 hk.1.1.1 hk.1.1.2 hk.1.2 h2⟩
  · rw [h2] at h; cases h
theorem go_faE {off d e e' off' : Nat} {cs : List Value} (R : Rel N D E L μ0 h0 w0 lam μ s a w) (hc : compIns P D E L o = some (.faE off d e)) (hd : o.dst = some e') (hk : dstOk D E L N (.faE off d e) (some e') = true) (hal : s.al e = some (d, off')) (hl : s.loc d = some cs) :
    o.wp P a w (Shows N D E L μ0 h0 w0 { s with t := upd s.t e' undef, al := upd s.al e' (some (d, off' + off)) }) Q := by
  obtain ⟨t, f, n, agg, ho, h1, h2⟩ := inv_faE hc
  simp only [dstOk, Bool.and_eq_true, decide_eq_true_eq, Bool.not_eq_true', beq_iff_eq] at hk
  obtain ⟨fs, fd, i, f1, f2, f3, f4, f5, f6, f7⟩ := fieldOf_spec h1
  obtain ⟨_, _, _, p4, p5⟩ := R.al e d off' hal (by rw [hl]; rfl)
  refine wp_value (v' := .pointer (some ⟨lam d, off' + off, none⟩)) (w' := w) ?_ ?_
  · have h8 : ¬ i.size = 0 := by omega
    have e' : a.eval (.tmp e) = .pointer (some ⟨lam d, off', none⟩) := p5
    simp [execOp, ho, Instr.fieldAt, run_underlying f1, f2, Instr.sureAddr, e', fieldPlace, run_sizeOf f5, h8, f3, Addr.add_lit]
  · rw [hd]
    exact ⟨lam, μ, R.alias hk.2 hk.1.1.1 hk.1.1.2 hk.1.2 p4⟩
theorem go_stB {n d : Nat} {y : Opd} {cs vs : List Value} (R : Rel N D E L μ0 h0 w0 lam μ s a w) (hc : compIns P D E L o = some (.stB n d y)) (hd : o.dst = none) (hl : s.loc d = some cs) (hvs : cellsOf (s.val y) = some vs) (hn : vs.length = n) (hf : n ≤ cs.length) :
    o.wp P a w (Shows N D E L μ0 h0 w0 { s with loc := upd s.loc d (some (putAt cs 0 vs)) }) Q := by
  obtain ⟨t, x, agg, i, ho, h1, h2, h3, h4, h5⟩ := inv_stB hc
  obtain ⟨_, _, _, _, l6⟩ := R.loc d cs hl
  rcases l6 with ⟨_, _, l6⟩ | ⟨n', _, h, _⟩
  · obtain ⟨w', hr, hR⟩ := R.stLoc (P := P) (agg := agg) ho h4 l6 h2 h3 hl hvs hn (by omega)
    refine wp_skip' hr ?_
    rw [hd]
    exact ⟨lam, μ, hR⟩
  · rw [h5] at h; cases h
theorem go_stE {n d e off : Nat} {y : Opd} {cs vs : List Value} (R : Rel N D E L μ0 h0 w0 lam μ s a w) (hc : compIns P D E L o = some (.stE n d e y)) (hd : o.dst = none) (hal : s.al e = some (d, off)) (hl : s.loc d = some cs) (hvs : cellsOf (s.val y) = some vs) (hn : vs.length = n) (hf : off + n ≤ cs.length) :
    o.wp P a w (Shows N D E L μ0 h0 w0 { s with loc := upd s.loc d (some (putAt cs off vs)) }) Q := by
  obtain ⟨t, x, agg, i, ho, h1, h2, h3, h4, h5⟩ := inv_stE hc
  obtain ⟨_, _, _, p4, p5⟩ := R.al e d off hal (by rw [hl]; rfl)
  obtain ⟨w', hr, hR⟩ := R.stLoc (P := P) (agg := agg) ho h4 p5 h2 h3 hl hvs hn hf
  refine wp_skip' hr ?_
  rw [hd]
  exact ⟨lam, μ, hR⟩
theorem go_st {n : Nat} {x' y : Opd} {vs : List Value} (R : Rel N D E L μ0 h0 w0 lam μ s a w) (hc : compIns P D E L o = some (.st n x' y)) (hd : o.dst = none) (hvs : cellsOf (s.val y) = some vs) (hn : vs.length = n) (hst : stC s.h (s.val x') vs = some h') :
    o.wp P a w (Shows N D E L μ0 h0 w0 { s with h := h' }) Q := by
  obtain ⟨t, z, x, agg, i, ho, rfl, h1, h2, h3, h4⟩ := inv_st hc
  obtain ⟨w', hr, μ', hR⟩ : ∃ w', (execOp a.eval o).run P w = .ok .skip w' ∧ ∃ μ', Rel N D E L μ0 h0 w0 lam μ' { s with h := h' } a w' := by
    obtain ⟨w', hr, hR⟩ := R.st (P := P) (x := .tmp z) ho (by simp [opd]) h4 h2 h3 hvs hn hst
    exact ⟨w', hr, μ, hR⟩
  refine wp_skip' hr ?_
  rw [hd]
  exact ⟨lam, μ', hR⟩
/-- Any operation that is taken. -/
theorem go_ok {m : MOp} (hS : SoundC P W call) (hG : Gd W μ0 h0 w0) (R : Rel N D E L μ0 h0 w0 lam μ s a w) (hc : compIns P D E L o = some m.ins) (hk : dstOk D E L N m.ins o.dst = true) (hd : m.dst = o.dst) (hg : m.go call s = some s') : o.wp P a w (Shows N D E L μ0 h0 w0 s') Q := by
  unfold MOp.go at hg
  split at hg
  · rename_i cells hi
    rw [hi] at hc hk
    split at hg
    · rename_i d hmd
      cases hg
      rw [hd] at hmd
      rw [hmd] at hk
      exact go_newL R hc hmd hk fun _ _ _ h => unal_spec h
    · cases hg
  · rename_i n x hi
    rw [hi] at hc hk
    split at hg
    · rename_i d cs hmd hcs
      split at hg
      · cases hg
        rw [hd] at hmd
        rw [hmd] at hk
        exact go_boxL R hc hmd hk hcs
      · cases hg
    · cases hg
  · rename_i off d hi
    rw [hi] at hc hk
    split at hg
    · rename_i e cs hmd hl
      cases hg
      rw [hd] at hmd
      rw [hmd] at hk
      exact go_faB R hc hmd hk hl
    · cases hg
  · rename_i off d e hi
    rw [hi] at hc hk
    split at hg
    · rename_i e' d' off' cs hmd hal hl
      split at hg
      · rename_i hdd
        subst hdd
        cases hg
        rw [hd] at hmd
        rw [hmd] at hk
        exact go_faE R hc hmd hk hal hl
      · cases hg
    · cases hg
  · rename_i n d y hi
    rw [hi] at hc hk
    split at hg
    · rename_i cs vs hmd hl hvs
      split at hg
      · rename_i hcond
        cases hg
        exact go_stB R hc (by rw [← hd]; exact hmd) hl hvs hcond.1 hcond.2
      · cases hg
    · cases hg
  · rename_i n d e y hi
    rw [hi] at hc hk
    split at hg
    · rename_i d' off vs cs hmd hal hvs hl
      split at hg
      · rename_i hcond
        obtain ⟨rfl, h1, h2⟩ := hcond
        cases hg
        exact go_stE R hc (by rw [← hd]; exact hmd) hal hl hvs h1 h2
      · cases hg
    · cases hg
  · rename_i n sz zero parts hi
    rw [hi] at hc hk
    split at hg
    · rename_i e cs hmd hcs
      cases hg
      rw [hd] at hmd
      rw [hmd] at hk
      exact go_litL R hc hmd hk hcs
    · cases hg
  · rename_i n x y hi
    rw [hi] at hc hk
    split at hg
    · rename_i vs hmd hvs
      split at hg
      · rename_i hn
        simp only [Option.map_eq_some_iff] at hg
        obtain ⟨h2, hst, rfl⟩ := hg
        exact go_st R hc (by rw [← hd]; exact hmd) hvs hn hst
      · cases hg
    · cases hg
  · rename_i f args hi
    rw [hi] at hc hk
    simp only [Option.map_eq_some_iff] at hg
    obtain ⟨⟨v, h2⟩, hr, rfl⟩ := hg
    obtain ⟨as, ts, ho, hl⟩ := inv_call hc
    rw [hd]
    refine go_call hS hG R ho hl (fun d hdd => ?_) hr
    rw [hdd] at hk
    simpa [dstOk] using hk
  · rename_i f args hi
    rw [hi] at hc hk
    obtain ⟨ft, as, ts, rfl, ho, hl⟩ := inv_callV hc
    split at hg
    · rename_i g caps hf
      simp only [Option.map_eq_some_iff] at hg
      obtain ⟨⟨v, h2⟩, hr, rfl⟩ := hg
      rw [hd]
      refine go_callV hS hG R ho hl (fun d hdd => ?_) hf hr
      rw [hdd] at hk
      simpa [dstOk] using hk
    · cases hg
  · rename_i f n sz ty e hi
    rw [hi] at hc hk
    obtain ⟨as, ts, ho, hx, hL⟩ := inv_callL hc
    split at hg
    · rename_i cs hl
      split at hg
      · rename_i hn
        simp only [Option.map_eq_some_iff] at hg
        obtain ⟨⟨v, h2⟩, hr, rfl⟩ := hg
        rw [hd]
        refine go_callL hS hG R ho hx hL hl hn (fun d hdd => ?_) hr
        rw [hdd] at hk
        simpa [dstOk] using hk
      · cases hg
    · cases hg
  · simp only [Option.map_eq_some_iff] at hg
    obtain ⟨⟨v, h2⟩, hr, rfl⟩ := hg
    obtain ⟨d, h1, h3, h4⟩ := dstOk_value hk ⟨_, hr⟩
    rw [hd]
    exact go_value R hc h1 h3 h4 hr
/-- A guard, read and run. -/
theorem guard_ok {m : MOp} {ops : Array Oper} (R : Rel N D E L μ0 h0 w0 lam μ s a w) (hg : (o.guard = none ∧ m.guard = none) ∨ ∃ j b g d, o.guard = some (j, b) ∧ ops[j]? = some g ∧ g.dst = some d ∧ m.guard = some (d, b)) {c : Bool} (hw : m.want s = some c) :
    Region.wanted o (yielded ops a.tmps) = c := by
  unfold MOp.want at hw
  unfold Region.wanted
  rcases hg with ⟨h1, h2⟩ | ⟨j, b, g, d, h1, h2, h3, h4⟩
  · rw [h2] at hw
    rw [h1]
    simpa using hw
  · rw [h4] at hw
    rw [h1]
    simp only at hw ⊢
    have kd := R.rt.t d
    have hy : yielded ops a.tmps j = match a.tmps[d]? with | some (.bool b) => some b | _ => none := by
      simp only [yielded, h2, h3, Option.bind_some]
      rfl
    have hgd : a.tmps.getD d undef = (a.tmps[d]?).getD undef := by simp [Array.getD_eq_getD_getElem?]
    rw [hy]
    split at hw
    · rename_i c' hc'
      rw [hc'] at kd
      have := kd.bool
      rw [hgd] at this
      cases hq : a.tmps[d]? with
      | none => rw [hq] at this; cases this
      | some u =>
        rw [hq] at this
        simp only [Option.getD_some] at this
        subst this
        simpa using hw
    · rename_i hc'
      rw [hc'] at kd
      have hu : a.tmps.getD d undef = undef := by
        generalize a.tmps.getD d undef = u at kd
        cases kd with
        | gone => rfl
        | val _ _ k => cases k with
          | one _ _ k => cases k with
            | base _ _ k => cases k with
              | prim _ hp => simp [Ab.prim] at hp
      rw [hgd] at hu
      cases hw
      cases hq : a.tmps[d]? with
      | none => rfl
      | some u =>
        rw [hq] at hu
        simp only [Option.getD_some] at hu
        subst hu
        rfl
    · cases hw
/-- The operation 'o' has been read as 'm'. -/
structure Read1 (P : Program) (N : Nat) (D : List Nat) (E L : List (Nat × Nat)) (ops : Array Oper) (o : Oper) (m : MOp) : Prop where
  ins : compIns P D E L o = some m.ins
  dst : dstOk D E L N m.ins o.dst = true
  same : m.dst = o.dst
  guard : (o.guard = none ∧ m.guard = none) ∨ ∃ j b g d, o.guard = some (j, b) ∧ ops[j]? = some g ∧ g.dst = some d ∧ m.guard = some (d, b)
theorem compOp_read {ops : Array Oper} {m : MOp} (h : compOp P D E L N ops.toList o = some m) : Read1 P N D E L ops o m := by
  unfold compOp at h
  split at h
  · rename_i i hi
    split at h
    · rename_i hk
      split at h
      · rename_i hg
        cases h
        exact ⟨hi, hk, rfl, .inl ⟨hg, rfl⟩⟩
      · rename_i j b hg
        split at h
        · rename_i g hj
          split at h
          · rename_i d hd
            split at h
            · cases h
              exact ⟨hi, hk, rfl, .inr ⟨j, b, g, d, hg, by simpa using hj, hd, rfl⟩⟩
            · cases h
          · cases h
        · cases h
    · cases h
  · cases h
theorem dst_lt {i : MI} (h : dstOk D E L N i o.dst = true) : ∀ d, o.dst = some d → d < N := by
  intro d hd
  rw [hd] at h
  cases i <;> simp only [dstOk, Bool.and_eq_true, decide_eq_true_eq, Bool.false_eq_true] at h <;> first | exact h.2 | (split at h <;> simp_all)
theorem compOps_get {ops : List Oper} : ∀ {l : List Oper} {ms : List MOp}, compOps P D E L N ops l = some ms → ms.length = l.length ∧ ∀ (j : Nat) (o : Oper), l[j]? = some o → ∃ m, ms[j]? = some m ∧ compOp P D E L N ops o = some m
  | [], ms, h => by simp [compOps] at h; subst h; exact ⟨rfl, fun j o hj => by simp at hj⟩
  | o :: l, ms, h => by
    simp only [compOps] at h
    split at h
    · rename_i m ms' h1 h2
      cases h
      obtain ⟨g1, g2⟩ := compOps_get h2
      refine ⟨by simp [g1], fun j o' hj => ?_⟩
      cases j with
      | zero => simp at hj; subst hj; exact ⟨m, rfl, h1⟩
      | succ j => simp at hj; obtain ⟨m', q1, q2⟩ := g2 j o' hj; exact ⟨m', by simpa using q1, q2⟩
    · cases h
/-- A region in the text's order. -/
theorem list_ok (hS : SoundC P W call) (hG : Gd W μ0 h0 w0) {ops : Array Oper} {K : Act → World → Prop} : ∀ (l : List Oper) (ms : List MOp) (s : St) (a : Act) (w : World), ms.length = l.length → (∀ (j : Nat) (o : Oper), l[j]? = some o → ∃ m, ms[j]? = some m ∧ Read1 P N D E L ops o m) →
    Shows N D E L μ0 h0 w0 s a w → runOps call ms s = some s' → (∀ a' w', Shows N D E L μ0 h0 w0 s' a' w' → Q .normal a' w') → wpList P ops Q l a w
  | [], ms, s, a, w, hl, _, hR, hr, hk => by
    have : ms = [] := List.eq_nil_of_length_eq_zero hl
    subst this
    simp only [runOps, Option.some.injEq] at hr
    subst hr
    exact hk _ _ hR
  | o :: l, ms, s, a, w, hl, hm, hR, hr, hk => by
    obtain ⟨m, hm0, hrd⟩ := hm 0 o rfl
    cases ms with
    | nil => simp at hl
    | cons m' ms =>
      simp only [List.getElem?_cons_zero, Option.some.injEq] at hm0
      subst hm0
      simp only [runOps, Option.bind_eq_some_iff] at hr
      obtain ⟨s1, h1, h2⟩ := hr
      have ih := fun a w (hR : Shows N D E L μ0 h0 w0 s1 a w) => list_ok hS hG (K := K) l ms s1 a w (by simpa using hl) (fun j o' hj => by
        obtain ⟨m2, q1, q2⟩ := hm (j + 1) o' (by simpa using hj)
        exact ⟨m2, by simpa using q1, q2⟩) hR h2 hk
      obtain ⟨lam, μ, R⟩ := hR
      unfold MOp.step at h1
      simp only [wpList]
      split at h1
      · rename_i hw
        rw [guard_ok R hrd.guard hw, if_pos rfl]
        exact .inl (Oper.wp_mono (fun a w h => ih a w h) (go_ok hS hG R hrd.ins hrd.dst hrd.same h1))
      · rename_i hw
        rw [guard_ok R hrd.guard hw, if_neg (by simp)]
        cases h1
        refine ih _ _ ⟨lam, μ, ?_⟩
        rw [← hrd.same]
        exact R.skip (fun d hd => dst_lt hrd.dst d (by rw [← hrd.same]; exact hd))
      · cases h1
end
end Go.Proofs.YthfeahanmbmjhaaGreatDoor.Ab
/- Code, and a function: what the small language says is what the machine does. No conditions. -/
namespace Go.Proofs.YthfeahanmbmjhaaGreatDoor.Ab
open Go.RowKit
section
variable {P : Program} {N : Nat} {D : List Nat} {E L : List (Nat × Nat)} {μ0 : Map} {h0 : Heap} {w0 W : World} {lam : Nat → Nat} {μ : Map} {s s' : St} {a : Act} {w : World} {call : FuncId → List Value → Heap → Option (Value × Heap)}
theorem Rel.close (R : Rel N D E L μ0 h0 w0 lam μ s a w) : Rel N D E L μ0 h0 w0 lam μ s.close a w :=
  ⟨⟨R.rt.size, R.rt.t⟩, R.hr, R.to, R.loc, R.locs, (fun _ _ _ h => by cases h), (fun _ _ _ h => by cases h), R.dfr⟩
theorem Shows.close (h : Shows N D E L μ0 h0 w0 s a w) : Shows N D E L μ0 h0 w0 s.close a w := let ⟨l, m, R⟩ := h; ⟨l, m, R.close⟩
theorem Rel.keep (R : Rel N D E L μ0 h0 w0 lam μ s a w) (l : List Nat) : Rel N D E L μ0 h0 w0 lam μ (s.keep l) a w := by
  have hl : ∀ {d cs}, (s.keep l).loc d = some cs → s.loc d = some cs := fun {d cs} h => by
    simp only [St.keep] at h
    split at h
    · exact h
    · cases h
  refine ⟨⟨R.rt.size, fun i => ?_⟩, R.hr, R.to, fun d cs h => R.loc d cs (hl h), fun d d' cs cs' h h' => R.locs d d' cs cs' (hl h) (hl h'), (fun _ _ _ h => by cases h), (fun _ _ _ h => by cases h), R.dfr⟩
  simp only [St.keep]
  split
  · exact R.rt.t i
  · exact .dead _
theorem Shows.keep (h : Shows N D E L μ0 h0 w0 s a w) (g : List Nat) : Shows N D E L μ0 h0 w0 (s.keep g) a w := let ⟨l, m, R⟩ := h; ⟨l, m, R.keep g⟩
/-- What is owed of the regions whose order is open. -/
def FreeOk (P : Program) (W : World) (N : Nat) (D : List Nat) (E L : List (Nat × Nat)) (call : FuncId → List Value → Heap → Option (Value × Heap)) : Prop :=
  ∀ (μ0 : Map) (h0 : Heap) (w0 : World), Gd W μ0 h0 w0 → ∀ (id : Nat) (ops : Array Oper) (ms l : List MOp) (s s' : St) (a : Act) (w : World), compOps P D E L N ops.toList ops.toList = some ms → ((freeOk E ops.toList ms = true ∧ l = ms) ∨ (lateOk E ops.toList ms = true ∧ l = lateOps ops.toList ms)) → P.follows .mixedOrders = true →
    runFree call (lastOk ops.toList ms) s.h l s = some s' → s.al = (fun _ => none) → Shows N D E L μ0 h0 w0 s a w → (Code.region id ops true).wp P (fun e a' w' => e = .normal ∧ Shows N D E L μ0 h0 w0 s' a' w') a w
/-- What is owed of the regions whose looks may see more than one memory. -/
def OpnOk (P : Program) (W : World) (N : Nat) (D : List Nat) (E L : List (Nat × Nat)) (call : FuncId → List Value → Heap → Option (Value × Heap)) : Prop :=
  ∀ (μ0 : Map) (h0 : Heap) (w0 : World), Gd W μ0 h0 w0 → ∀ (id : Nat) (ops : Array Oper) (ms : List MOp) (s s' : St) (a : Act) (w : World), compOps P D E L N ops.toList ops.toList = some ms → opnOk E ops.toList ms = true → P.follows .mixedOrders = true →
    runOpn call (opnOps ops.toList ms (opnIdx ops.toList ms)) [s.h] s = some s' → s.al = (fun _ => none) → Shows N D E L μ0 h0 w0 s a w → (Code.region id ops true).wp P (fun e a' w' => e = .normal ∧ Shows N D E L μ0 h0 w0 s' a' w') a w
/-- Between regions no alias is left. -/
def Clean (s : St) : Prop := s.al = fun _ => none
theorem exec_clean {n : Nat} : ∀ (ir : IR) (s : St) (e : Exit) (s' : St), Clean s → exec call n ir s = some (e, s') → Clean s'
  | .skip, s, e, s', hs, h => by simp only [exec, Option.some.injEq, Prod.mk.injEq] at h; rw [← h.2]; exact hs
  | .ops l, s, e, s', hs, h => by
    simp only [exec, Option.map_eq_some_iff, Prod.mk.injEq] at h
    obtain ⟨s1, _, _, rfl⟩ := h
    rfl
  | .free b l, s, e, s', hs, h => by
    simp only [exec, Option.map_eq_some_iff, Prod.mk.injEq] at h
    obtain ⟨s1, _, _, rfl⟩ := h
    rfl
  | .opn l, s, e, s', hs, h => by
    simp only [exec, Option.map_eq_some_iff, Prod.mk.injEq] at h
    obtain ⟨s1, _, _, rfl⟩ := h
    rfl
  | .seq x y, s, e, s', hs, h => by
    simp only [exec] at h
    split at h
    · rename_i s1 h1
      exact exec_clean y s1 e s' (exec_clean x s .normal s1 hs h1) h
    · exact exec_clean x s e s' hs h
  | .cond c x y, s, e, s', hs, h => by
    simp only [exec] at h
    split at h
    · split at h
      · exact exec_clean x s e s' hs h
      · exact exec_clean y s e s' hs h
    · cases h
  | .block id x, s, e, s', hs, h => by
    simp only [exec] at h
    split at h
    · rename_i id' s1 h1
      have := exec_clean x s _ s1 hs h1
      split at h <;> (simp only [Option.some.injEq, Prod.mk.injEq] at h; rw [← h.2]; exact this)
    · exact exec_clean x s e s' hs h
  | .loop x, s, e, s', hs, h => by
    simp only [exec] at h
    have key : ∀ m s, Clean s → iter (exec call n x) m s = some (e, s') → Clean s' := by
      intro m
      induction m with
      | zero => intro s _ h; simp [iter] at h
      | succ m ih =>
        intro s hs h
        simp only [iter] at h
        split at h
        · rename_i s1 h1
          exact ih s1 (exec_clean x s .normal s1 hs h1) h
        · exact exec_clean x s e s' hs h
    exact key n s hs h
  | .exit id, s, e, s', hs, h => by simp only [exec, Option.some.injEq, Prod.mk.injEq] at h; rw [← h.2]; exact hs
  | .ret, s, e, s', hs, h => by simp only [exec, Option.some.injEq, Prod.mk.injEq] at h; rw [← h.2]; exact hs
  | .keep l, s, e, s', hs, h => by simp only [exec, Option.some.injEq, Prod.mk.injEq] at h; rw [← h.2]; rfl
theorem exec_ok {ob : Bool} (hS : SoundC P W call) (hG : Gd W μ0 h0 w0) (hF : FreeOk P W N D E L call) (hO : OpnOk P W N D E L call) (n : Nat) : ∀ (c : Code) (ir0 ir : IR), compCode ob P D E L N c = some ir0 → Kp ir0 ir → ∀ (s : St) (e : Exit) (s' : St), Clean s → exec call n ir s = some (e, s') →
    ∀ (a : Act) (w : World), Shows N D E L μ0 h0 w0 s a w → c.wp P (fun e2 a' w' => e2 = e ∧ Shows N D E L μ0 h0 w0 s' a' w') a w := by
  intro c
  induction c with
  | skip =>
    intro ir0 ir hc hk s e s' hs he a w hR
    simp only [compCode, Option.some.injEq] at hc
    subst hc
    cases hk
    simp only [exec, Option.some.injEq, Prod.mk.injEq] at he
    obtain ⟨rfl, rfl⟩ := he
    exact wp_skip ⟨rfl, hR⟩
  | region id ops draw =>
    intro ir0 ir hc hk s e s' hs he a w hR
    simp only [compCode] at hc
    split at hc
    · rename_i ms hms
      split at hc
      · rename_i hd
        by_cases ho : (ob && !lastOk ops.toList ms && opnOk E ops.toList ms && P.follows .mixedOrders) = true
        · rw [if_pos ho] at hc
          simp only [Bool.and_eq_true] at ho
          cases hc
          cases hk with
          | opn0 =>
            simp only [exec, Option.map_eq_some_iff, Prod.mk.injEq] at he
            obtain ⟨s1, h1, rfl, rfl⟩ := he
            subst hd
            exact wp_mono (hO μ0 h0 w0 hG id ops ms s s1 a w hms ho.1.2 ho.2 h1 hs hR) fun e a w h => ⟨h.1, h.2.close⟩
          | opn _ g =>
            simp only [exec] at he
            cases hr : runOpn call (opnOps ops.toList ms (opnIdx ops.toList ms)) [s.h] s with
            | none => rw [hr] at he; cases he
            | some s1 =>
            rw [hr] at he
            simp only [Option.map_some, Option.some.injEq, Prod.mk.injEq] at he
            obtain ⟨rfl, rfl⟩ := he
            subst hd
            exact wp_mono (hO μ0 h0 w0 hG id ops ms s s1 a w hms ho.1.2 ho.2 hr hs hR) fun e a w h => ⟨h.1, h.2.close.keep g⟩
        rw [if_neg ho] at hc
        obtain ⟨l, hf, hfm, hc⟩ : ∃ l, ((freeOk E ops.toList ms = true ∧ l = ms) ∨ (lateOk E ops.toList ms = true ∧ l = lateOps ops.toList ms)) ∧ P.follows .mixedOrders = true ∧ some (IR.free (lastOk ops.toList ms) l) = some ir0 := by
          split at hc
          · rename_i hf
            simp only [Bool.and_eq_true] at hf
            exact ⟨ms, .inl ⟨hf.1, rfl⟩, hf.2, hc⟩
          · split at hc
            · rename_i hf
              simp only [Bool.and_eq_true] at hf
              exact ⟨_, .inr ⟨hf.1, rfl⟩, hf.2, hc⟩
            · cases hc
        cases hc
        cases hk with
        | free0 =>
          simp only [exec, Option.map_eq_some_iff, Prod.mk.injEq] at he
          obtain ⟨s1, h1, rfl, rfl⟩ := he
          subst hd
          exact wp_mono (hF μ0 h0 w0 hG id ops ms l s s1 a w hms hf hfm h1 hs hR) fun e a w h => ⟨h.1, h.2.close⟩
        | free _ _ g =>
          simp only [exec] at he
          cases hr : runFree call (lastOk ops.toList ms) s.h l s with
          | none => rw [hr] at he; cases he
          | some s1 =>
          rw [hr] at he
          simp only [Option.map_some, Option.some.injEq, Prod.mk.injEq] at he
          obtain ⟨rfl, rfl⟩ := he
          subst hd
          exact wp_mono (hF μ0 h0 w0 hG id ops ms l s s1 a w hms hf hfm hr hs hR) fun e a w h => ⟨h.1, h.2.close.keep g⟩
      · rename_i hd
        cases hc
        cases hk with
        | ops0 =>
        simp only [exec, Option.map_eq_some_iff, Prod.mk.injEq] at he
        obtain ⟨s1, h1, rfl, rfl⟩ := he
        obtain ⟨g1, g2⟩ := compOps_get hms
        have hdf : draw = false := by simpa using hd
        subst hdf
        refine wp_region_list (list_ok (K := fun _ _ => True) hS hG ops.toList ms s a w g1 (fun j o hj => ?_) hR h1 fun a' w' h => ⟨rfl, h.close⟩)
        obtain ⟨m, q1, q2⟩ := g2 j o hj
        exact ⟨m, q1, compOp_read q2⟩
        | ops _ g =>
        simp only [exec] at he
        cases h1 : runOps call ms s with
        | none => rw [h1] at he; cases he
        | some s1 =>
        rw [h1] at he
        simp only [Option.map_some, Option.some.injEq, Prod.mk.injEq] at he
        obtain ⟨rfl, rfl⟩ := he
        obtain ⟨g1, g2⟩ := compOps_get hms
        have hdf : draw = false := by simpa using hd
        subst hdf
        refine wp_region_list (list_ok (K := fun _ _ => True) hS hG ops.toList ms s a w g1 (fun j o hj => ?_) hR h1 fun a' w' h => ⟨rfl, h.close.keep g⟩)
        obtain ⟨m, q1, q2⟩ := g2 j o hj
        exact ⟨m, q1, compOp_read q2⟩
    · cases hc
  | seq x y ihx ihy =>
    intro ir0 ir hc hk s e s' hs he a w hR
    simp only [compCode] at hc
    split at hc
    · rename_i ix0 iy0 hx hy
      cases hc
      cases hk with
      | @seq _ _ ix iy kx ky =>
      simp only [exec] at he
      refine wp_seq ?_
      split at he
      · rename_i s1 h1
        refine wp_mono (ihx ix0 ix hx kx s .normal s1 hs h1 a w hR) fun e2 a2 w2 h => ?_
        obtain ⟨rfl, h⟩ := h
        exact ihy iy0 iy hy ky s1 e s' (exec_clean _ _ _ _ hs h1) he a2 w2 h
      · rename_i hne
        cases hr : exec call n ix s with
        | none => rw [hr] at he; cases he
        | some r =>
          obtain ⟨e1, s1⟩ := r
          rw [hr] at he
          cases he
          refine wp_mono (ihx ix0 ix hx kx s e s' hs hr a w hR) fun e2 a2 w2 h => ?_
          obtain ⟨rfl, h⟩ := h
          cases e2 with
          | normal => exact absurd hr (hne _)
          | _ => exact ⟨rfl, h⟩
    · cases hc
  | cond c x y ihx ihy =>
    intro ir0 ir hc hk s e s' hs he a w hR
    simp only [compCode] at hc
    split at hc
    · rename_i c' ix0 iy0 hc' hx hy
      cases hc
      cases hk with
      | @cond _ _ _ ix iy kx ky =>
      simp only [exec] at he
      split at he
      · rename_i b hb
        obtain ⟨lam, μ, R⟩ := hR
        have hv := eval_opd R.rt hc'
        rw [hb] at hv
        refine wp_cond hv.bool ?_
        split at he
        · rename_i ht
          rw [ht]
          exact ihx ix0 ix hx kx s e s' hs he a w ⟨lam, μ, R⟩
        · rename_i ht
          rw [if_neg ht]
          exact ihy iy0 iy hy ky s e s' hs he a w ⟨lam, μ, R⟩
      · cases he
    · cases hc
  | block id x ih =>
    intro ir0 ir hc hk s e s' hs he a w hR
    simp only [compCode, Option.map_eq_some_iff] at hc
    obtain ⟨ix0, hx, rfl⟩ := hc
    cases hk with
    | @block _ _ ix kx =>
    simp only [exec] at he
    refine wp_block ?_
    split at he
    · rename_i id' s1 h1
      refine wp_mono (ih ix0 ix hx kx s _ s1 hs h1 a w hR) fun e2 a2 w2 h => ?_
      obtain ⟨rfl, h⟩ := h
      show (if id' = id then _ else _)
      split at he
      · rename_i hid
        rw [if_pos hid]
        cases he
        exact ⟨rfl, h⟩
      · rename_i hid
        rw [if_neg hid]
        cases he
        exact ⟨rfl, h⟩
    · rename_i hne
      cases hr : exec call n ix s with
      | none => rw [hr] at he; cases he
      | some r =>
        obtain ⟨e1, s1⟩ := r
        rw [hr] at he
        cases he
        refine wp_mono (ih ix0 ix hx kx s e s' hs hr a w hR) fun e2 a2 w2 h => ?_
        obtain ⟨rfl, h⟩ := h
        cases e2 with
        | exit id' => exact absurd hr (hne _ _)
        | _ => exact ⟨rfl, h⟩
  | loop x ih =>
    intro ir0 ir hc hk s e s' hs he a w hR
    simp only [compCode, Option.map_eq_some_iff] at hc
    obtain ⟨ix0, hx, rfl⟩ := hc
    cases hk with
    | @loop _ ix kx =>
    simp only [exec] at he
    have key : ∀ m s a w, Clean s → Shows N D E L μ0 h0 w0 s a w → iter (exec call n ix) m s = some (e, s') → Code.rounds P x (fun e2 a' w' => e2 = e ∧ Shows N D E L μ0 h0 w0 s' a' w') m a w := by
      intro m
      induction m with
      | zero => intro s a w _ _ h; simp [iter] at h
      | succ m ihm =>
        intro s a w hs hR h
        simp only [iter] at h
        split at h
        · rename_i s1 h1
          refine wp_mono (ih ix0 ix hx kx s .normal s1 hs h1 a w hR) fun e2 a2 w2 h' => ?_
          obtain ⟨rfl, h'⟩ := h'
          exact ihm s1 a2 w2 (exec_clean _ _ _ _ hs h1) h' h
        · rename_i hne
          refine wp_mono (ih ix0 ix hx kx s e s' hs h a w hR) fun e2 a2 w2 h' => ?_
          obtain ⟨rfl, h'⟩ := h'
          cases e2 with
          | normal => exact absurd h (hne _)
          | _ => exact ⟨rfl, h'⟩
    exact wp_loop_rounds n (key n s a w hs hR he)
  | exit id =>
    intro ir0 ir hc hk s e s' hs he a w hR
    simp only [compCode, Option.some.injEq] at hc
    subst hc
    cases hk
    simp only [exec, Option.some.injEq, Prod.mk.injEq] at he
    obtain ⟨rfl, rfl⟩ := he
    exact wp_exit ⟨rfl, hR⟩
  | ret =>
    intro ir0 ir hc hk s e s' hs he a w hR
    simp only [compCode, Option.some.injEq] at hc
    subst hc
    cases hk
    simp only [exec, Option.some.injEq, Prod.mk.injEq] at he
    obtain ⟨rfl, rfl⟩ := he
    exact wp_ret ⟨rfl, hR⟩
  | _ => intro ir0 ir hc; simp [compCode] at hc
end
end Go.Proofs.YthfeahanmbmjhaaGreatDoor.Ab
/- A function of the small language, and the machine's. No conditions. -/
namespace Go.Proofs.YthfeahanmbmjhaaGreatDoor.Ab
open Go.RowKit
section
variable {P : Program} {N : Nat} {D : List Nat} {E L : List (Nat × Nat)} {μ0 : Map} {h0 : Heap} {w0 W : World} {lam : Nat → Nat} {μ : Map} {s s' : St} {a : Act} {w : World} {call : FuncId → List Value → Heap → Option (Value × Heap)}
/-- Each function of the table is a loaded one, read. -/
def TabOk (P : Program) (T : FuncId → Option Fun) : Prop := ∀ f F, T f = some F → ∃ fn ob, P.funcs[f]? = some fn ∧ compFun ob P fn = some F.bare
theorem compFun_spec {ob : Bool} {fn : Func} {F : Fun} (h : compFun ob P fn = some F.bare) : ∃ c ir0, fn.body = some c ∧ compCode ob P (boxesOf fn c) (aliasesOf (boxesOf fn c) c) (litsOf fn c) fn.ntmps c = some ir0 ∧ Kp ir0 F.body ∧
    fn.results.toList.mapM (compRes P (boxesOf fn c) (aliasesOf (boxesOf fn c) c) (litsOf fn c)) = some F.res ∧ F.np ≤ fn.ntmps ∧ (fn.name == "runtime.NumGoroutine") = false := by
  unfold compFun at h
  split at h
  · rename_i c hc
    simp only at h
    split at h
    · rename_i ir rs h1 h2
      split at h
      · rename_i h3
        simp only [Fun.bare, Option.some.injEq, Fun.mk.injEq] at h
        obtain ⟨e1, e2, e3⟩ := h
        exact ⟨c, ir, hc, h1, by rw [e2]; exact strip_kp _, by rw [h2, e3], by rw [← e1]; exact h3.1, h3.2⟩
      · cases h
    · cases h
  · cases h
theorem enter_ok {f : FuncId} {fn : Func} (hf : P.funcs[f]? = some fn) (hn : (fn.name == "runtime.NumGoroutine") = false) {c : Code} (hb : fn.body = some c) (args : Array Value) (w : World) : (callFunc f args).run P w = .ok (.enter f args) w := by
  simp only [callFunc, Sem.run_bind, run_program, Result.andThen_ok, hf, hn, hb]
  simp
/-- One result. -/
theorem res_ok {rv : ResultVar} {r : Res} {v : Value} (R : Rel N D E L μ0 h0 w0 lam μ s a w) (hc : compRes P D E L rv = some r) (hg : r.get s = some v) :
    ∃ v', (match rv with | .tmp t => pure (a.tmps.getD t undef) | .cell x t => do loadVar t (← asAddr (a.tmps.getD x undef)) : Sem Value).run P w = .ok v' w ∧ VR μ s.h v v' := by
  cases rv with
  | tmp t =>
    simp only [compRes] at hc
    split at hc
    · cases hc
      simp only [Res.get, Option.some.injEq] at hg
      subst hg
      exact ⟨_, by simp, R.rt.t t⟩
    · cases hc
  | cell x t =>
    simp only [compRes] at hc
    split at hc
    · rename_i n agg hro
      split at hc
      · rename_i hD
        cases hc
        simp only [Res.get] at hg
        split at hg
        · rename_i cs hl
          split at hg
          · rename_i hn
            obtain ⟨_, _, _, _, l6⟩ := R.loc x cs hl
            rcases l6 with ⟨_, _, l6⟩ | ⟨_, _, h, _⟩
            · obtain ⟨ys, k, hcl⟩ := R.locCells hl (off := 0) (n := n) (by omega)
              obtain ⟨u', h1, h2⟩ := run_loadVar (P := P) (w := w) hro _ (by simp; omega) k hcl (by simpa using hg)
              refine ⟨u', ?_, h2⟩
              simp [l6, asAddr, h1]
            · rw [hD] at h; cases h
          · cases hg
        · cases hg
      · cases hc
    · cases hc
theorem mapM_cons_some {α β : Type} {f : α → Option β} {x : α} {xs : List α} {ys : List β} (h : (x :: xs).mapM f = some ys) : ∃ y ys', ys = y :: ys' ∧ f x = some y ∧ xs.mapM f = some ys' := by
  simp only [List.mapM_cons, Option.bind_eq_bind, Option.bind_eq_some_iff, Option.pure_def, Option.some.injEq] at h
  obtain ⟨y, hy, ys', hys, rfl⟩ := h
  exact ⟨y, ys', rfl, hy, hys⟩
theorem ress_ok (R : Rel N D E L μ0 h0 w0 lam μ s a w) : ∀ (rvs : List ResultVar) (rs : List Res) (vs : List Value), rvs.mapM (compRes P D E L) = some rs → rs.mapM (Res.get s) = some vs →
    ∃ vs', (rvs.mapM fun rv => (match rv with | .tmp t => pure (a.tmps.getD t undef) | .cell x t => do loadVar t (← asAddr (a.tmps.getD x undef)) : Sem Value)).run P w = .ok vs' w ∧ All2 (VR μ s.h) vs vs'
  | [], rs, vs, h1, h2 => by
    simp at h1
    subst h1
    simp at h2
    subst h2
    exact ⟨[], by simp, All2.nil⟩
  | rv :: rvs, rs, vs, h1, h2 => by
    obtain ⟨r, rs', rfl, g1, g2⟩ := mapM_cons_some h1
    obtain ⟨v, vs', rfl, g3, g4⟩ := mapM_cons_some h2
    obtain ⟨v', e1, k1⟩ := res_ok R g1 g3
    obtain ⟨us, e2, k2⟩ := ress_ok R rvs rs' vs' g2 g4
    refine ⟨v' :: us, ?_, All2.cons k1 k2⟩
    rw [List.mapM_cons, Sem.run_bind, e1]
    simp only [Result.andThen_ok, Sem.run_bind, e2, Sem.run_pure]
theorem VRA.of_live {h : Heap} {v v' : Value} (k : VR μ h v v') (hl : live v = true) : VRA μ h v v' := by
  cases k with
  | dead => simp [live, undef] at hl
  | gone => simp [live] at hl
  | val _ _ k => exact k
  | tup => simp [live] at hl
theorem results_ok {fn : Func} {F : Fun} {v : Value} (R : Rel N D E L μ0 h0 w0 lam μ s a w) (hc : fn.results.toList.mapM (compRes P D E L) = some F.res) (hg : results1 s F.res = some v) : ∃ v', (results fn a.tmps).run P w = .ok v' w ∧ VR μ s.h v v' := by
  unfold results1 at hg
  cases hm : F.res.mapM (Res.get s) with
  | none => rw [hm] at hg; cases hg
  | some vs =>
    obtain ⟨vs', e1, k⟩ := ress_ok R fn.results.toList F.res vs hc hm
    have hrun : (fn.results.mapM fun rv => (match rv with | .tmp t => pure (a.tmps.getD t undef) | .cell x t => do loadVar t (← asAddr (a.tmps.getD x undef)) : Sem Value)).run P w = .ok vs'.toArray w := by
      rw [Array.mapM_eq_mapM_toList, Sem.run_map, e1]
      rfl
    have hres : (results fn a.tmps).run P w = .ok (if h : vs'.toArray.size = 1 then vs'.toArray[0] else .tuple vs'.toArray) w := by
      unfold results
      rw [Sem.run_bind]
      refine (congrArg (fun r => Result.andThen r (fun vs w' => (pure (if h : vs.size = 1 then vs[0] else .tuple vs) : Sem Value).run P w')) hrun).trans ?_
      simp
    rw [hm] at hg
    have hlen := k.1
    split at hg
    · rename_i u hu
      cases hu
      split at hg
      · cases hg
        obtain ⟨u', hu', ku⟩ := k.get (i := 0) rfl
        obtain ⟨z, rfl⟩ := List.length_eq_one_iff.1 hlen.symm
        simp at hu'
        subst hu'
        exact ⟨z, by rw [hres]; simp, ku⟩
      · cases hg
    · rename_i us hne hu
      cases hu
      split at hg
      · rename_i hall
        cases hg
        refine ⟨.tuple ⟨vs'⟩, ?_, .tup _ _ ⟨k.1, fun i x y hx hy => VRA.of_live (k.2 i x y hx hy) (by rw [List.all_eq_true] at hall; exact hall x (List.mem_of_getElem? hx))⟩⟩
        rw [hres, dif_neg]
        simp only [List.size_toArray]
        rw [← k.1]
        intro h1
        match vs, h1, hne with
        | [u], _, hne => exact hne u rfl
      · cases hg
    · cases hg
/-- What lies behind the first blocks may be forgotten, where the answer is flat. -/
theorem VR0.back {h t : Heap} {μ' : Map} {v v0 v' : Value} (k0 : VR0 μ h v v0) (k : VR0 μ' (h ++ t) v v') : VR0 μ' h v v' := by
  cases k0 with
  | hollow A =>
    cases k with
    | prim _ hp => exact .prim _ hp
    | hollow A' => exact .hollow A'
  | prim _ hp =>
    cases k with
    | prim _ _ => exact .prim _ hp
    | hollow A' => exact .hollow A'
    | sl => simp [Ab.prim] at hp
    | ptr => simp [Ab.prim] at hp
  | sl b off len cap _ blk hb _ _ _ _ =>
    cases k with
    | prim _ hp => simp [Ab.prim] at hp
    | sl _ _ _ _ _ blk' hb' h1 h2 h3 h4 =>
      rw [List.getElem?_append_left (lt_of_get hb)] at hb'
      exact .sl _ _ _ _ _ blk' hb' h1 h2 h3 h4
  | ptr b off Ln _ blk hb _ _ _ =>
    cases k with
    | prim _ hp => simp [Ab.prim] at hp
    | ptr _ _ _ _ blk' hb' h1 h2 h3 =>
      rw [List.getElem?_append_left (lt_of_get hb)] at hb'
      exact .ptr _ _ _ _ blk' hb' h1 h2 h3
theorem VR1.back {h t : Heap} {μ' : Map} {v v0 v' : Value} (k0 : VR1 μ h v v0) (k : VR1 μ' (h ++ t) v v') : VR1 μ' h v v' := by
  cases k0 with
  | base _ _ k0 =>
    cases k with
    | base _ _ k => exact .base _ _ (k0.back k)
    | fn f xs ys k => cases k0 with
      | prim _ hp => simp [Ab.prim] at hp
  | fn f xs zs k0 =>
    generalize e : (Value.func f #[] ⟨xs⟩) = u at k
    cases k with
    | base _ _ k => subst e; cases k with
      | prim _ hp => simp [Ab.prim] at hp
    | fn f' xs' ys k =>
      injection e with e1 _ e2
      subst e1
      have e2' : xs = xs' := by simpa using congrArg Array.toList e2
      subst e2'
      refine .fn f xs ys ⟨k.1, fun i x y hx hy => ?_⟩
      obtain ⟨z, hz, kz⟩ := k0.get hx
      exact kz.back (k.2 i x y hx hy)
theorem VR.flat {h h2 : Heap} {μ' : Map} {v v' : Value} (hf : flat v = true) (k : VR μ' h v v') : VR μ h2 v v' := by
  have hprim : ∀ {x x' : Value}, prim x = true → VR1 μ' h x x' → VR1 μ h2 x x' := by
    intro x x' hp k
    cases k with
    | base _ _ k => cases k with
      | prim _ hp => exact .base _ _ (.prim _ hp)
      | hollow A => exact .base _ _ (.hollow A)
      | sl => simp [Ab.prim] at hp
      | ptr => simp [Ab.prim] at hp
    | fn => simp [Ab.prim] at hp
  have hall : ∀ {xs ys : List Value}, xs.all prim = true → All2 (VR1 μ' h) xs ys → All2 (VR1 μ h2) xs ys := by
    intro xs ys hp k
    refine ⟨k.1, fun i x y hx hy => hprim ?_ (k.2 i x y hx hy)⟩
    rw [List.all_eq_true] at hp
    exact hp x (List.mem_of_getElem? hx)
  cases k with
  | dead => exact .dead _
  | gone => exact .gone
  | val _ _ k => cases k with
    | agg xs ys k => exact .val _ _ (.agg _ _ (hall hf k))
    | one _ _ k =>
      have hp : prim v = true := by
        have h1 := k.oneCell
        cases k with
        | fn => simp [Ab.flat, Ab.prim] at hf
        | base _ _ k => cases k with
          | prim _ hp => exact hp
          | hollow => rfl
          | sl => simp [Ab.flat, Ab.prim] at hf
          | ptr => simp [Ab.flat, Ab.prim] at hf
      exact .val _ _ (.one _ _ (hprim hp k))
  | tup xs ys k =>
    refine .tup _ _ ⟨k.1, fun i x y hx hy => ?_⟩
    have hx1 := k.2 i x y hx hy
    have hfx : flat1 x = true := by
      simp only [Ab.flat, List.all_eq_true] at hf
      exact hf x (List.mem_of_getElem? hx)
    cases hx1 with
    | agg xs ys k => exact .agg _ _ (hall hfx k)
    | one _ _ k =>
      have hp : prim x = true := by
        cases k with
        | fn => simp [flat1, Ab.prim] at hfx
        | base _ _ k => cases k with
          | prim _ hp => exact hp
          | hollow => rfl
          | sl => simp [flat1, Ab.prim] at hfx
          | ptr => simp [flat1, Ab.prim] at hfx
      exact .one _ _ (hprim hp k)
/-- A function's answer, its own memory forgotten where it may be. -/
theorem finish_ok {μ' : Map} {h1 : Heap} {w' : World} {v v' : Value} (H : HRel μ h0 w) (H' : HRel μ' h1 w') (T : To μ h0 w μ' h1 w') (k : VR μ' h1 v v') :
    ∃ v2 μ2, v' = v2 ∧ VR μ2 (finish h0 (v, h1)).2 (finish h0 (v, h1)).1 v2 ∧ HRel μ2 (finish h0 (v, h1)).2 w' ∧ To μ h0 w μ2 (finish h0 (v, h1)).2 w' := by
  unfold finish
  split
  · rename_i hc
    obtain ⟨hf, t, rfl⟩ := hc
    refine ⟨v', μ', rfl, k.flat hf, H'.forget fun b blk hb i x hx x' hk => ?_, ⟨fun b blk hb => ?_, T.frame, fun g hg => ?_, fun g hg => ?_⟩⟩
    · obtain ⟨x0, _, k0⟩ := H.cell b blk hb i x hx
      exact k0.back hk
    · obtain ⟨blk', e1, e2, e3, e4, e5, e6⟩ := T.up b blk hb
      rw [List.getElem?_append_left (lt_of_get hb), hb] at e1
      cases e1
      exact ⟨blk, hb, rfl, rfl, rfl, Nat.le_refl _, e6⟩
    · obtain ⟨b, blk, hb, ho, e⟩ := hg
      exact T.keeps g ⟨b, blk, by rw [List.getElem?_append_left (lt_of_get hb)]; exact hb, ho, e⟩
    · obtain ⟨b, blk, hb, e⟩ := hg
      exact T.ins g ⟨b, blk, by rw [List.getElem?_append_left (lt_of_get hb)]; exact hb, e⟩
  · exact ⟨v', μ', rfl, k, H', T⟩
/-- The call of a function of the table. -/
theorem call_sound {T : FuncId → Option Fun} {X : FuncId → List Value → Heap → Option (Value × Heap)} (hT : TabOk P T) {W : World} (hX : SoundC P W X) (hF : ∀ (call : FuncId → List Value → Heap → Option (Value × Heap)) N D E L, SoundC P W call → FreeOk P W N D E L call) (hO : ∀ (call : FuncId → List Value → Heap → Option (Value × Heap)) N D E L, SoundC P W call → OpnOk P W N D E L call) : ∀ n, SoundC P W (Ab.call T X n) := by
  intro n
  induction n with
  | zero => intro f args h v h' hc; simp [Ab.call] at hc
  | succ n ih =>
    intro f args h v h' hc
    simp only [Ab.call] at hc
    cases hTf : T f with
    | none => rw [hTf] at hc; exact hX f args h v h' hc
    | some F =>
      rw [hTf] at hc
      simp only at hc
      obtain ⟨fn, ob, hfn, hcf⟩ := hT f F hTf
      obtain ⟨c, ir0, hb, hcode, hkp, hres, hnp, hname⟩ := compFun_spec hcf
      refine ⟨fun args' w => enter_ok hfn hname hb args' w, fun μ w args' H hG ka => ?_⟩
      split at hc
      · rename_i hal
        have hlen : args'.length = F.np := by rw [← ka.1]; exact hal
        let a0 : Act := { tmps := (⟨args'⟩ : Array Value) ++ Array.replicate (fn.ntmps - (⟨args'⟩ : Array Value).size) undef, defers := [] }
        have hR : Shows fn.ntmps (boxesOf fn c) (aliasesOf (boxesOf fn c) c) (litsOf fn c) μ h w (start args h) a0 w := by
          refine ⟨fun _ => 0, μ, ⟨⟨by simp [a0]; omega, fun i => ?_⟩, H, To.refl _ _ _, (fun d cs hd => by simp [start] at hd), (fun d d' cs cs' hd => by simp [start] at hd), (fun e d off he => by simp [start] at he), (fun e d off he => by simp [start] at he), rfl⟩⟩
          show VR μ h (args.getD i undef) _
          by_cases hi : i < args.length
          · have hx : args[i]? = some args[i] := List.getElem?_eq_getElem hi
            obtain ⟨y, hy, ky⟩ := ka.get hx
            have e1 : args.getD i undef = args[i] := by simp [List.getD, hx]
            have e2 : a0.tmps.getD i undef = y := by
              have : i < args'.length := by rw [← ka.1]; exact hi
              simp only [a0, Array.getD_eq_getD_getElem?]
              rw [Array.getElem?_append_left (by simpa using this)]
              simp only [List.getElem?_toArray]
              rw [hy]; rfl
            rw [e1, e2]
            exact ky
          · have e1 : args.getD i undef = undef := by simp [List.getD, List.getElem?_eq_none (Nat.le_of_not_lt hi)]
            rw [e1]
            exact .dead _
        have fin : ∀ (e : Exit) (s1 : St), (e = .normal ∨ e = .ret) → exec (Ab.call T X n) n F.body (start args h) = some (e, s1) → (results1 s1 F.res).map (fun v => finish h (v, s1.h)) = some (v, h') →
            Calls P f ⟨args'⟩ w fun e w' => ∃ v' μ', e = .returned v' ∧ VR μ' h' v v' ∧ HRel μ' h' w' ∧ To μ h w μ' h' w' := by
          intro e s1 he hex hr
          simp only [Option.map_eq_some_iff] at hr
          obtain ⟨u, hu, hfin⟩ := hr
          refine calls_of_wp hfn hb (wp_mono (exec_ok ih hG (hF _ _ _ _ _ ih) (hO _ _ _ _ _ ih) n c ir0 F.body hcode hkp (start args h) e s1 rfl hex a0 w hR) fun e2 a2 w2 h2 => ?_)
          obtain ⟨rfl, lam, μ2, R2⟩ := h2
          obtain ⟨v', hv', kv⟩ := results_ok R2 hres hu
          obtain ⟨v3, μ3, rfl, k1, k2, k3⟩ := finish_ok H R2.hr R2.to kv
          rw [hfin] at k1 k2 k3
          rcases he with rfl | rfl
          · exact ⟨R2.dfr, v', hv', v', μ3, rfl, k1, k2, k3⟩
          · exact ⟨R2.dfr, v', hv', v', μ3, rfl, k1, k2, k3⟩
        split at hc
        · rename_i s1 hex
          exact fin .normal s1 (.inl rfl) hex hc
        · rename_i s1 hex
          exact fin .ret s1 (.inr rfl) hex hc
        · cases hc
      · cases hc
end
end Go.Proofs.YthfeahanmbmjhaaGreatDoor.Ab
/- A region whose order is open: one walk in the text's order serves every order. No conditions. -/
namespace Go.Proofs.YthfeahanmbmjhaaGreatDoor.Ab
open Go.RowKit
/-- Two states agree at a slot. -/
def AgreeAt (s q : St) (i : Nat) : Prop := q.t i = s.t i ∧ q.loc i = s.loc i ∧ q.al i = s.al i
def Agree (s q : St) (l : List Nat) : Prop := ∀ i ∈ l, AgreeAt s q i
theorem Agree.left {s q : St} {l m : List Nat} (h : Agree s q (l ++ m)) : Agree s q l := fun i hi => h i (List.mem_append_left _ hi)
theorem Agree.right {s q : St} {l m : List Nat} (h : Agree s q (l ++ m)) : Agree s q m := fun i hi => h i (List.mem_append_right _ hi)
theorem val_agree {s q : St} {x : Opd} (h : Agree s q x.slots) : q.val x = s.val x := by
  cases x with
  | c v => rfl
  | t n => exact (h n (by simp [Opd.slots])).1
theorem oval_agree {s q : St} {x : Option Opd} (h : Agree s q (oSlots x)) : x.map q.val = x.map s.val := by
  cases x with
  | none => rfl
  | some x => simp only [Option.map_some]; rw [val_agree h]
theorem vals_agree {s q : St} : ∀ {l : List Opd}, Agree s q (l.flatMap Opd.slots) → l.map q.val = l.map s.val
  | [], _ => rfl
  | x :: l, h => by
    rw [List.flatMap_cons] at h
    rw [List.map_cons, List.map_cons, val_agree h.left, vals_agree h.right]
theorem parts_agree {s q : St} : ∀ {l : List (Nat × Opd)}, Agree s q (l.flatMap fun p => p.2.slots) → (l.map fun p => (p.1, q.val p.2)) = l.map fun p => (p.1, s.val p.2)
  | [], _ => rfl
  | x :: l, h => by
    rw [List.flatMap_cons] at h
    rw [List.map_cons, List.map_cons, val_agree h.left, parts_agree h.right]
theorem places_agree {s q : St} : ∀ {l : List (Nat × Nat × Opd)}, Agree s q (l.flatMap fun p => p.2.2.slots) → (l.map fun p => (p.1, p.2.1, q.val p.2.2)) = l.map fun p => (p.1, p.2.1, s.val p.2.2)
  | [], _ => rfl
  | x :: l, h => by
    rw [List.flatMap_cons] at h
    rw [List.map_cons, List.map_cons, val_agree h.left, places_agree h.right]
/-- What a read, or what appends, gives hangs on the slots that it looks at, and the memory. -/
theorem run_agree {i : MI} {s q : St} (hi : i.reads = true ∨ (i.makes = true ∧ ∀ f l, i ≠ .call f l)) (h : Agree s q i.slots) (hh : q.h = s.h) : i.run q = i.run s := by
  cases i
  case mov x => simp only [MI.run, hh]; rw [val_agree h]
  case pick c x y => simp only [MI.slots] at h; simp only [MI.run, hh]; rw [val_agree h.left.left, val_agree h.left.right, val_agree h.right]
  case bin op x y => simp only [MI.slots] at h; simp only [MI.run, hh]; rw [val_agree h.left, val_agree h.right]
  case binB op x y => simp only [MI.slots] at h; simp only [MI.run, hh]; rw [val_agree h.left, val_agree h.right]
  case eqS ks neg x y => simp only [MI.slots] at h; simp only [MI.run, hh]; rw [val_agree h.left, val_agree h.right]
  case un op x => simp only [MI.run, hh]; rw [val_agree h]
  case conv k x => simp only [MI.run, hh]; rw [val_agree h]
  case str x => simp only [MI.run, hh]; rw [val_agree h]
  case ld n agg x => simp only [MI.run, hh]; rw [val_agree h]
  case fa off x => simp only [MI.run, hh]; rw [val_agree h]
  case ia sz x j => simp only [MI.slots] at h; simp only [MI.run, hh]; rw [val_agree h.left, val_agree h.right]
  case ix x j => simp only [MI.slots] at h; simp only [MI.run, hh]; rw [val_agree h.left, val_agree h.right]
  case fl off n agg x => simp only [MI.run, hh]; rw [val_agree h]
  case slS x lo hi => simp only [MI.slots] at h; simp only [MI.run, hh]; rw [val_agree h.left.left, oval_agree h.left.right, oval_agree h.right]
  case slL sz x lo hi => simp only [MI.slots] at h; simp only [MI.run, hh]; rw [val_agree h.left.left, oval_agree h.left.right, oval_agree h.right]
  case ln x => simp only [MI.run, hh]; rw [val_agree h]
  case lnS x => simp only [MI.run, hh]; rw [val_agree h]
  case app sz ty b x y => simp only [MI.slots] at h; simp only [MI.run, hh]; rw [val_agree h.left, val_agree h.right]
  case bld z ps => simp only [MI.slots] at h; simp only [MI.run, hh]; rw [places_agree h]
  case ext j x => simp only [MI.run, hh]; rw [val_agree h]
  case chk x => simp only [MI.run, hh]; rw [val_agree h]
  case mm m x y => simp only [MI.slots] at h; simp only [MI.run, hh]; rw [val_agree h.left, val_agree h.right]
  case fn f caps => simp only [MI.slots] at h; simp only [MI.run, hh]; rw [vals_agree h]
  case ldB n agg d => simp only [MI.slots] at h; simp only [MI.run, hh]; rw [(h d (by simp)).2.1]
  case ldE n agg d e => simp only [MI.slots] at h; simp only [MI.run, hh]; rw [(h d (by simp)).2.1, (h e (by simp)).2.2]
  case appL sz ty b n x e => simp only [MI.slots] at h; simp only [MI.run, hh]; rw [(h e (by simp)).2.1, val_agree fun j hj => h j (List.mem_cons_of_mem _ hj)]
  case strL n e => simp only [MI.slots] at h; simp only [MI.run, hh]; rw [(h e (by simp)).2.1]
  case call f l => rcases hi with hi | ⟨_, hi⟩
                   · cases hi
                   · exact absurd rfl (hi f l)
  case callL f n sz ty e => rfl
  case mk sz ty b z x => simp only [MI.run, hh]; rw [val_agree h]
  case bx ty n x => simp only [MI.run, hh]; rw [val_agree h]
  case nw ty cs => simp only [MI.run, hh]
  case st n x v => rfl
  case lit n sz ty z ps => simp only [MI.slots] at h; simp only [MI.run, hh]; rw [parts_agree h]
  all_goals (rcases hi with hi | ⟨hi, _⟩ <;> cases hi)
theorem val_h {s : St} {h : Heap} (x : Opd) : St.val { s with h := h } x = s.val x := by cases x <;> rfl
theorem ovals_h {s : St} {h : Heap} (x : Option Opd) : x.map (St.val { s with h := h }) = x.map s.val := by cases x <;> simp [val_h]
theorem vals_h {s : St} {h : Heap} (l : List Opd) : l.map (St.val { s with h := h }) = l.map s.val := List.map_congr_left fun x _ => val_h x
theorem places_h {s : St} {h : Heap} (l : List (Nat × Nat × Opd)) : (l.map fun p => (p.1, p.2.1, St.val { s with h := h } p.2.2)) = l.map fun p => (p.1, p.2.1, s.val p.2.2) := List.map_congr_left fun x _ => by rw [val_h]
/-- What does not look into the memory. -/
theorem run_blind {i : MI} {s : St} (hi : i.reads = true) (hl : i.looks = false) (h : Heap) : i.run { s with h := h } = ((i.run { s with h := [] }).map Prod.fst).map fun v => (v, h) := by
  cases i
  case ldB n agg d => simp only [MI.run]; split <;> (try split) <;> simp [Option.map_map, Function.comp_def]
  case ldE n agg d e => simp only [MI.run]; split <;> (try split) <;> simp [Option.map_map, Function.comp_def]
  case strL n e => simp only [MI.run]; split <;> (try split) <;> simp [Option.map_map, Function.comp_def]
  case fl off n agg x => simp only [MI.run, val_h]; split <;> (try split) <;> simp [Option.map_map, Function.comp_def]
  case fn f caps => simp only [MI.run, vals_h]; split <;> simp
  case bld z ps => simp only [MI.run, places_h]; simp [Option.map_map, Function.comp_def]
  case eqS ks neg x y => simp only [MI.run, val_h]; split <;> simp [Option.map_map, Function.comp_def]
  case pick c x y => simp only [MI.run, val_h]; split <;> simp
  case conv k x => simp only [MI.run, val_h]; split <;> simp
  case lnS x => simp only [MI.run, val_h]; split <;> simp
  case ext j x => simp only [MI.run, val_h]; split <;> simp [Option.map_map, Function.comp_def]
  case mm m x y => simp only [MI.run, val_h]; split <;> simp
  case mov x => simp only [MI.run, val_h]; simp
  case bin op x y => simp only [MI.run, val_h]; simp [Option.map_map, Function.comp_def]
  case binB op x y => simp only [MI.run, val_h]; simp [Option.map_map, Function.comp_def]
  case un op x => simp only [MI.run, val_h]; simp [Option.map_map, Function.comp_def]
  case ix x j => simp only [MI.run, val_h]; simp [Option.map_map, Function.comp_def]
  case slS x lo hi => simp only [MI.run, val_h, ovals_h]; simp [Option.map_map, Function.comp_def]
  all_goals first | (cases hl; done) | (cases hi; done)
theorem rd_agree {last : Bool} {h0 : Heap} {i : MI} {s q : St} {v : Value} {h2 : Heap} (hi : i.reads = true) (h : Agree s q i.slots) (hh : last = true → i.looks = true → q.h = s.h) (hr : i.run { s with h := pickH last s.h h0 } = some (v, h2)) : ∃ h3, i.run { q with h := pickH last q.h h0 } = some (v, h3) := by
  cases last with
  | false => exact ⟨h2, by rw [← hr]; exact run_agree (s := { s with h := h0 }) (q := { q with h := h0 }) (.inl hi) h rfl⟩
  | true =>
    cases hl : i.looks with
    | true =>
      have e : i.run q = i.run s := run_agree (.inl hi) h (hh rfl hl)
      exact ⟨h2, by rw [← hr]; exact e⟩
    | false =>
      have e1 := run_blind (s := q) hi hl q.h
      have e2 := run_blind (s := s) hi hl s.h
      have e3 : i.run { q with h := [] } = i.run { s with h := [] } := run_agree (s := { s with h := [] }) (q := { q with h := [] }) (.inl hi) h rfl
      have hr' : i.run { s with h := s.h } = some (v, h2) := hr
      rw [e2] at hr'
      rw [e3] at e1
      refine ⟨q.h, ?_⟩
      show i.run { q with h := q.h } = _
      rw [e1]
      cases hx : i.run { s with h := [] } with
      | none => rw [hx] at hr'; cases hr'
      | some r => rw [hx] at hr'; simp only [Option.map_some, Option.some.injEq, Prod.mk.injEq] at hr' ⊢; exact ⟨hr'.1, trivial⟩
section
variable {N : Nat} {D : List Nat} {E L : List (Nat × Nat)} {call : FuncId → List Value → Heap → Option (Value × Heap)} {last : Bool} {h0 : Heap}
/-- Each alias points into the box that is its own. -/
def AlE (E : List (Nat × Nat)) (s : St) : Prop := ∀ e d off, s.al e = some (d, off) → E.lookup e = some d
theorem mem_of_lookup {l : List (Nat × Nat)} {e d : Nat} (h : l.lookup e = some d) : (e, d) ∈ l := by
  induction l with
  | nil => simp at h
  | cons p l ih =>
    obtain ⟨a, b⟩ := p
    rw [List.lookup_cons] at h
    split at h
    · rename_i he
      cases h
      have : e = a := by simpa using he
      subst this
      exact List.mem_cons_self
    · exact List.mem_cons_of_mem _ (ih h)
theorem AgreeAt.refl (s : St) (i : Nat) : AgreeAt s s i := ⟨rfl, rfl, rfl⟩
theorem AgreeAt.symm {s q : St} {i : Nat} (h : AgreeAt s q i) : AgreeAt q s i := ⟨h.1.symm, h.2.1.symm, h.2.2.symm⟩
theorem AgreeAt.trans {s q r : St} {i : Nat} (h : AgreeAt s q i) (k : AgreeAt q r i) : AgreeAt s r i := ⟨k.1.trans h.1, k.2.1.trans h.2.1, k.2.2.trans h.2.2⟩
/-- Operations that the memory's state matters to. -/
def MOp.turns (last : Bool) (x : MOp) : Bool := x.ins.makes || (last && x.ins.looks)
theorem turns_make {last : Bool} {x : MOp} (h : x.ins.makes = true) : x.turns last = true := by unfold MOp.turns; rw [h]; rfl
theorem turns_look {x : MOp} (h : x.ins.looks = true) : x.turns true = true := by unfold MOp.turns; rw [h]; simp
/-- What an operation of an open region does: its own slots, and the memory where it turns it; and that by what it looks at alone. -/
structure FrameOf (E : List (Nat × Nat)) (call : FuncId → List Value → Heap → Option (Value × Heap)) (last : Bool) (h0 : Heap) (x : MOp) (s s1 : St) : Prop where
  off : ∀ i, i ∉ x.outs E → AgreeAt s s1 i
  mem : x.ins.makes = false → s1.h = s.h
  al : AlE E s1
  move : ∀ q, AlE E q → Agree s q (x.slots ++ x.outs E) → (x.turns last = true → q.h = s.h) →
    ∃ q1, x.free call last h0 q = some q1 ∧ (∀ i, i ∈ x.outs E → AgreeAt s1 q1 i) ∧ (∀ i, i ∉ x.outs E → AgreeAt q q1 i) ∧ (x.ins.makes = true → q1.h = s1.h) ∧ (x.ins.makes = false → q1.h = q.h)
theorem want_agree {x : MOp} {s q : St} (h : Agree s q x.slots) : x.want q = x.want s := by
  unfold MOp.want
  cases hg : x.guard with
  | none => rfl
  | some p =>
    obtain ⟨j, b⟩ := p
    have : q.t j = s.t j := (h j (by simp [MOp.slots, hg])).1
    simp only [this]
theorem slots_ins {x : MOp} {s q : St} (h : Agree s q x.slots) : Agree s q x.ins.slots := fun i hi => h i (by unfold MOp.slots; exact List.mem_append_left _ hi)
/-- An operation that lays one slot, from what it looks at. -/
theorem frame_put {x : MOp} {s : St} {d : Nat} {v : Value} {h1 : Heap} (hA : AlE E s) (hd : x.dst = some d) (ho : x.outs E = [d]) (hm : x.ins.makes = false → h1 = s.h)
    (hq : ∀ q, AlE E q → Agree s q (x.slots ++ x.outs E) → (x.turns last = true → q.h = s.h) → x.free call last h0 q = some { q.put (some d) v with h := if x.ins.makes = true then h1 else q.h }) :
    FrameOf E call last h0 x s { s.put (some d) v with h := h1 } := by
  refine ⟨fun i hi => ?_, fun h => hm h, hA, fun q hAq hag hh => ⟨_, hq q hAq hag hh, fun i hi => ?_, fun i hi => ?_, fun h => ?_, fun h => ?_⟩⟩
  · rw [ho] at hi
    have hne : i ≠ d := by simpa using hi
    exact ⟨by show upd s.t d v i = _; rw [upd_ne _ _ hne], rfl, rfl⟩
  · rw [ho] at hi
    have hie : i = d := by simpa using hi
    subst hie
    have := hag i (by rw [ho]; simp)
    exact ⟨by show upd q.t i v i = upd s.t i v i; rw [upd_same, upd_same], this.2.1, this.2.2⟩
  · rw [ho] at hi
    have hne : i ≠ d := by simpa using hi
    exact ⟨by show upd q.t d v i = _; rw [upd_ne _ _ hne], rfl, rfl⟩
  · simp only [h, if_true]
  · simp only [h, Bool.false_eq_true, if_false]
theorem outs_of {x : MOp} (hk : dstOk D E L N x.ins x.dst = true) {d : Nat} (hd : x.dst = some d) (hn : ∀ c, x.ins ≠ .newL c) (hn' : ∀ f n sz ty e, x.ins ≠ .callL f n sz ty e) : x.outs E = [d] := by
  unfold MOp.outs
  rw [hd] at hk ⊢
  cases hi : x.ins <;> rw [hi] at hk <;> first | exact absurd hi (hn _) | exact absurd hi (hn' _ _ _ _ _) | rfl | (simp [dstOk] at hk)
/-- A slot that is written is one of the operation's own. -/
theorem dst_outs {x : MOp} (hk : dstOk D E L N x.ins x.dst = true) {d : Nat} (hd : x.dst = some d) : d ∈ x.outs E := by
  by_cases hn : ∀ c, x.ins ≠ .newL c
  · by_cases hn' : ∀ f n sz ty e, x.ins ≠ .callL f n sz ty e
    · rw [outs_of hk hd hn hn']; simp
    · simp only [Classical.not_forall, Classical.not_not] at hn'
      obtain ⟨f, n, sz, ty, e, hc⟩ := hn'
      unfold MOp.outs
      rw [hc, hd]
      simp
  · simp only [Classical.not_forall, Classical.not_not] at hn
    obtain ⟨c, hc⟩ := hn
    unfold MOp.outs
    rw [hc, hd]
    simp
theorem AlE.upd {s : St} {t : Nat → Value} {loc : Nat → Option (List Value)} {h : Heap} (hA : AlE E s) {e d off : Nat} (he : E.lookup e = some d) : AlE E ⟨t, loc, upd s.al e (some (d, off)), h⟩ := by
  intro e' d' off' h'
  simp only at h'
  by_cases hee : e' = e
  · subst hee
    rw [upd_same] at h'
    cases h'
    exact he
  · rw [upd_ne _ _ hee] at h'
    exact hA _ _ _ h'
theorem AlE.unal {s : St} {t : Nat → Value} {loc : Nat → Option (List Value)} {h : Heap} (hA : AlE E s) {d : Nat} : AlE E ⟨t, loc, Ab.unal s.al d, h⟩ :=
  fun e' d' off' h' => hA _ _ _ (unal_spec h').2
theorem AlE.clear {s : St} {t : Nat → Value} {loc : Nat → Option (List Value)} {h : Heap} (hA : AlE E s) {d : Nat} : AlE E ⟨t, loc, Ab.upd s.al d none, h⟩ := by
  intro e' d' off' h'
  simp only at h'
  by_cases hee : e' = d
  · subst hee; rw [upd_same] at h'; cases h'
  · rw [upd_ne _ _ hee] at h'; exact hA _ _ _ h'
/-- An operation that writes slots alone. -/
theorem frame_slots {x : MOp} {s s1 : St} (f : St → St) (hoff : ∀ q, AlE E q → ∀ i, i ∉ x.outs E → AgreeAt q (f q) i) (hon : ∀ q, Agree s q (x.slots ++ x.outs E) → ∀ i, i ∈ x.outs E → AgreeAt (f s) (f q) i)
    (hh : ∀ q, (f q).h = q.h) (hal : ∀ q, AlE E q → AlE E (f q)) (hA : AlE E s) (h1 : s1 = f s)
    (hq : ∀ q, AlE E q → Agree s q (x.slots ++ x.outs E) → (x.turns last = true → q.h = s.h) → x.free call last h0 q = some (f q)) : FrameOf E call last h0 x s s1 := by
  subst h1
  exact ⟨hoff s hA, fun _ => hh s, hal s hA, fun q hAq hag hm => ⟨f q, hq q hAq hag hm, hon q hag, hoff q hAq, fun h => by rw [hh, hh, hm (turns_make h)], fun _ => hh q⟩⟩
theorem frame_skip {x : MOp} {s : St} (hk : dstOk D E L N x.ins x.dst = true) (hA : AlE E s) (hw : x.want s = some false) : FrameOf E call last h0 x s (x.skip s) := by
  refine frame_slots (f := x.skip) (fun q hq i hi => ?_) (fun q hag i hi => ?_) (fun q => ?_) (fun q hq => ?_) hA rfl fun q hAq hag hm => ?_
  · unfold MOp.skip
    cases hd : x.dst with
    | none => exact .refl _ _
    | some d =>
      have hne : i ≠ d := fun h => hi (h ▸ dst_outs hk hd)
      exact ⟨upd_ne _ _ hne, upd_ne _ _ hne, upd_ne _ _ hne⟩
  · have ha := hag.right i hi
    unfold MOp.skip
    cases hd : x.dst with
    | none => exact ha
    | some d =>
      by_cases hne : i = d
      · subst hne
        exact ⟨by simp [upd_same], by simp [upd_same], by simp [upd_same]⟩
      · exact ⟨by simp only [upd_ne _ _ hne]; exact ha.1, by simp only [upd_ne _ _ hne]; exact ha.2.1, by simp only [upd_ne _ _ hne]; exact ha.2.2⟩
  · unfold MOp.skip
    cases x.dst <;> rfl
  · unfold MOp.skip
    cases x.dst with
    | none => exact hq
    | some d => exact AlE.clear hq
  · unfold MOp.free
    rw [want_agree hag.left, hw]
theorem makes_ncall_outs {x : MOp} (hk : dstOk D E L N x.ins x.dst = true) {d : Nat} (hd : x.dst = some d) (hi : x.ins.reads = true ∨ x.ins.makes = true) (hn' : ∀ f n sz ty e, x.ins ≠ .callL f n sz ty e) : x.outs E = [d] :=
  outs_of hk hd (fun c hc => by rw [hc] at hi; rcases hi with h | h <;> cases h) hn'
/-- A call with a literal of its own. -/
theorem frame_callL {x : MOp} {s : St} {e : Nat} {v : Value} {h1 : Heap} (hA : AlE E s) (ho : ∀ i, i ∈ x.outs E ↔ (i = e ∨ x.dst = some i)) (hmk : x.ins.makes = true)
    (hq : ∀ q, AlE E q → Agree s q (x.slots ++ x.outs E) → (x.turns last = true → q.h = s.h) → x.free call last h0 q = some { q.put x.dst v with loc := upd q.loc e none, h := h1 }) :
    FrameOf E call last h0 x s { s.put x.dst v with loc := upd s.loc e none, h := h1 } := by
  have off : ∀ q : St, ∀ i, i ∉ x.outs E → AgreeAt q { q.put x.dst v with loc := upd q.loc e none, h := h1 } i := fun q i hi => by
    rw [ho] at hi
    refine ⟨?_, upd_ne _ _ fun h => hi (.inl h), ?_⟩
    · cases hd : x.dst with
      | none => rfl
      | some d => exact upd_ne _ _ fun h => hi (.inr (by rw [hd, h]))
    · cases hd : x.dst <;> rfl
  have hx : x.ins.makes ≠ false := fun h => by
    rw [hmk] at h
    cases h
  refine ⟨off s, fun h => absurd h hx, ?_, fun q hAq hag hh => ⟨_, hq q hAq hag hh, fun i hi => ?_, off q, fun _ => rfl, fun h => absurd h hx⟩⟩
  · cases hd : x.dst <;> exact hA
  · have ha := hag.right i hi
    refine ⟨?_, ?_, ?_⟩
    · cases hd : x.dst with
      | none => exact ha.1
      | some d =>
        show upd q.t d v i = upd s.t d v i
        unfold upd
        split
        · rfl
        · exact ha.1
    · show upd q.loc e none i = upd s.loc e none i
      unfold upd
      split
      · rfl
      · exact ha.2.1
    · cases hd : x.dst <;> exact ha.2.2
theorem agree_h {s q : St} {l : List Nat} (h : Agree s q l) (h0 : Heap) : Agree { s with h := h0 } { q with h := h0 } l := h
/-- Nothing is laid: only the memory may be turned. -/
theorem frame_none {x : MOp} {s : St} {h1 : Heap} (hA : AlE E s) (ho : x.outs E = []) (hm : x.ins.makes = false → h1 = s.h)
    (hq : ∀ q, AlE E q → Agree s q (x.slots ++ x.outs E) → (x.turns last = true → q.h = s.h) → x.free call last h0 q = some { q with h := if x.ins.makes = true then h1 else q.h }) :
    FrameOf E call last h0 x s { s with h := h1 } := by
  refine ⟨fun i hi => .refl _ _, fun h => hm h, hA, fun q hAq hag hh => ⟨_, hq q hAq hag hh, fun i hi => ?_, fun i hi => .refl _ _, fun h => ?_, fun h => ?_⟩⟩
  · rw [ho] at hi; cases hi
  · simp only [h, if_true]
  · simp only [h, Bool.false_eq_true, if_false]
theorem dst_none {i : MI} (h : dstOk D E L N i none = true) : (∃ n d v, i = .stB n d v) ∨ (∃ n d e v, i = .stE n d e v) ∨ (∃ n x v, i = .st n x v) ∨ (∃ f l, i = .call f l) ∨ (∃ f l, i = .callV f l) ∨ (∃ f n sz ty e, i = .callL f n sz ty e) := by
  cases i <;> simp [dstOk] at h <;> simp
theorem put_h {s : St} {d : Option Nat} {v : Value} : (s.put d v).h = s.h := by cases d <;> rfl
open Classical in
/-- What an operation of an open region does. -/
theorem free_frame {x : MOp} {s s1 : St} (hf : x.ins.freely = true) (hk : dstOk D E L N x.ins x.dst = true) (hA : AlE E s) (h : x.free call last h0 s = some s1) : FrameOf E call last h0 x s s1 := by
  have h' := h
  unfold MOp.free at h
  split at h
  · rename_i hw
    have wq : ∀ {q : St}, Agree s q (x.slots ++ x.outs E) → x.want q = some true := fun hag => by rw [want_agree hag.left, hw]
    split at h
    · -- faB
      rename_i off d hi
      unfold MOp.go at h
      rw [hi] at h
      simp only at h
      split at h
      · rename_i e cs hd hl
        cases h
        have ho := outs_of hk hd (fun c hc => by rw [hi] at hc; cases hc) (fun _ _ _ _ _ hc => by rw [hi] at hc; cases hc)
        refine frame_slots (f := fun q => { q with t := upd q.t e undef, al := upd q.al e (some (d, off)) }) (fun q hq i hi' => ?_) (fun q hag i hi' => ?_) (fun q => rfl) (fun q hq => ?_) hA rfl fun q hAq hag hm => ?_
        · rw [ho] at hi'
          have hne : i ≠ e := by simpa using hi'
          exact ⟨upd_ne _ _ hne, rfl, upd_ne _ _ hne⟩
        · have ha := hag.right i hi'
          rw [ho] at hi'
          have hne : i = e := by simpa using hi'
          subst hne
          exact ⟨by simp [upd_same], ha.2.1, by simp [upd_same]⟩
        · rw [hi, hd] at hk
          simp only [dstOk, Bool.and_eq_true, beq_iff_eq] at hk
          exact hq.upd hk.1.1.1
        · have hld : q.loc d = some cs := by rw [(hag.left d (by simp [MOp.slots, hi, MI.slots])).2.1, hl]
          unfold MOp.free
          rw [wq hag]
          simp only [hi, MOp.go, hd, hld]
      · cases h
    · -- faE
      rename_i off d e hi
      unfold MOp.go at h
      rw [hi] at h
      simp only at h
      split at h
      · rename_i e' d' off' cs hd hal hl
        split at h
        · rename_i hdd
          subst hdd
          cases h
          have ho := outs_of hk hd (fun c hc => by rw [hi] at hc; cases hc) (fun _ _ _ _ _ hc => by rw [hi] at hc; cases hc)
          refine frame_slots (f := fun q => { q with t := upd q.t e' undef, al := upd q.al e' (some (d', off' + off)) }) (fun q hq i hi' => ?_) (fun q hag i hi' => ?_) (fun q => rfl) (fun q hq => ?_) hA rfl fun q hAq hag hm => ?_
          · rw [ho] at hi'
            have hne : i ≠ e' := by simpa using hi'
            exact ⟨upd_ne _ _ hne, rfl, upd_ne _ _ hne⟩
          · have ha := hag.right i hi'
            rw [ho] at hi'
            have hne : i = e' := by simpa using hi'
            subst hne
            exact ⟨by simp [upd_same], ha.2.1, by simp [upd_same]⟩
          · rw [hi, hd] at hk
            simp only [dstOk, Bool.and_eq_true, beq_iff_eq] at hk
            exact hq.upd hk.1.1.1
          · have hld : q.loc d' = some cs := by rw [(hag.left d' (by simp [MOp.slots, hi, MI.slots])).2.1, hl]
            have hle : q.al e = some (d', off') := by rw [(hag.left e (by simp [MOp.slots, hi, MI.slots])).2.2, hal]
            unfold MOp.free
            rw [wq hag]
            simp only [hi, MOp.go, hd, hld, hle, if_true]
        · cases h
      · cases h
    · -- stB
      rename_i n d y hi
      unfold MOp.go at h
      rw [hi] at h
      simp only at h
      split at h
      · rename_i cs vs hd hl hvs
        split at h
        · rename_i hcond
          cases h
          have ho : x.outs E = [d] := by unfold MOp.outs; rw [hi]
          refine frame_slots (f := fun q => { q with loc := upd q.loc d (some (putAt cs 0 vs)) }) (fun q hq i hi' => ?_) (fun q hag i hi' => ?_) (fun q => rfl) (fun q hq => hq) hA rfl fun q hAq hag hm => ?_
          · rw [ho] at hi'
            have hne : i ≠ d := by simpa using hi'
            exact ⟨rfl, upd_ne _ _ hne, rfl⟩
          · have ha := hag.right i hi'
            rw [ho] at hi'
            have hne : i = d := by simpa using hi'
            subst hne
            exact ⟨ha.1, by simp [upd_same], ha.2.2⟩
          · have hld : q.loc d = some cs := by rw [(hag.left d (by simp [MOp.slots, hi, MI.slots])).2.1, hl]
            have hv : q.val y = s.val y := val_agree fun j hj => hag.left j (by simp [MOp.slots, hi, MI.slots, hj])
            unfold MOp.free
            rw [wq hag]
            simp only [hi, MOp.go, hd, hld, hv, hvs, hcond, and_self, if_true]
        · cases h
      · cases h
    · -- stE
      rename_i n d e y hi
      unfold MOp.go at h
      rw [hi] at h
      simp only at h
      split at h
      · rename_i d' off vs cs hd hal hvs hl
        split at h
        · rename_i hcond
          have hdd := hcond.1
          subst hdd
          cases h
          have ho : x.outs E = [d'] := by unfold MOp.outs; rw [hi]
          refine frame_slots (f := fun q => { q with loc := upd q.loc d' (some (putAt cs off vs)) }) (fun q hq i hi' => ?_) (fun q hag i hi' => ?_) (fun q => rfl) (fun q hq => hq) hA rfl fun q hAq hag hm => ?_
          · rw [ho] at hi'
            have hne : i ≠ d' := by simpa using hi'
            exact ⟨rfl, upd_ne _ _ hne, rfl⟩
          · have ha := hag.right i hi'
            rw [ho] at hi'
            have hne : i = d' := by simpa using hi'
            subst hne
            exact ⟨ha.1, by simp [upd_same], ha.2.2⟩
          · have hld : q.loc d' = some cs := by rw [(hag.left d' (by simp [MOp.slots, hi, MI.slots])).2.1, hl]
            have hle : q.al e = some (d', off) := by rw [(hag.left e (by simp [MOp.slots, hi, MI.slots])).2.2, hal]
            have hv : q.val y = s.val y := val_agree fun j hj => hag.left j (by simp [MOp.slots, hi, MI.slots, hj])
            unfold MOp.free
            rw [wq hag]
            simp only [hi, MOp.go, hd, hld, hle, hv, hvs, hcond, and_self, if_true]
        · cases h
      · cases h
    · -- litL
      rename_i n sz zero parts hi
      unfold MOp.go at h
      rw [hi] at h
      simp only at h
      split at h
      · rename_i e cs hd hcs
        cases h
        have ho := outs_of hk hd (fun c hc => by rw [hi] at hc; cases hc) (fun _ _ _ _ _ hc => by rw [hi] at hc; cases hc)
        refine frame_slots (f := fun q => { q with t := upd q.t e undef, loc := upd q.loc e (some cs) }) (fun q hq i hi' => ?_) (fun q hag i hi' => ?_) (fun q => rfl) (fun q hq => hq) hA rfl fun q hAq hag hm => ?_
        · rw [ho] at hi'
          have hne : i ≠ e := by simpa using hi'
          exact ⟨upd_ne _ _ hne, upd_ne _ _ hne, rfl⟩
        · have ha := hag.right i hi'
          rw [ho] at hi'
          have hne : i = e := by simpa using hi'
          subst hne
          exact ⟨by simp [upd_same], by simp [upd_same], ha.2.2⟩
        · have hp := parts_agree (s := s) (q := q) (l := parts) fun j hj => hag.left j (by unfold MOp.slots; rw [hi]; exact List.mem_append_left _ hj)
          unfold MOp.free
          rw [wq hag]
          simp only [hi, MOp.go, hd, hp, hcs]
      · cases h
    · -- newL
      rename_i cells hi
      unfold MOp.go at h
      rw [hi] at h
      simp only at h
      split at h
      · rename_i d hd
        cases h
        have ho : x.outs E = d :: (E.filter fun p => p.2 == d).map (·.1) := by unfold MOp.outs; rw [hi, hd]
        refine frame_slots (f := fun q => { q with t := upd q.t d undef, loc := upd q.loc d (some cells), al := unal q.al d }) (fun q hq i hi' => ?_) (fun q hag i hi' => ?_) (fun q => rfl) (fun q hq => hq.unal) hA rfl fun q hAq hag hm => ?_
        · rw [ho] at hi'
          simp only [List.mem_cons, List.mem_map, List.mem_filter, not_or] at hi'
          refine ⟨upd_ne _ _ hi'.1, upd_ne _ _ hi'.1, ?_⟩
          show unal q.al d i = q.al i
          unfold unal
          split
          · rename_i d' off hal
            split
            · rename_i hdd
              subst hdd
              exact absurd ⟨(i, d'), ⟨mem_of_lookup (hq _ _ _ hal), by simp⟩, rfl⟩ hi'.2
            · exact hal.symm
          · rename_i hal
            exact hal.symm
        · have ha := hag.right i hi'
          refine ⟨?_, ?_, ?_⟩
          · show upd q.t d undef i = upd s.t d undef i
            unfold upd
            split
            · rfl
            · exact ha.1
          · show upd q.loc d (some cells) i = upd s.loc d (some cells) i
            unfold upd
            split
            · rfl
            · exact ha.2.1
          · show unal q.al d i = unal s.al d i
            unfold unal
            rw [ha.2.2]
        · unfold MOp.free
          rw [wq hag]
          simp only [hi, MOp.go, hd]
      · cases h
    · -- call
      rename_i f args hi
      simp only [Option.bind_eq_some_iff] at h
      obtain ⟨⟨v, h2⟩, hr, h⟩ := h
      split at h
      · rename_i hpre
        simp only [Option.some.injEq] at h
        subst h
        have key : ∀ q, Agree s q (x.slots ++ x.outs E) → (x.turns last = true → q.h = s.h) → x.free call last h0 q = some { q.put x.dst v with h := if x.ins.makes = true then h2 else q.h } := by
          intro q hag hm
          have hv : args.map q.val = args.map s.val := vals_agree fun j hj => hag.left j (by unfold MOp.slots; rw [hi]; exact List.mem_append_left _ hj)
          have hh := hm (turns_make (by rw [hi]; rfl))
          unfold MOp.free
          rw [wq hag]
          simp only [hi, hv, hh, hr, Option.bind_some, MI.makes, if_true]
          exact if_pos hpre
        cases hd : x.dst with
        | some d =>
          rw [hd] at key
          exact frame_put hA hd (makes_ncall_outs hk hd (.inr (by rw [hi]; rfl)) (fun _ _ _ _ _ hc => by rw [hi] at hc; cases hc)) (fun h => by rw [hi] at h; cases h) fun q _ hag hm => key q hag hm
        | none =>
          rw [hd] at key
          exact frame_none hA (by unfold MOp.outs; rw [hi, hd]) (fun h => by rw [hi] at h; cases h) fun q _ hag hm => key q hag hm
      · cases h
    · -- callL
      rename_i f n sz ty e hi
      split at h
      · rename_i cs hl
        split at h
        · rename_i hcond
          simp only [Option.bind_eq_some_iff] at h
          obtain ⟨⟨v, h2⟩, hr, h⟩ := h
          split at h
          · rename_i hpre
            simp only [Option.some.injEq] at h
            subst h
            refine frame_callL hA (fun i => ?_) (by rw [hi]; rfl) fun q hAq hag hm => ?_
            · unfold MOp.outs
              rw [hi]
              cases hd : x.dst with
              | none => simp
              | some d => simp [or_comm, eq_comm]
            · have hld : q.loc e = some cs := by rw [(hag.left e (by simp [MOp.slots, hi, MI.slots])).2.1, hl]
              have hh := hm (turns_make (by rw [hi]; rfl))
              unfold MOp.free
              rw [wq hag]
              simp only [hi, hld, hh, hcond, and_self, if_true, hr, Option.bind_some]
              exact if_pos hpre
          · cases h
        · cases h
      · cases h
    · -- st
      rename_i n y z hi
      simp only [Option.bind_eq_some_iff] at h
      obtain ⟨r, hr, h⟩ := h
      split at h
      · rename_i hpre
        simp only [Option.some.injEq] at h
        subst h
        unfold MOp.go at hr
        rw [hi] at hr
        simp only at hr
        split at hr
        · rename_i vs hd hvs
          split at hr
          · rename_i hlen
            simp only [Option.map_eq_some_iff] at hr
            obtain ⟨h2, hs, rfl⟩ := hr
            refine frame_none hA (by unfold MOp.outs; rw [hi, hd]) (fun h => by rw [hi] at h; cases h) fun q _ hag hm => ?_
            have hy : q.val y = s.val y := val_agree fun j hj => hag.left j (by simp [MOp.slots, hi, MI.slots, hj])
            have hz : q.val z = s.val z := val_agree fun j hj => hag.left j (by simp [MOp.slots, hi, MI.slots, hj])
            have hh := hm (turns_make (by rw [hi]; rfl))
            unfold MOp.free
            rw [wq hag]
            simp only [hi, MOp.go, hd, hz, hvs, hlen, hy, hh, hs, Option.map_some, Option.bind_some, MI.makes, if_true]
            exact if_pos hpre
          · cases hr
        · cases hr
      · cases h
    · rename_i hn1 hn2 hn3 hn4 hn5 hn6 hn7 hn8 hn9
      have hex : ∀ q, x.want q = some true → x.free call last h0 q = if x.ins.makes = true then (x.ins.run q).bind fun r => if last = true ∨ h0 <+: r.2 then some { q.put x.dst r.1 with h := r.2 } else none
        else if x.ins.reads = true then (x.ins.run { q with h := pickH last q.h h0 }).map fun r => q.put x.dst r.1 else none := by
        intro q hq
        unfold MOp.free
        rw [hq]
        cases hi : x.ins <;> first | rfl | exact absurd hi (hn1 _ _) | exact absurd hi (hn2 _ _ _) | exact absurd hi (hn3 _ _ _) | exact absurd hi (hn4 _ _ _ _) | exact absurd hi (hn5 _ _ _ _) | exact absurd hi (hn6 _) | exact absurd hi (hn7 _ _) | exact absurd hi (hn8 _ _ _ _ _) | exact absurd hi (hn9 _ _ _)
      split at h
      · rename_i hmk
        simp only [Option.bind_eq_some_iff] at h
        obtain ⟨⟨v, h2⟩, hr, h⟩ := h
        split at h
        · rename_i hc
          simp only [Option.some.injEq] at h
          subst h
          cases hd : x.dst with
          | none =>
            rw [hd] at hk
            rcases dst_none hk with ⟨_, _, _, hi⟩ | ⟨_, _, _, _, hi⟩ | ⟨_, _, _, hi⟩ | ⟨_, _, hi⟩ | ⟨_, _, hi⟩ | ⟨_, _, _, _, _, hi⟩
            · exact absurd hi (hn3 _ _ _)
            · exact absurd hi (hn4 _ _ _ _)
            · exact absurd hi (hn9 _ _ _)
            · exact absurd hi (hn7 _ _)
            · rw [hi] at hmk; cases hmk
            · exact absurd hi (hn8 _ _ _ _ _)
          | some d =>
            refine frame_put hA hd (makes_ncall_outs hk hd (.inr hmk) hn8) (fun h => by rw [hmk] at h; cases h) fun q _ hag hm => ?_
            rw [hex q (wq hag), if_pos hmk, run_agree (.inr ⟨hmk, hn7⟩) (slots_ins hag.left) (hm (turns_make hmk)), hr]
            simp only [Option.bind_some, hmk, if_true, hd]
            rw [if_pos hc]
        · cases h
      · rename_i hmk
        split at h
        · rename_i hrd
          simp only [Option.map_eq_some_iff] at h
          obtain ⟨⟨v, h2⟩, hr, rfl⟩ := h
          have hmk' : x.ins.makes = false := by simpa using hmk
          cases hd : x.dst with
          | none =>
            rw [hd] at hk
            rcases dst_none hk with ⟨_, _, _, hi⟩ | ⟨_, _, _, _, hi⟩ | ⟨_, _, _, hi⟩ | ⟨_, _, hi⟩ | ⟨_, _, hi⟩ | ⟨_, _, _, _, _, hi⟩
            · exact absurd hi (hn3 _ _ _)
            · exact absurd hi (hn4 _ _ _ _)
            · rw [hi] at hrd; cases hrd
            · exact absurd hi (hn7 _ _)
            · rw [hi] at hrd; cases hrd
            · exact absurd hi (hn8 _ _ _ _ _)
          | some d =>
            refine frame_put (s := s) (h1 := s.h) hA hd (makes_ncall_outs hk hd (.inl hrd) hn8) (fun _ => rfl) fun q _ hag hm => ?_
            obtain ⟨h3, hr3⟩ := rd_agree hrd (slots_ins hag.left) (fun e1 e2 => hm (by subst e1; exact turns_look e2)) hr
            rw [hex q (wq hag), if_neg hmk, if_pos hrd, hr3]
            simp only [Option.map_some, hmk', hd, Bool.false_eq_true, if_false]
            rfl
        · cases h
  · rename_i hw
    cases h
    exact frame_skip hk hA hw
  · cases h
theorem ext_st {s q : St} (h : ∀ i, AgreeAt s q i) (hh : q.h = s.h) : q = s := by
  obtain ⟨t, loc, al, m⟩ := s
  obtain ⟨t', loc', al', m'⟩ := q
  simp only at hh
  subst hh
  have h1 : t' = t := funext fun i => (h i).1
  have h2 : loc' = loc := funext fun i => (h i).2.1
  have h3 : al' = al := funext fun i => (h i).2.2
  subst h1 h2 h3
  rfl
theorem apart_spec {x y : MOp} (h : x.apart E y = true) : (x.ins.makes = true → y.ins.makes = false) ∧ (∀ d, d ∈ x.outs E → d ∉ y.outs E ∧ d ∉ y.slots) ∧ (∀ d, d ∈ y.outs E → d ∉ x.slots) := by
  unfold MOp.apart at h
  simp only [Bool.and_eq_true, Bool.not_eq_true', Bool.and_eq_false_iff, List.all_eq_true, List.contains_eq_mem, decide_eq_false_iff_not] at h
  obtain ⟨⟨h1, h2⟩, h3⟩ := h
  exact ⟨fun hx => h1.resolve_left (by simp [hx]), h2, h3⟩
/-- What may be freely placed and is written well. -/
def Good (N : Nat) (D : List Nat) (E L : List (Nat × Nat)) (x : MOp) : Prop := x.ins.freely = true ∧ dstOk D E L N x.ins x.dst = true
/-- Two operations that may change places. -/
def ApartL (last : Bool) (E : List (Nat × Nat)) (x y : MOp) : Prop := x.apart E y = true ∧ (last = true → ¬ (x.ins.looks = true ∧ y.ins.makes = true) ∧ ¬ (x.ins.makes = true ∧ y.ins.looks = true))
theorem turns_spec {last : Bool} {x : MOp} (h : x.turns last = true) : x.ins.makes = true ∨ (last = true ∧ x.ins.looks = true) := by
  unfold MOp.turns at h
  simpa using h
/-- Two operations change places. -/
theorem comm {x y : MOp} {s s1 s2 : St} (gx : Good N D E L x) (gy : Good N D E L y) (hA : AlE E s) (hap : ApartL last E x y) (h1 : x.free call last h0 s = some s1) (h2 : y.free call last h0 s1 = some s2) :
    ∃ s1', y.free call last h0 s = some s1' ∧ x.free call last h0 s1' = some s2 := by
  obtain ⟨a1, a2, a3⟩ := apart_spec hap.1
  have fx := free_frame gx.1 gx.2 hA h1
  have fy := free_frame gy.1 gy.2 fx.al h2
  have offx : ∀ i, (i ∈ y.slots ∨ i ∈ y.outs E) → i ∉ x.outs E := fun i hi hx => by
    rcases hi with hi | hi
    · exact (a2 i hx).2 hi
    · exact (a2 i hx).1 hi
  have offy : ∀ i, (i ∈ x.slots ∨ i ∈ x.outs E) → i ∉ y.outs E := fun i hi hy => by
    rcases hi with hi | hi
    · exact a3 i hy hi
    · exact (a2 i hi).1 hy
  obtain ⟨s1', g1, g2, g3, g4, g5⟩ := fy.move s hA (fun i hi => (fx.off i (offx i (List.mem_append.1 hi))).symm) fun hm => (fx.mem (by
    cases hmx : x.ins.makes with
    | false => rfl
    | true =>
      rcases turns_spec hm with q | ⟨q1, q2⟩
      · rw [a1 hmx] at q; cases q
      · exact absurd ⟨hmx, q2⟩ (hap.2 q1).2)).symm
  have fy' := free_frame gy.1 gy.2 hA g1
  obtain ⟨s2', k1, k2, k3, k4, k5⟩ := fx.move s1' fy'.al (fun i hi => fy'.off i (offy i (List.mem_append.1 hi))) fun hm => g5 (by
    cases hmy : y.ins.makes with
    | false => rfl
    | true =>
      rcases turns_spec hm with q | ⟨q1, q2⟩
      · rw [a1 q] at hmy; cases hmy
      · exact absurd ⟨q2, hmy⟩ (hap.2 q1).1)
  have : s2' = s2 := by
    refine ext_st (fun i => ?_) ?_
    · by_cases hx : i ∈ x.outs E
      · have := k2 i hx
        exact (fy.off i (offy i (.inr hx))).symm.trans this
      · by_cases hy : i ∈ y.outs E
        · exact (g2 i hy).trans (k3 i hx)
        · exact ((fy.off i hy).symm.trans (fx.off i hx).symm).trans ((g3 i hy).trans (k3 i hx))
    · cases hmx : x.ins.makes with
      | true => rw [k4 hmx, ← fy.mem (a1 hmx)]
      | false =>
        rw [k5 hmx]
        cases hmy : y.ins.makes with
        | true => rw [g4 hmy]
        | false => rw [g5 hmy, fy.mem hmy, fx.mem hmx]
  subst this
  exact ⟨s1', g1, k1⟩
/-- An operation steps to the front. -/
theorem front {x : MOp} (gx : Good N D E L x) {l2 : List MOp} {s' : St} : ∀ {l1 : List MOp} {s : St}, (∀ y ∈ l1, Good N D E L y ∧ ApartL last E y x) → AlE E s → runFree call last h0 (l1 ++ x :: l2) s = some s' →
    ∃ s1, x.free call last h0 s = some s1 ∧ runFree call last h0 (l1 ++ l2) s1 = some s'
  | [], s, _, _, h => by
    simp only [List.nil_append, runFree, Option.bind_eq_some_iff] at h
    exact h
  | y :: l1, s, hl, hA, h => by
    simp only [List.cons_append, runFree, Option.bind_eq_some_iff] at h
    obtain ⟨t, ht, h⟩ := h
    obtain ⟨gy, hay⟩ := hl y List.mem_cons_self
    obtain ⟨t1, h1, h2⟩ := front gx (fun z hz => hl z (List.mem_cons_of_mem _ hz)) (free_frame gy.1 gy.2 hA ht).al h
    obtain ⟨s1, k1, k2⟩ := comm gy gx hA hay ht h1
    refine ⟨s1, k1, ?_⟩
    simp only [List.cons_append, runFree, k2, Option.bind_some]
    exact h2
theorem pre_get {h0 h : Heap} (hp : h0 <+: h) {b : Nat} {blk : Blk} (hb : h0[b]? = some blk) : h[b]? = some blk := by
  obtain ⟨t, rfl⟩ := hp
  rw [List.getElem?_append_left (List.getElem?_eq_some_iff.1 hb).1]
  exact hb
theorem ldC_up {h0 h : Heap} (hp : h0 <+: h) {p : Value} {n : Nat} {cs : List Value} (hr : ldC h0 p n = some cs) : ldC h p n = some cs := by
  unfold ldC at hr ⊢
  split at hr
  · split at hr
    · rename_i blk hb
      simp only [pre_get hp hb]
      exact hr
    · cases hr
  · cases hr
theorem faV_up {h0 h : Heap} (hp : h0 <+: h) {p v : Value} {n : Nat} (hr : faV h0 p n = some v) : faV h p n = some v := by
  unfold faV at hr ⊢
  split at hr
  · split at hr
    · rename_i blk hb
      simp only [pre_get hp hb]
      exact hr
    · cases hr
  · cases hr
theorem iaV_up {h0 h : Heap} (hp : h0 <+: h) {x i v : Value} {n : Nat} (hr : iaV h0 n x i = some v) : iaV h n x i = some v := by
  unfold iaV at hr ⊢
  split at hr
  · split at hr
    · rename_i blk hb
      simp only [pre_get hp hb]
      exact hr
    · cases hr
  · cases hr
theorem slLV_up {h0 h : Heap} (hp : h0 <+: h) {x v : Value} {lo hi : Option Value} {n : Nat} (hr : slLV n x lo hi h0 = some v) : slLV n x lo hi h = some v := by
  unfold slLV at hr ⊢
  split at hr
  · exact hr
  · split at hr
    · rename_i blk hb
      simp only [pre_get hp hb]
      exact hr
    · cases hr
  · cases hr
theorem lnV_up {h0 h : Heap} (hp : h0 <+: h) {x v : Value} (hr : lnV h0 x = some v) : lnV h x = some v := by
  unfold lnV at hr ⊢
  split at hr
  · exact hr
  · split at hr
    · rename_i blk hb
      simp only [pre_get hp hb]
      exact hr
    · cases hr
  · cases hr
theorem rowC_up {h0 h : Heap} (hp : h0 <+: h) {x : Value} {n : Nat} {cs : List Value} (hr : rowC h0 n x = some cs) : rowC h n x = some cs := by
  unfold rowC at hr ⊢
  split at hr
  · exact hr
  · split at hr
    · rename_i blk hb
      simp only [pre_get hp hb]
      exact hr
    · cases hr
  · cases hr
theorem map_up {o o' : Option Value} {v : Value} {h0 h1 h : Heap} (hf : ∀ v, o = some v → o' = some v) (hr : (o.map fun v => (v, h0)) = some (v, h1)) : (o'.map fun v => (v, h)) = some (v, h) := by
  cases o with
  | none => cases hr
  | some u =>
    cases hr
    rw [hf _ rfl]
    rfl
/-- A read of the earlier memory is one of the later. -/
theorem run_up {i : MI} {s : St} {v : Value} {h1 : Heap} (hi : i.reads = true) (hp : h0 <+: s.h ∨ i.looks = false) (hr : i.run { s with h := h0 } = some (v, h1)) : i.run s = some (v, s.h) := by
  rcases hp with hp | hp
  · by_cases hlk : i.looks = false
    · rw [run_blind hi hlk] at hr
      have := run_blind (s := s) hi hlk s.h
      rw [show i.run s = i.run { s with h := s.h } from rfl, this]
      exact map_up (fun _ h => h) hr
    · cases i
      case str x => 
        simp only [MI.run, val_h] at hr ⊢
        refine map_up (fun u h2 => ?_) hr
        unfold strV at h2 ⊢
        split at h2
        · rename_i cs hc
          rw [rowC_up hp hc]
          exact h2
        · cases h2
      case ld n agg x =>
        simp only [MI.run, val_h] at hr ⊢
        refine map_up (fun u h2 => ?_) hr
        simp only [Option.bind_eq_some_iff] at h2 ⊢
        obtain ⟨cs, h2, h3⟩ := h2
        exact ⟨cs, ldC_up hp h2, h3⟩
      case fa n x => simp only [MI.run, val_h] at hr ⊢; exact map_up (fun u h2 => faV_up hp h2) hr
      case ia n x j => simp only [MI.run, val_h] at hr ⊢; exact map_up (fun u h2 => iaV_up hp h2) hr
      case slL n x lo hi => simp only [MI.run, val_h, ovals_h] at hr ⊢; exact map_up (fun u h2 => slLV_up hp h2) hr
      case ln x => simp only [MI.run, val_h] at hr ⊢; exact map_up (fun u h2 => lnV_up hp h2) hr
      case chk x =>
        simp only [MI.run, val_h] at hr ⊢
        cases hc : ldC h0 (s.val x) 0 with
        | none => rw [hc] at hr; cases hr
        | some cs =>
          rw [hc] at hr
          cases hr
          rw [ldC_up hp hc]
          rfl
      all_goals exact absurd rfl hlk
  · rw [run_blind hi hp] at hr
    have := run_blind (s := s) hi hp s.h
    rw [show i.run s = i.run { s with h := s.h } from rfl, this]
    exact map_up (fun _ h => h) hr
end
end Go.Proofs.YthfeahanmbmjhaaGreatDoor.Ab
/- A region whose order is open: one walk in the text's order serves every order. No conditions. -/
namespace Go.Proofs.YthfeahanmbmjhaaGreatDoor.Ab
open Go.RowKit
section
variable {P : Program} {N : Nat} {D : List Nat} {E L : List (Nat × Nat)} {μ0 : Map} {hb : Heap} {w0 W : World} {call : FuncId → List Value → Heap → Option (Value × Heap)} {last : Bool} {h0 : Heap}
open Classical in
/-- A read or a making, taken in an open region, is what it is anywhere. -/
theorem free_go {x : MOp} {s s1 : St} (hf : x.ins.freely = true) (hw : x.want s = some true) (hp : last = true ∨ h0 <+: s.h) (h : x.free call last h0 s = some s1) : x.go call s = some s1 := by
  unfold MOp.free at h
  rw [hw] at h
  simp only at h
  split at h
  · exact h
  · exact h
  · exact h
  · exact h
  · exact h
  · exact h
  · rename_i f args hi
    simp only [Option.bind_eq_some_iff] at h
    obtain ⟨⟨v, h2⟩, hr, h⟩ := h
    split at h
    · cases h
      unfold MOp.go
      simp only [hi, hr, Option.map_some]
    · cases h
  · rename_i f n sz ty e hi
    split at h
    · rename_i cs hl
      split at h
      · rename_i hcond
        simp only [Option.bind_eq_some_iff] at h
        obtain ⟨⟨v, h2⟩, hr, h⟩ := h
        split at h
        · cases h
          unfold MOp.go
          simp only [hi, hl, hcond, and_self, if_true, hr, Option.map_some]
        · cases h
      · cases h
    · cases h
  · simp only [Option.bind_eq_some_iff] at h
    obtain ⟨r, hr, h⟩ := h
    split at h
    · cases h; exact hr
    · cases h
  · rename_i hn1 hn2 hn3 hn4 hn5 hn6 hn7 hn8 hn9
    have hex : (x.ins.reads = true ∨ x.ins.makes = true) → x.go call s = (x.ins.run s).map fun r => { s.put x.dst r.1 with h := r.2 } := by
      intro hq
      unfold MOp.go
      cases hi : x.ins <;> first | rfl | (rw [hi] at hq; rcases hq with hq | hq <;> cases hq; done) | exact absurd hi (hn7 _ _) | exact absurd hi (hn8 _ _ _ _ _) | exact absurd hi (hn9 _ _ _)
    split at h
    · rename_i hmk
      simp only [Option.bind_eq_some_iff] at h
      obtain ⟨⟨v, h2⟩, hr, h⟩ := h
      split at h
      · cases h
        rw [hex (.inr hmk), hr]
        rfl
      · cases h
    · split at h
      · rename_i hrd
        simp only [Option.map_eq_some_iff] at h
        obtain ⟨⟨v, h2⟩, hr, rfl⟩ := h
        have hr2 : x.ins.run s = some (v, s.h) := by
          cases last with
          | true => exact run_up hrd (h0 := s.h) (.inl (List.prefix_refl _)) hr
          | false =>
            rcases hp with hp | hp
            · cases hp
            · exact run_up hrd (.inl hp) hr
        rw [hex (.inl hrd), hr2]
        simp only [Option.map_some, Option.some.injEq]
        cases x.dst <;> rfl
      · cases h
/-- What is not yet listed. -/
def left (n : Nat) (listed : Array Bool) : List Nat := (List.range n).filter fun j => !listed.getD j true
theorem mem_left {n : Nat} {listed : Array Bool} {j : Nat} : j ∈ left n listed ↔ j < n ∧ listed.getD j true = false := by
  simp [left]
theorem left_split {n i : Nat} {listed : Array Bool} (hi : i ∈ left n listed) : ∃ l1 l2, left n listed = l1 ++ i :: l2 ∧ (∀ y ∈ l1, y < i) ∧ left n (listed.setIfInBounds i true) = l1 ++ l2 := by
  obtain ⟨l1, l2, h⟩ := List.append_of_mem hi
  have hp : (left n listed).Pairwise (· < ·) := List.Pairwise.filter _ List.pairwise_lt_range
  rw [h, List.pairwise_append] at hp
  obtain ⟨p1, p2, p3⟩ := hp
  rw [List.pairwise_cons] at p2
  refine ⟨l1, l2, h, fun y hy => p3 y hy i List.mem_cons_self, ?_⟩
  have e : left n (listed.setIfInBounds i true) = (left n listed).filter fun j => j != i := by
    unfold left
    rw [List.filter_filter]
    apply List.filter_congr
    intro j hj
    by_cases hji : j = i
    · subst hji
      have hlt : j < listed.size ∨ listed.size ≤ j := Nat.lt_or_ge _ _
      rcases hlt with hlt | hlt
      · simp [hlt]
      · simp [Array.getElem?_eq_none hlt]
    · rw [getD_set_ne true (Ne.symm hji)]
      simp [hji]
  rw [e, h, List.filter_append, List.filter_cons]
  simp only [bne_self_eq_false, Bool.false_eq_true, if_false]
  rw [List.filter_eq_self.2 fun y hy => by simp; have := p3 y hy i List.mem_cons_self; omega, List.filter_eq_self.2 fun y hy => by simp; have := p2.1 y hy; omega]
/-- What is listed stands on what is listed. -/
def Down (ops : List Oper) (listed : Array Bool) : Prop := ∀ (j : Nat) (o : Oper), ops[j]? = some o → listed.getD j false = true → ∀ e ∈ o.after, Region.binds .any e = true → listed.getD e.on false = true
theorem anc_listed {ops : List Oper} {listed : Array Bool} (hd : Down ops listed) {a : Nat} : ∀ (n i : Nat), (∀ o, ops[i]? = some o → ∀ e ∈ o.after, Region.binds .any e = true → listed.getD e.on false = true) → anc ops n i a = true → listed.getD a false = true
  | 0, _, _, h => by cases h
  | n + 1, i, hi, h => by
    simp only [anc] at h
    split at h
    · rename_i o ho
      simp only [List.any_eq_true, Bool.and_eq_true, Bool.or_eq_true, beq_iff_eq] at h
      obtain ⟨e, he, hb, h⟩ := h
      have hl := hi o ho e (by simpa using he) hb
      rcases h with h | h
      · rw [← h]; exact hl
      · exact anc_listed hd n e.on (fun o' ho' => hd e.on o' ho' hl) h
    · cases h
theorem getD_true_false {listed : Array Bool} {j : Nat} (h : listed.getD j true = false) : listed.getD j false ≠ true := by
  rcases Nat.lt_or_ge j listed.size with h' | h'
  · simp [h'] at h ⊢; exact h
  · simp [Array.getElem?_eq_none h'] at h
theorem freeOk_spec {ops : List Oper} {ms : List MOp} (h : freeOk E ops ms = true) :
    (∀ m ∈ ms, m.ins.freely = true) ∧ (∀ (i : Nat) (o : Oper), ops[i]? = some o → ∀ e ∈ o.after, Region.binds .any e = true → e.on < i) ∧
    (∀ (i a : Nat) (x y : MOp), a < i → ms[a]? = some x → ms[i]? = some y → x.apart E y = true ∨ anc ops 12 i a = true) := by
  unfold freeOk at h
  simp only [Bool.and_eq_true, List.all_eq_true] at h
  obtain ⟨⟨⟨_, h1⟩, h2⟩, h3⟩ := h
  refine ⟨h1, fun i o ho e he hb => ?_, fun i a x y hai hx hy => ?_⟩
  · have := h2 i (List.mem_range.2 (List.getElem?_eq_some_iff.1 ho).1)
    rw [ho] at this
    simp only [List.all_eq_true, Bool.or_eq_true, Bool.not_eq_true', decide_eq_true_eq] at this
    rcases this e (by simpa using he) with h | h
    · rw [hb] at h; cases h
    · exact h
  · have := h3 i (List.mem_range.2 (List.getElem?_eq_some_iff.1 hy).1) a (List.mem_range.2 hai)
    rw [hx, hy] at this
    simpa using this
theorem lastOk_spec {ops : List Oper} {ms : List MOp} (h : lastOk ops ms = true) {i a : Nat} (ha : a < i) {x y : MOp} (hx : ms[a]? = some x) (hy : ms[i]? = some y) (hc : (y.ins.makes = true ∧ x.ins.looks = true) ∨ (y.ins.looks = true ∧ x.ins.makes = true)) : anc ops 12 i a = true := by
  unfold lastOk at h
  simp only [List.all_eq_true] at h
  have := h i (List.mem_range.2 (List.getElem?_eq_some_iff.1 hy).1) a (List.mem_range.2 ha)
  rw [hx, hy] at this
  rcases hc with ⟨q1, q2⟩ | ⟨q1, q2⟩
  · simpa [q1, q2] using this
  · simpa [q1, q2] using this
open Classical in
/-- How the memory stands behind an operation. -/
theorem free_mem {x : MOp} {s s1 : St} (hm : x.ins.makes = true) (h : x.free call last h0 s = some s1) : s1.h = s.h ∨ last = true ∨ s.h <+: s1.h ∨ h0 <+: s1.h := by
  unfold MOp.free at h
  split at h
  · rename_i hw
    split at h
    · rename_i hi; rw [hi] at hm; cases hm
    · rename_i hi; rw [hi] at hm; cases hm
    · rename_i hi; rw [hi] at hm; cases hm
    · rename_i hi; rw [hi] at hm; cases hm
    · rename_i hi; rw [hi] at hm; cases hm
    · rename_i hi; rw [hi] at hm; cases hm
    · rename_i f args hi
      simp only [Option.bind_eq_some_iff] at h
      obtain ⟨⟨v, h2⟩, hr, h⟩ := h
      split at h
      · rename_i hp
        cases h
        exact hp.elim (fun q => .inr (.inl q)) fun q => .inr (.inr (.inl q))
      · cases h
    · rename_i f n sz ty e hi
      split at h
      · split at h
        · simp only [Option.bind_eq_some_iff] at h
          obtain ⟨⟨v, h2⟩, hr, h⟩ := h
          split at h
          · rename_i hp
            cases h
            exact hp.elim (fun q => .inr (.inl q)) fun q => .inr (.inr (.inl q))
          · cases h
        · cases h
      · cases h
    · simp only [Option.bind_eq_some_iff] at h
      obtain ⟨r, hr, h⟩ := h
      split at h
      · rename_i hp
        cases h
        exact hp.elim (fun q => .inr (.inl q)) fun q => .inr (.inr (.inr q))
      · cases h
    · rw [if_pos hm] at h
      simp only [Option.bind_eq_some_iff] at h
      obtain ⟨⟨v, h2⟩, hr, h⟩ := h
      split at h
      · rename_i hp
        cases h
        rcases hp with hp | hp
        · exact .inr (.inl hp)
        · exact .inr (.inr (.inr hp))
      · cases h
  · cases h
    refine .inl ?_
    unfold MOp.skip
    cases x.dst <;> rfl
  · cases h
theorem ready_all {ops : Array Oper} {listed : Array Bool} (hsz : listed.size = ops.size) (hb : ∀ (i : Nat) (o : Oper), ops.toList[i]? = some o → ∀ e ∈ o.after, Region.binds .any e = true → e.on < i)
    (hr : Region.ready .any ops listed = []) : left ops.size listed = [] := by
  have key : ∀ j, j < ops.size → listed.getD j true = true := by
    intro j
    induction j using Nat.strongRecOn with
    | _ j ih =>
      intro hj
      cases hl : listed.getD j true with
      | true => rfl
      | false =>
        exfalso
        have ho : ops[j]? = some ops[j] := Array.getElem?_eq_getElem hj
        have : j ∈ Region.ready .any ops listed := mem_ready.2 ⟨hl, ops[j], ho, fun e he hbd => by
          have hlt := hb j ops[j] (by simp) e he hbd
          have := ih e.on hlt (by omega)
          have hs : e.on < listed.size := by omega
          simp [hs] at this ⊢
          exact this⟩
        rw [hr] at this
        cases this
  refine List.eq_nil_iff_forall_not_mem.2 fun j hj => ?_
  obtain ⟨h1, h2⟩ := mem_left.1 hj
  rw [key j h1] at h2
  cases h2
/-- One walk serves every order. -/
theorem any_ok {ops : Array Oper} {ms : List MOp} {s' : St} {Q : Exit → Act → World → Prop} (hS : SoundC P W call) (hG : Gd W μ0 hb w0) (hlen : ms.length = ops.toList.length) (hrd : ∀ (j : Nat) (o : Oper), ops.toList[j]? = some o → ∃ m, ms[j]? = some m ∧ Read1 P N D E L ops o m)
    {S : Nat → Prop} (f1 : ∀ m ∈ ms, m.ins.freely = true) (f2 : ∀ (i : Nat) (o : Oper), ops.toList[i]? = some o → ∀ e ∈ o.after, Region.binds .any e = true → e.on < i) (f3 : ∀ (i a : Nat) (x y : MOp), S a → S i → a < i → ms[a]? = some x → ms[i]? = some y → x.apart E y = true ∨ anc ops.toList 12 i a = true)
    (hlast : last = lastOk ops.toList ms) (hQ : ∀ a w, Shows N D E L μ0 hb w0 s' a w → Q .normal a w) :
    ∀ (fuel : Nat) (listed : Array Bool) (s : St) (a : Act) (w : World), listed.size = ops.size → Down ops.toList listed → (left ops.size listed).length ≤ fuel → (∀ j ∈ left ops.size listed, S j) → AlE E s →
      (last = true ∨ h0 <+: s.h) → runFree call last h0 ((left ops.size listed).filterMap (ms[·]?)) s = some s' → Shows N D E L μ0 hb w0 s a w → wpAny P .any ops Q fuel listed a w := by
  have hget : ∀ j, j < ops.size → ∃ o m, ops[j]? = some o ∧ ms[j]? = some m ∧ Read1 P N D E L ops o m := fun j hj => by
    have ho : ops[j]? = some ops[j] := Array.getElem?_eq_getElem hj
    obtain ⟨m, q1, q2⟩ := hrd j ops[j] (by simp)
    exact ⟨_, m, ho, q1, q2⟩
  have hgood : ∀ {j m}, ms[j]? = some m → Good N D E L m := fun {j m} hm => by
    refine ⟨f1 m (List.mem_of_getElem? hm), ?_⟩
    have hj : j < ops.size := by have := (List.getElem?_eq_some_iff.1 hm).1; simpa [hlen] using this
    obtain ⟨o, m', q1, q2, q3⟩ := hget j hj
    rw [hm] at q2
    cases q2
    rw [q3.same]
    exact q3.dst
  have done : ∀ (listed : Array Bool) (s : St) (a : Act) (w : World), listed.size = ops.size → runFree call last h0 ((left ops.size listed).filterMap (ms[·]?)) s = some s' → Shows N D E L μ0 hb w0 s a w → Region.ready .any ops listed = [] → Q .normal a w := by
    intro listed s a w hsz hr hR h0
    rw [ready_all hsz f2 h0] at hr
    simp only [List.filterMap_nil, runFree, Option.some.injEq] at hr
    subst hr
    exact hQ _ _ hR
  intro fuel
  induction fuel with
  | zero =>
    intro listed s a w hsz hdn hfu hSl hA hp hr hR
    have hl : left ops.size listed = [] := List.eq_nil_of_length_eq_zero (by omega)
    have hrd : Region.ready .any ops listed = [] := by
      refine List.eq_nil_iff_forall_not_mem.2 fun j hj => ?_
      obtain ⟨h1, o, h2, _⟩ := mem_ready.1 hj
      have : j ∈ left ops.size listed := mem_left.2 ⟨(Array.getElem?_eq_some_iff.1 h2).1, h1⟩
      rw [hl] at this
      cases this
    exact ⟨hrd, done listed s a w hsz hr hR hrd⟩
  | succ fuel ih =>
    intro listed s a w hsz hdn hfu hSl hA hp hr hR
    refine ⟨done listed s a w hsz hr hR, fun i hi => ?_⟩
    obtain ⟨hiun, oi, hoi, hall⟩ := mem_ready.1 hi
    have hin : i < ops.size := (Array.getElem?_eq_some_iff.1 hoi).1
    have hil : i ∈ left ops.size listed := mem_left.2 ⟨hin, hiun⟩
    obtain ⟨l1, l2, e1, e2, e3⟩ := left_split hil
    obtain ⟨o', m, q1, hm, hrm⟩ := hget i hin
    rw [hoi] at q1
    cases q1
    have hanc : ∀ j, anc ops.toList 12 i j = true → listed.getD j true ≠ false := fun j hj hf => by
      have := anc_listed hdn 12 i (fun o ho => by
        have : o = oi := by
          have h2 : ops.toList[i]? = some oi := by simpa using hoi
          rw [h2] at ho
          exact (Option.some.inj ho).symm
        subst this
        exact hall) hj
      exact getD_true_false hf this
    have hr' := hr
    rw [e1, List.filterMap_append, List.filterMap_cons, hm] at hr'
    have hgm := hgood hm
    obtain ⟨s1, k1, k2⟩ := front hgm (fun y hy => by
      obtain ⟨j, hj, hjy⟩ := List.mem_filterMap.1 hy
      have hjl : j ∈ left ops.size listed := by rw [e1]; exact List.mem_append_left _ hj
      have hno : ¬ anc ops.toList 12 i j = true := fun hc => hanc j hc (mem_left.1 hjl).2
      refine ⟨hgood hjy, (f3 i j y m (hSl j hjl) (hSl i hil) (e2 j hj) hjy hm).resolve_right hno, fun hlt => ?_⟩
      rw [hlast] at hlt
      exact ⟨fun q => hno (lastOk_spec hlt (e2 j hj) hjy hm (.inl ⟨q.2, q.1⟩)), fun q => hno (lastOk_spec hlt (e2 j hj) hjy hm (.inr ⟨q.2, q.1⟩))⟩) hA hr'
    rw [← List.filterMap_append, ← e3] at k2
    have hsub : ∀ j, j ∈ left ops.size (listed.setIfInBounds i true) → j ∈ left ops.size listed := fun j hj => by
      rw [e3] at hj
      rw [e1]
      rcases List.mem_append.1 hj with h | h
      · exact List.mem_append_left _ h
      · exact List.mem_append_right _ (List.mem_cons_of_mem _ h)
    have hA1 := (free_frame hgm.1 hgm.2 hA k1).al
    have next : ∀ a w, Shows N D E L μ0 hb w0 s1 a w → wpAny P .any ops Q fuel (listed.setIfInBounds i true) a w := fun a w hR1 => by
      refine ih _ s1 a w (by simpa using hsz) ?_ ?_ (fun j hj => hSl j (hsub j hj)) hA1 ?_ k2 hR1
      · intro j o ho hj e he hbd
        by_cases hji : j = i
        · subst hji
          have : o = oi := by
            have h2 : ops.toList[j]? = some oi := by simpa using hoi
            rw [h2] at ho
            exact (Option.some.inj ho).symm
          subst this
          exact getD_set_true (hall e he hbd)
        · rw [getD_set_ne false (Ne.symm hji)] at hj
          exact getD_set_true (hdn j o ho hj e he hbd)
      · rw [e3]
        rw [e1] at hfu
        simp only [List.length_append, List.length_cons] at hfu ⊢
        omega
      · cases hmk : m.ins.makes with
        | false =>
          rw [(free_frame hgm.1 hgm.2 hA k1).mem hmk]
          exact hp
        | true =>
          rcases free_mem hmk k1 with h | h | h | h
          · rw [h]
            exact hp
          · exact .inl h
          · exact hp.imp id fun g => g.trans h
          · exact .inr h
    obtain ⟨lam, μ, R⟩ := hR
    unfold wpOp
    simp only [hoi]
    cases hw : m.want s with
    | none => unfold MOp.free at k1; rw [hw] at k1; cases k1
    | some b =>
      rw [guard_ok R hrm.guard hw]
      cases b with
      | true =>
        rw [if_pos rfl]
        refine .inl (Oper.wp_mono (fun a w h => next a w h) (go_ok hS hG R hrm.ins hrm.dst hrm.same (free_go hgm.1 hw ?_ k1)))
        exact hp
      | false =>
        rw [if_neg (by simp)]
        have : s1 = m.skip s := by
          unfold MOp.free at k1
          rw [hw] at k1
          exact (Option.some.inj k1).symm
        subst this
        refine next _ _ ⟨lam, μ, ?_⟩
        rw [← hrm.same]
        exact R.skip (fun d hd => dst_lt hrm.dst d (by rw [← hrm.same]; exact hd))
theorem Shows.drawn {s : St} {a : Act} {w : World} {k : Nat} (h : Shows N D E L μ0 hb w0 s a w) : Shows N D E L μ0 hb w0 s a { w with drawn := k } := by
  obtain ⟨lam, μ, R⟩ := h
  exact ⟨lam, μ, R.rt, R.hr.count k, R.to.trans (To.count _ _ _ k), R.loc, R.locs, R.al, R.alD, R.dfr⟩
theorem range_get {α : Type} : ∀ (l : List α) (m : List α), (List.range' m.length l.length).filterMap ((m ++ l)[·]?) = l
  | [], m => rfl
  | x :: l, m => by
    have ih := range_get l (m ++ [x])
    simp only [List.length_append, List.length_cons, List.length_nil, List.append_assoc, List.singleton_append] at ih
    rw [List.length_cons, List.range'_succ, List.filterMap_cons]
    simp only [List.getElem?_append_right (Nat.le_refl _), Nat.sub_self, List.getElem?_cons_zero]
    exact congrArg _ ih
/- A region whose order is open, where blocks are laid in any order: what is laid is shown when all of it is there. -/
theorem anc_lt {ops : List Oper} (f2 : ∀ (i : Nat) (o : Oper), ops[i]? = some o → ∀ e ∈ o.after, Region.binds .any e = true → e.on < i) {a : Nat} : ∀ (n i : Nat), anc ops n i a = true → a < i
  | 0, _, h => by cases h
  | n + 1, i, h => by
    simp only [anc] at h
    split at h
    · rename_i o ho
      simp only [List.any_eq_true, Bool.and_eq_true, Bool.or_eq_true, beq_iff_eq] at h
      obtain ⟨e, he, hb, h⟩ := h
      have hl := f2 i o ho e (by simpa using he) hb
      rcases h with h | h
      · omega
      · have := anc_lt f2 n e.on h
        omega
    · cases h
/-- Slots that say nothing yet. -/
def und (p : Nat → Bool) (s : St) : St := { s with t := fun i => if p i = true then undef else s.t i }
theorem und_agree {p : Nat → Bool} {s : St} {l : List Nat} (h : ∀ i ∈ l, p i = false) : Agree s (und p s) l := fun i hi => ⟨by simp [und, h i hi], rfl, rfl⟩
theorem und_none {p : Nat → Bool} {s : St} (h : ∀ i, p i = false) : und p s = s := by unfold und; simp [h]
theorem Rel.und {p : Nat → Bool} {lam : Nat → Nat} {μ : Map} {s : St} {a : Act} {w : World} (R : Rel N D E L μ0 hb w0 lam μ s a w) : Rel N D E L μ0 hb w0 lam μ (und p s) a w :=
  ⟨⟨R.rt.size, fun i => by
    show VR μ s.h (if p i = true then undef else s.t i) _
    split
    · exact .dead _
    · exact R.rt.t i⟩, R.hr, R.to, R.loc, R.locs, R.al, R.alD, R.dfr⟩
/-- What an operation lays. -/
def layOf (i : MI) (s : St) : Option (Nat × Blk) := match i with
  | .mk sz ty _ zero n => match s.val n with
    | .int .i64 n => if 0 ≤ n ∧ n ≤ lim then some (n.toNat, ⟨zeros zero n.toNat, sz, ty, true⟩) else none
    | _ => none
  | .lit n sz ty zero parts => (fillAt sz (zeros zero n) (parts.map fun p => (p.1, s.val p.2))).map fun cs => (n, ⟨cs, sz, ty, true⟩)
  | _ => none
theorem lays_run {i : MI} {s : St} (h : i.lays = true) : i.run s = (layOf i s).map fun p => (.slice (some ⟨s.h.length, 0, none⟩) p.1 p.1, s.h ++ [p.2]) := by
  cases i <;> first | (cases h; done) | skip
  case mk sz ty b zero n =>
    simp only [MI.run, layOf]
    split
    · rename_i hv
      simp only [hv]
      split <;> rfl
    · rename_i hv
      split
      · rename_i hv2
        exact absurd hv2 (hv _)
      · rfl
  case lit n sz ty zero parts =>
    simp only [MI.run, layOf, Option.map_map]
    rfl
theorem layOf_agree {i : MI} {s q : St} (h : Agree s q i.slots) : layOf i q = layOf i s := by
  cases i <;> first | rfl | skip
  case mk sz ty b zero n => simp only [layOf]; rw [val_agree h]
  case lit n sz ty zero parts => simp only [layOf]; rw [parts_agree h]
theorem lays_makes {i : MI} (h : i.lays = true) : i.makes = true ∧ i.reads = false := by cases i <;> first | (cases h; done) | exact ⟨rfl, rfl⟩
theorem free_lay {m : MOp} {s s1 : St} (h : m.ins.lays = true) (hg : m.guard = none) (hf : m.free call last h0 s = some s1) : ∃ n blk, layOf m.ins s = some (n, blk) ∧ s1 = { s.put m.dst (.slice (some ⟨s.h.length, 0, none⟩) n n) with h := s.h ++ [blk] } := by
  have hr := lays_run (s := s) h
  unfold MOp.free MOp.want at hf
  rw [hg] at hf
  simp only at hf
  cases hi : m.ins <;> rw [hi] at h hf hr <;> first | (cases h; done) | skip
  all_goals
    simp only [MI.makes, if_true, Option.bind_eq_some_iff] at hf
    obtain ⟨⟨v, h2⟩, q, hf⟩ := hf
    rw [hr] at q
    simp only [Option.map_eq_some_iff, Prod.mk.injEq] at q
    obtain ⟨⟨n, blk⟩, q1, q2, q3⟩ := q
    split at hf
    · cases hf
      exact ⟨n, blk, q1, by rw [← q2, ← q3]⟩
    · cases hf
theorem inv_mk {o : Oper} {sz e b : Nat} {z : List Value} {y : Opd} (hc : compIns P D E L o = some (.mk sz e b z y)) : ∃ t x, o.op = .makeSlice t x x ∧ opd x = some y ∧ elemOf P t = some (e, sz, b, z) := by
  unfold compIns at hc
  split at hc <;> (repeat' split at hc) <;> simp only [Option.map_eq_some_iff, Option.some.injEq, reduceCtorEq, MI.mk.injEq, and_false, exists_false] at hc
  · rename_i e; subst e; obtain ⟨rfl, rfl, rfl, rfl, rfl⟩ := hc; exact ⟨_, _, by assumption, rfl, by assumption⟩
  · rename_i e; subst e; obtain ⟨rfl, rfl, rfl, rfl, rfl⟩ := hc; exact ⟨_, _, by assumption, by simp [opd, constOk], by assumption⟩
theorem inv_lit {o : Oper} {n sz e : Nat} {z : List Value} {ps : List (Nat × Opd)} (hc : compIns P D E L o = some (.lit n sz e z ps)) : ∃ t parts b xs, o.op = .buildSlice t n parts ∧ elemOf P t = some (e, sz, b, z) ∧ opds (parts.toList.map (·.2)) = some xs ∧ ps = (parts.toList.map (·.1)).zip xs ∧ n * sz ≤ 16777216 := by
  unfold compIns at hc
  split at hc <;> (repeat' split at hc) <;> simp only [Option.map_eq_some_iff, Option.some.injEq, reduceCtorEq, MI.lit.injEq, and_false, exists_false] at hc
  all_goals (obtain ⟨rfl, rfl, rfl, rfl, rfl⟩ := hc; exact ⟨_, _, _, _, by assumption, by assumption, by assumption, rfl, by assumption⟩)
theorem laid_ok {o : Oper} {i : MI} {lam : Nat → Nat} {μ : Map} {s : St} {a : Act} {w : World} {v : Value} {h' : Heap} (hl : i.lays = true) (R : Rel N D E L μ0 hb w0 lam μ s a w) (hc : compIns P D E L o = some i) (hr : i.run s = some (v, h')) : Laid P μ s w o a v h' := by
  cases i <;> first | (cases hl; done) | skip
  · obtain ⟨t, parts, b, xs, h1, h2, h3, rfl, h5⟩ := inv_lit hc
    exact laid_lit R.rt R.hr h1 h2 h3 h5 hr
  · obtain ⟨t, x, h1, h2, h3⟩ := inv_mk hc
    exact laid_mk R.rt R.hr h1 h2 h3 hr
/-- A block that was laid, and that the memory does not show yet. -/
structure Pend (w0 : World) (lam : Nat → Nat) (μ : Map) (s : St) (a : Act) (w : World) (m : MOp) (g : Nat) : Prop where
  laid : ∃ d n blk cur, m.dst = some d ∧ layOf m.ins s = some (n, blk) ∧ a.tmps.getD d undef = .slice (some ⟨g, 0, none⟩) n n ∧ blk.own = true ∧ 0 < blk.sz ∧ n * blk.sz = blk.cells.length ∧ n ≤ maxLen ∧ w.heap[g]? = some (.cells cur blk.ty (0, 0)) ∧ All2 (VR1 μ s.h) blk.cells cur.toList
  out : ¬ In μ s.h g
  loc : ∀ d cs, s.loc d = some cs → lam d ≠ g
  new : w0.heap.size ≤ g
  lt : g < w.heap.size
theorem Pend.step {lam : Nat → Nat} {μ μ' : Map} {s s1 : St} {a a1 : Act} {w w1 : World} {m : MOp} {g : Nat} (p : Pend w0 lam μ s a w m g) (T : To μ s.h w μ' s1.h w1) (hl : layOf m.ins s1 = layOf m.ins s) (hloc : ∀ d cs, s1.loc d = some cs → ∃ cs', s.loc d = some cs') (ha : ∀ d, m.dst = some d → a1.tmps.getD d undef = a.tmps.getD d undef) : Pend w0 lam μ' s1 a1 w1 m g := by
  obtain ⟨⟨d, n, blk, cur, h1, h2, h3, h4, h5, h6, h7, h8, h9⟩, h10, h11, h12, h13⟩ := p
  refine ⟨⟨d, n, blk, cur, h1, by rw [hl]; exact h2, by rw [ha d h1]; exact h3, h4, h5, h6, h7, ?_, h9.imp fun _ _ k => k.up T.up⟩, fun hm => ?_, fun d cs q => ?_, h12, Nat.lt_of_lt_of_le h13 T.frame.size⟩
  · rw [T.frame.block _ h13 fun ⟨b, blk, q1, _, q2⟩ => h10 ⟨b, blk, q1, q2⟩]
    exact h8
  · rcases T.ins _ hm with k | k
    · omega
    · exact h10 k
  · obtain ⟨cs', q'⟩ := hloc d cs q
    exact h11 d cs' q'
theorem alloc_to {μ : Map} {s : St} {w : World} {x : Obj} {k : Nat} (H : HRel μ s.h w) : HRel μ s.h ({ w with drawn := k }.alloc x) ∧ To μ s.h w μ s.h ({ w with drawn := k }.alloc x) := by
  have hsz : ({ w with drawn := k }.alloc x).heap.size = w.heap.size + 1 := by show (w.heap.push _).size = _; simp
  have hold : ∀ j, j < w.heap.size → ({ w with drawn := k }.alloc x).heap[j]? = w.heap[j]? := fun j hj => heap_alloc_old { w with drawn := k } _ hj
  exact ⟨H.other (g := w.heap.size) (fun ⟨b, blk, hb, e⟩ => by have := H.lt b blk hb; omega) (fun j _ hj => hold j hj) (by omega), Up.refl _ _, ⟨rfl, rfl, rfl, by omega, fun j hj _ => hold j hj⟩, fun _ k => .inr k, fun _ k => .inr k⟩
/-- What is laid in a slot that says nothing changes nothing. -/
theorem Rel.junk {lam : Nat → Nat} {μ : Map} {s : St} {a : Act} {w : World} {d k : Nat} {v' : Value} {x : Obj} (R : Rel N D E L μ0 hb w0 lam μ s a w) (hp : plain D E L d = true) (hd : d < N) (hu : s.t d = undef) : Rel N D E L μ0 hb w0 lam μ s (a.put (some d) v') ({ w with drawn := k }.alloc x) := by
  obtain ⟨H, T⟩ := alloc_to (x := x) (k := k) R.hr
  have := R.put (v := undef) (v' := v') hp hd (.dead _) H T
  have e : ({ s.put (some d) undef with h := s.h } : St) = s := by
    show ({ s with t := upd s.t d undef } : St) = s
    have : upd s.t d undef = s.t := by
      funext i
      by_cases q : i = d
      · rw [q, upd_same, hu]
      · rw [upd_ne _ _ q]
    rw [this]
  rw [e] at this
  exact this
theorem HRel.adopt {μ : Map} {h : Heap} {w : World} (k : HRel μ h w) {blk : Blk} {cur : Array Value} {g : Nat} (ho : blk.own = true) (hp : 0 < blk.sz) (hc : All2 (VR1 μ h) blk.cells cur.toList)
    (hw : w.heap[g]? = some (.cells cur blk.ty (0, 0))) (hn : ¬ In μ h g) (hlt : g < w.heap.size) : HRel (μ.to h.length ⟨g, 0, cur.size⟩) (h ++ [blk]) w := by
  have up := Up.push μ h ⟨g, 0, cur.size⟩ blk
  refine ⟨fun b' blk' hb' i v hv => ?_, fun b' blk' hb' => ?_, fun b' blk' hb' => ?_, fun b' blk' hb' ho' => ?_, fun b1 b2 blk1 blk2 h1 h2 h3 h4 => ?_⟩
  · rcases push_get hb' with ⟨rfl, rfl⟩ | ⟨hlt', hb'⟩
    · obtain ⟨v', h1, h2⟩ := hc.get hv
      refine ⟨v', ?_, h2.up up⟩
      rw [Map.to_same, Nat.zero_add, cell_of_row hw]
      simpa using h1
    · obtain ⟨v', h1, h2⟩ := k.cell b' blk' hb' i v hv
      exact ⟨v', by rw [Map.to_ne _ _ (by omega)]; exact h1, h2.up up⟩
  · rcases push_get hb' with ⟨rfl, rfl⟩ | ⟨hlt', hb'⟩
    · exact hp
    · exact k.pos _ _ hb'
  · rcases push_get hb' with ⟨rfl, rfl⟩ | ⟨hlt', hb'⟩
    · rw [Map.to_same]; exact hlt
    · rw [Map.to_ne _ _ (by omega)]; exact k.lt _ _ hb'
  · rcases push_get hb' with ⟨rfl, rfl⟩ | ⟨hlt', hb'⟩
    · rw [Map.to_same]; exact ⟨rfl, cur, hw, rfl, by rw [hc.1]; simp⟩
    · rw [Map.to_ne _ _ (by omega)]; exact k.own _ _ hb' ho'
  · rcases push_get h1 with ⟨rfl, rfl⟩ | ⟨hlt1, g1⟩
    · rcases push_get h2 with ⟨rfl, rfl⟩ | ⟨hlt2, h2⟩
      · exact absurd rfl h4
      · rw [Map.to_same, Map.to_ne _ _ (by omega)]
        exact fun q => hn ⟨b2, blk2, h2, q⟩
    · rcases push_get h2 with ⟨rfl, rfl⟩ | ⟨hlt2, h2⟩
      · rw [Map.to_same, Map.to_ne _ _ (by omega)]
        exact fun q => hn ⟨b1, blk1, g1, q.symm⟩
      · rw [Map.to_ne _ _ (by omega), Map.to_ne _ _ (by omega)]; exact k.sep _ _ _ _ g1 h2 h3 h4
theorem in_push {μ : Map} {h : Heap} {blk : Blk} {l : Loc} {g : Nat} (hi : In (μ.to h.length l) (h ++ [blk]) g) : g = l.g ∨ In μ h g := by
  obtain ⟨b, bk, hb, q⟩ := hi
  rcases push_get hb with ⟨rfl, rfl⟩ | ⟨hlt, hb⟩
  · rw [Map.to_same] at q; exact .inl q.symm
  · rw [Map.to_ne _ _ (by omega)] at q; exact .inr ⟨b, bk, hb, q⟩
/-- A laid block is shown. -/
theorem Rel.adopt {lam : Nat → Nat} {μ : Map} {s r : St} {a : Act} {w : World} {d n g : Nat} {blk : Blk} {cur : Array Value} (R : Rel N D E L μ0 hb w0 lam μ s a w) (hp : plain D E L d = true) (hd : d < N) (ht : a.tmps.getD d undef = .slice (some ⟨g, 0, none⟩) n n) (ho : blk.own = true) (hz : 0 < blk.sz) (hn : n * blk.sz = blk.cells.length) (hm : n ≤ maxLen)
    (hw : w.heap[g]? = some (.cells cur blk.ty (0, 0))) (hc : All2 (VR1 μ s.h) blk.cells cur.toList) (hi : ¬ In μ s.h g) (hl : ∀ d cs, s.loc d = some cs → lam d ≠ g) (h0 : w0.heap.size ≤ g) (hlt : g < w.heap.size)
    (hr : r = { s with t := upd s.t d (.slice (some ⟨s.h.length, 0, none⟩) n n), h := s.h ++ [blk] }) : Rel N D E L μ0 hb w0 lam (μ.to s.h.length ⟨g, 0, cur.size⟩) r a w := by
  subst hr
  have up := Up.push μ s.h ⟨g, 0, cur.size⟩ blk
  have hcs : blk.cells.length = cur.size := by rw [hc.1, Array.length_toList]
  refine ⟨⟨R.rt.size, fun i => ?_⟩, R.hr.adopt ho hz hc hw hi hlt, ⟨R.to.up.trans up, R.to.frame, fun q hq => ?_, fun q hq => ?_⟩, fun d' ds hd' => ?_, R.locs, R.al, R.alD, R.dfr⟩
  · show VR _ _ (upd s.t d _ i) _
    by_cases e : i = d
    · subst e
      rw [upd_same, ht]
      obtain ⟨cells, sz, ty, own⟩ := blk
      simp only at ho
      subst ho
      exact VR.newSlice hn (Nat.le_refl _) hm rfl (hn.trans hcs)
    · rw [upd_ne _ _ e]
      exact (R.rt.t i).up up
  · obtain ⟨b, bk, hb, hob, q'⟩ := hq
    rcases push_get hb with ⟨rfl, rfl⟩ | ⟨hlt', hb⟩
    · rw [Map.to_same] at q'
      exact .inl (by rw [← q']; exact h0)
    · rw [Map.to_ne _ _ (by omega)] at q'
      exact R.to.keeps q ⟨b, bk, hb, hob, q'⟩
  · rcases in_push hq with k | k
    · exact .inl (by rw [k]; exact h0)
    · exact R.to.ins q k
  · obtain ⟨m1, m2, m3, ⟨cu, ee, m4, m5⟩, m6⟩ := R.loc d' ds hd'
    refine ⟨m1, m2, fun k => ?_, ⟨cu, ee, m4, m5.imp fun _ _ k => k.up up⟩, m6⟩
    rcases in_push k with k | k
    · exact hl d' ds hd' k
    · exact m3 k
theorem asunder_spec {x y : MOp} (h : x.asunder E y = true) : (∀ d, d ∈ x.outs E → d ∉ y.outs E ∧ d ∉ y.slots) ∧ ∀ d, d ∈ y.outs E → d ∉ x.slots := by
  unfold MOp.asunder at h
  simp only [Bool.and_eq_true, List.all_eq_true, Bool.not_eq_true', List.contains_eq_mem, decide_eq_false_iff_not] at h
  exact h
/-- An operation beside which blocks may lie that are not shown yet: the memory takes a step. -/
theorem go_still {o : Oper} {m : MOp} {lam : Nat → Nat} {μ : Map} {s s1 : St} {a : Act} {w : World} {K : Act → World → Prop} {Q : Exit → Act → World → Prop} (hS : SoundC P W call) (hG : Gd W μ0 hb w0) (R : Rel N D E L μ0 hb w0 lam μ s a w) (hc : compIns P D E L o = some m.ins) (hk : dstOk D E L N m.ins o.dst = true) (hd : m.dst = o.dst) (hst : m.ins.still = true) (hg : m.go call s = some s1)
    (hK : ∀ v' μ' w', Rel N D E L μ0 hb w0 lam μ' s1 (a.put o.dst v') w' → To μ s.h w μ' s1.h w' → s1.loc = s.loc → K (a.put o.dst v') w') : o.wp P a w K Q := by
  by_cases hr : m.ins.reads = true
  · have hex : m.go call s = (m.ins.run s).map fun r => { s.put m.dst r.1 with h := r.2 } := by
      unfold MOp.go
      cases hi : m.ins <;> first | rfl | (rw [hi] at hr; cases hr)
    rw [hex] at hg
    simp only [Option.map_eq_some_iff] at hg
    obtain ⟨⟨v, h2⟩, hr2, rfl⟩ := hg
    obtain ⟨d, h1, h3, h4⟩ := dstOk_value hk ⟨_, hr2⟩
    obtain ⟨v', w', μ', k1, k2, k3, k4⟩ := value_ok R hc hr2
    refine wp_value k1 ?_
    have hR := R.put h3 h4 k2 k3 k4
    rw [hd, h1] at hK
    rw [h1]
    exact hK v' μ' w' hR k4 rfl
  · cases hi : m.ins <;> rw [hi] at hst hr hc hk <;> first | (exact absurd hst hr) | (cases hst; done) | skip
    case faB off d =>
      unfold MOp.go at hg
      rw [hi] at hg
      simp only at hg
      split at hg
      · rename_i e cs hmd hl
        cases hg
        rw [hd] at hmd
        rw [hmd] at hk
        obtain ⟨t, f, n, agg, ho, h1, h2⟩ := inv_faB hc
        simp only [dstOk, Bool.and_eq_true, decide_eq_true_eq, Bool.not_eq_true', beq_iff_eq] at hk
        obtain ⟨fs, fd, i, f1, f2, f3, f4, f5, f6, f7⟩ := fieldOf_spec h1
        obtain ⟨_, _, _, _, l6⟩ := R.loc d cs hl
        rcases l6 with ⟨_, _, l6⟩ | ⟨n', _, h, _⟩
        · refine wp_value (v' := .pointer (some ⟨lam d, off, none⟩)) (w' := w) ?_ ?_
          · have h8 : ¬ i.size = 0 := by omega
            have e' : a.eval (.tmp d) = .pointer (some ⟨lam d, 0, none⟩) := l6
            simp [execOp, ho, Instr.fieldAt, run_underlying f1, f2, Instr.sureAddr, e', fieldPlace, run_sizeOf f5, h8, f3, Addr.add_lit]
          · have hR := R.alias hk.2 hk.1.1.1 hk.1.1.2 hk.1.2 h2 (off := off)
            rw [hmd]
            have := hK (.pointer (some ⟨lam d, off, none⟩)) μ w
            rw [hmd] at this
            exact this hR (To.refl _ _ _) rfl
        · rw [h2] at h; cases h
      · cases hg
    case call f args =>
      unfold MOp.go at hg
      rw [hi] at hg
      simp only [Option.map_eq_some_iff] at hg
      obtain ⟨⟨v, h2⟩, hr2, rfl⟩ := hg
      obtain ⟨as, ts, ho, hl⟩ := inv_call hc
      obtain ⟨he, hcc⟩ := hS _ _ _ _ _ hr2
      have ka := opds_all R.rt hl
      refine upon_calls (run_resolve_fn ho he) ?_
      have e : as.map a.eval = ⟨as.toList.map a.eval⟩ := by apply Array.ext'; simp
      rw [e]
      refine (hcc μ w _ R.hr (hG.to R.to) ka).mono fun e w' => ?_
      rintro ⟨v', μ', rfl, h1, h2, h3⟩
      refine ⟨v', rfl, ?_⟩
      cases hdd : o.dst with
      | none =>
        rw [hd, hdd] at hK
        have := hK v' μ' w' (R.mem h2 h3) h3 rfl
        exact this
      | some d =>
        rw [hdd] at hk
        have hkd : plain D E L d = true ∧ d < N := by simpa [dstOk] using hk
        rw [hd, hdd] at hK
        exact hK v' μ' w' (R.put hkd.1 hkd.2 h1 h2 h3) h3 rfl
/-- All that was laid is shown. -/
theorem adopt_all {pre post : List MOp} {s' : St} {lam : Nat → Nat} {a : Act} {w : World} : ∀ (l : List (MOp × Nat)) (s : St) (μ : Map),
    (∀ p ∈ l, Good N D E L p.1 ∧ p.1.ins.lays = true ∧ p.1.guard = none ∧ Pend w0 lam μ s a w p.1 p.2 ∧ ∀ y ∈ pre, ApartL last E y p.1) → (∀ y ∈ pre, Good N D E L y) →
    l.Pairwise (fun p q => p.2 ≠ q.2 ∧ p.1.asunder E q.1 = true) → runFree call last h0 (pre ++ (l.map (·.1)) ++ post) s = some s' → AlE E s → (last = true ∨ h0 <+: s.h) →
    Rel N D E L μ0 hb w0 lam μ (und (dstsOf (l.map (·.1))) s) a w →
    ∃ s2, runFree call last h0 (pre ++ post) s2 = some s' ∧ Shows N D E L μ0 hb w0 s2 a w ∧ AlE E s2 ∧ (last = true ∨ h0 <+: s2.h)
  | [], s, μ, _, _, _, hr, hA, hp, R => by
    rw [List.map_nil, List.append_nil] at hr
    rw [und_none (p := dstsOf (([] : List (MOp × Nat)).map (·.1))) (fun i => rfl)] at R
    exact ⟨s, hr, ⟨lam, μ, R⟩, hA, hp⟩
  | (m, g) :: l, s, μ, hl, hpre, hpw, hr, hA, hp, R => by
    obtain ⟨gm, hlay, hgd, pd, hap⟩ := hl (m, g) List.mem_cons_self
    rw [List.pairwise_cons] at hpw
    obtain ⟨hpw1, hpw2⟩ := hpw
    have hr' : runFree call last h0 (pre ++ m :: (l.map (·.1) ++ post)) s = some s' := by simpa using hr
    obtain ⟨s1, k1, k2⟩ := front gm (fun y hy => ⟨hpre y hy, hap y hy⟩) hA hr'
    have fm := free_frame gm.1 gm.2 hA k1
    obtain ⟨n, blk, q1, q2⟩ := free_lay hlay hgd k1
    obtain ⟨⟨d, n', blk', cur, e1, e2, e3, e4, e5, e6, e7, e8, e9⟩, o1, o2, o3, o4⟩ := pd
    have e0 : (n', blk') = (n, blk) := Option.some.inj (e2.symm.trans q1)
    injection e0 with ea eb
    subst ea
    subst eb
    have hkd : plain D E L d = true ∧ d < N := by
      have := gm.2
      rw [e1] at this
      cases hi : m.ins <;> rw [hi] at hlay this <;> first | (cases hlay; done) | simpa [dstOk] using this
    have houts : d ∈ m.outs E := by
      unfold MOp.outs
      rw [e1]
      cases hi : m.ins <;> rw [hi] at hlay <;> first | (cases hlay; done) | exact List.mem_cons_self
    rw [e1] at q2
    have hnd : ∀ q ∈ l, q.1.dst ≠ some d := fun q hq hqd => by
      have h1 := (asunder_spec (hpw1 q hq).2).1 d houts
      refine h1.1 ?_
      have gq := hl q (List.mem_cons_of_mem _ hq)
      unfold MOp.outs
      rw [hqd]
      cases hi : q.1.ins <;> rw [hi] at gq <;> first | (cases gq.2.1; done) | exact List.mem_cons_self
    have R1 := R.adopt (g := g) (n := n') (blk := blk') (cur := cur) (r := und (dstsOf (l.map (·.1))) s1) hkd.1 hkd.2 e3 e4 e5 e6 e7 e8 e9 o1 o2 o3 o4 (by
      rw [q2]
      unfold und
      simp only [St.put]
      congr 1
      funext i
      by_cases hid : i = d
      · subst hid
        rw [upd_same, upd_same]
        have : dstsOf (l.map (·.1)) i = false := by
          unfold dstsOf
          rw [List.any_eq_false]
          intro x hx
          obtain ⟨q, hq, rfl⟩ := List.mem_map.1 hx
          simpa using hnd q hq
        rw [this]
        simp
      · rw [upd_ne _ _ hid, upd_ne _ _ hid]
        have : dstsOf (((m, g) :: l).map (·.1)) i = dstsOf (l.map (·.1)) i := by
          unfold dstsOf
          rw [List.map_cons, List.any_cons, e1]
          have : (some d == some i) = false := by simpa using fun q : d = i => hid q.symm
          rw [this, Bool.false_or]
        rw [this])
    have hs1h : s1.h = s.h ++ [blk'] := by rw [q2]
    have hs1l : s1.loc = s.loc := by rw [q2]; rfl
    refine adopt_all l s1 _ (fun q hq => ?_) hpre hpw2 (by simpa using k2) fm.al (by rw [hs1h]; exact hp.imp id fun k => k.trans (List.prefix_append _ _)) R1
    obtain ⟨gq, lq, uq, pq, aq⟩ := hl q (List.mem_cons_of_mem _ hq)
    refine ⟨gq, lq, uq, ?_, aq⟩
    obtain ⟨⟨d2, n2, blk2, cur2, j1, j2, j3, j4, j5, j6, j7, j8, j9⟩, r1, r2, r3, r4⟩ := pq
    have up : Up μ s.h (μ.to s.h.length ⟨g, 0, cur.size⟩) s1.h := by rw [hs1h]; exact Up.push μ s.h ⟨g, 0, cur.size⟩ blk'
    refine ⟨⟨d2, n2, blk2, cur2, j1, ?_, j3, j4, j5, j6, j7, j8, j9.imp fun _ _ k => k.up up⟩, fun k => ?_, by rw [hs1l]; exact r2, r3, r4⟩
    · rw [layOf_agree (s := s)]
      · exact j2
      · intro i hi
        refine fm.off i fun hio => ?_
        exact ((asunder_spec (hpw1 q hq).2).1 i hio).2 (by unfold MOp.slots; exact List.mem_append_left _ hi)
    · rw [hs1h] at k
      rcases in_push k with k | k
      · exact (hpw1 q hq).1 k.symm
      · exact r1 k
theorem apart_asunder {x y : MOp} (h : x.apart E y = true) : x.asunder E y = true := by
  unfold MOp.apart at h
  unfold MOp.asunder
  simp only [Bool.and_eq_true] at h ⊢
  exact ⟨h.1.2, h.2⟩
theorem asunder_apart {x y : MOp} (h : x.asunder E y = true) (hm : x.ins.makes = false ∨ y.ins.makes = false) : x.apart E y = true := by
  unfold MOp.asunder at h
  unfold MOp.apart
  simp only [Bool.and_eq_true] at h ⊢
  refine ⟨⟨?_, h.1⟩, h.2⟩
  rcases hm with q | q <;> rw [q] <;> simp
theorem lateOk_spec {ops : List Oper} {ms : List MOp} (h : lateOk E ops ms = true) :
    (∀ m ∈ ms, m.ins.freely = true) ∧ (∀ (i : Nat) (o : Oper), ops[i]? = some o → ∀ e ∈ o.after, Region.binds .any e = true → e.on < i) ∧
    (∀ (i a : Nat) (x y : MOp), a < i → ms[a]? = some x → ms[i]? = some y → (isLay ms a = true → isLay ms i = true → x.asunder E y = true) ∧ (isLay ms a = false ∨ isLay ms i = false → x.asunder E y = true ∨ anc ops 12 i a = true) ∧ (isLay ms a = false → isLay ms i = false → x.apart E y = true ∨ anc ops 12 i a = true)) ∧
    (∀ i, i < ms.length → isLay ms i = true ∨ (isFore ops ms i = true ∧ insAt MI.still ms i = true) ∨ (isLate ops ms i = true ∧ ∀ a, a < ms.length → insAt MI.makes ms a = true → isLay ms a = true ∨ isLate ops ms a = true ∨ anc ops 12 i a = true)) ∧
    (∀ (i : Nat) (m : MOp), ms[i]? = some m → (isLay ms i = true → ∀ d ∈ m.slots, layDst ms d = false) ∧ (isLay ms i = false → isFore ops ms i = true → ∀ d, d ∈ m.slots ∨ d ∈ m.outs E → layDst ms d = false)) ∧ ∃ j, isLay ms j = true := by
  unfold lateOk at h
  simp only [Bool.and_eq_true, List.all_eq_true] at h
  obtain ⟨⟨⟨⟨⟨⟨_, h6⟩, h1⟩, h2⟩, h3⟩, h4⟩, h5⟩ := h
  refine ⟨h1, fun i o ho e he hb => ?_, fun i a x y hai hx hy => ?_, fun i hi => ?_, fun i m hm => ?_, by
    obtain ⟨j, _, hj⟩ := List.any_eq_true.1 h6
    exact ⟨j, hj⟩⟩
  · have := h2 i (List.mem_range.2 (List.getElem?_eq_some_iff.1 ho).1)
    rw [ho] at this
    simp only [List.all_eq_true, Bool.or_eq_true, Bool.not_eq_true', decide_eq_true_eq] at this
    rcases this e (by simpa using he) with h | h
    · rw [hb] at h; cases h
    · exact h
  · have := h3 i (List.mem_range.2 (List.getElem?_eq_some_iff.1 hy).1) a (List.mem_range.2 hai)
    rw [hx, hy] at this
    cases ha : isLay ms a with
    | true =>
      cases hi2 : isLay ms i with
      | true =>
        simp only [ha, hi2, true_and, and_true, if_true] at this
        exact ⟨fun _ _ => this, fun q => (by rcases q with q | q <;> cases q), fun q => (by cases q)⟩
      | false =>
        simp [ha, hi2] at this
        exact ⟨fun _ q => (by cases q), fun _ => this, fun q => (by cases q)⟩
    | false =>
      cases hi2 : isLay ms i with
      | true =>
        simp [ha, hi2] at this
        exact ⟨fun q => (by cases q), fun _ => this, fun _ q => (by cases q)⟩
      | false =>
        simp [ha, hi2] at this
        exact ⟨fun q => (by cases q), fun _ => this.imp_left apart_asunder, fun _ _ => this⟩
  · have := h4 i (List.mem_range.2 hi)
    simp only [Bool.or_eq_true, Bool.and_eq_true, List.all_eq_true, Bool.not_eq_true'] at this
    rcases this with (q | q) | q
    · exact .inl q
    · exact .inr (.inl q)
    · refine .inr (.inr ⟨q.1, fun a ha hm => ?_⟩)
      rcases q.2 a (List.mem_range.2 ha) with ((k | k) | k) | k
      · rw [hm] at k; cases k
      · exact .inl k
      · exact .inr (.inl k)
      · exact .inr (.inr k)
  · have := h5 i (List.mem_range.2 (List.getElem?_eq_some_iff.1 hm).1)
    rw [hm] at this
    simp only at this
    split at this
    · rename_i hl
      simp only [List.all_eq_true, Bool.not_eq_true'] at this
      exact ⟨fun _ => this, fun q => by rw [hl] at q; cases q⟩
    · rename_i hl
      simp only [Bool.or_eq_true, Bool.not_eq_true', List.all_eq_true, List.mem_append] at this
      refine ⟨fun q => absurd q hl, fun _ hf d hd => ?_⟩
      rcases this with k | k
      · rw [hf] at k; cases k
      · exact k d hd
theorem isLate_spec {ops : List Oper} {ms : List MOp} {i : Nat} (h : isLate ops ms i = true) {a : Nat} (ha : isLay ms a = true) (hl : a < ms.length) : anc ops 12 i a = true := by
  unfold isLate at h
  rw [List.all_eq_true] at h
  have := h a (List.mem_range.2 hl)
  rw [ha] at this
  simpa using this
theorem isFore_spec {ops : List Oper} {ms : List MOp} {i : Nat} (h : isFore ops ms i = true) {a : Nat} (ha : isLay ms a = true) (hl : a < ms.length) : ¬ anc ops 12 i a = true := by
  unfold isFore at h
  rw [List.all_eq_true] at h
  have := h a (List.mem_range.2 hl)
  rw [ha] at this
  simpa using this
theorem isLay_lt {ms : List MOp} {i : Nat} (h : isLay ms i = true) : i < ms.length ∧ ∃ m, ms[i]? = some m ∧ m.ins.lays = true ∧ m.guard = none := by
  unfold isLay at h
  split at h
  · rename_i m hm
    simp only [Bool.and_eq_true, Option.isNone_iff_eq_none] at h
    exact ⟨(List.getElem?_eq_some_iff.1 hm).1, m, hm, h⟩
  · cases h
/-- What is not listed, and all that lays, in the late order. -/
def leftL (ops : List Oper) (ms : List MOp) (listed : Array Bool) : List Nat := (lateIdx ops ms).filter fun j => isLay ms j || !listed.getD j true
theorem sorted_split {l : List Nat} (hp : l.Pairwise (· < ·)) {i : Nat} (hi : i ∈ l) : ∃ l1 l2, l = l1 ++ i :: l2 ∧ (∀ y ∈ l1, y < i) ∧ l.filter (· != i) = l1 ++ l2 := by
  obtain ⟨l1, l2, h⟩ := List.append_of_mem hi
  rw [h, List.pairwise_append] at hp
  obtain ⟨p1, p2, p3⟩ := hp
  rw [List.pairwise_cons] at p2
  refine ⟨l1, l2, h, fun y hy => p3 y hy i List.mem_cons_self, ?_⟩
  rw [h, List.filter_append, List.filter_cons]
  simp only [bne_self_eq_false, Bool.false_eq_true, if_false]
  rw [List.filter_eq_self.2 fun y hy => by simp; have := p3 y hy i List.mem_cons_self; omega, List.filter_eq_self.2 fun y hy => by simp; have := p2.1 y hy; omega]
theorem firstLate_spec {ops : List Oper} {ms : List MOp} (f2 : ∀ (i : Nat) (o : Oper), ops[i]? = some o → ∀ e ∈ o.after, Region.binds .any e = true → e.on < i) {j : Nat} (hj : isLay ms j = true) : j < firstLate ops ms := by
  unfold firstLate
  obtain ⟨hlt, _⟩ := isLay_lt hj
  cases hf : (List.range ms.length).find? fun i => !isLay ms i && isLate ops ms i with
  | none => exact hlt
  | some k =>
    have h1 := List.find?_some hf
    simp only [Bool.and_eq_true] at h1
    exact anc_lt f2 12 k (isLate_spec h1.2 hj hlt)
theorem firstLate_ahead {ops : List Oper} {ms : List MOp} {j : Nat} (h : j < firstLate ops ms) (hj : j < ms.length) (hl : isLay ms j = false) : isLate ops ms j = false := by
  unfold firstLate at h
  cases hf : (List.range ms.length).find? fun i => !isLay ms i && isLate ops ms i with
  | none =>
    have := List.find?_eq_none.1 hf j (List.mem_range.2 hj)
    rw [hl] at this
    simpa using this
  | some k =>
    rw [hf] at h
    simp only [Option.getD_some] at h
    obtain ⟨as, bs, h1, h2⟩ := (List.find?_eq_some_iff_append.1 hf).2
    have hjm : j ∈ as := by
      have hr : j ∈ List.range ms.length := List.mem_range.2 hj
      have hp : (List.range ms.length).Pairwise (· < ·) := List.pairwise_lt_range
      rw [h1] at hr hp
      rcases List.mem_append.1 hr with q | q
      · exact q
      · exfalso
        rw [List.pairwise_append] at hp
        rcases List.mem_cons.1 q with q | q
        · omega
        · have := (List.pairwise_cons.1 hp.2.1).1 j q
          omega
    have := h2 j hjm
    rw [hl] at this
    simpa using this
theorem late_split {ops : List Oper} {ms : List MOp} {listed : Array Bool} (f2 : ∀ (i : Nat) (o : Oper), ops[i]? = some o → ∀ e ∈ o.after, Region.binds .any e = true → e.on < i) {i : Nat} (hi : i < ms.length) (hl : isLay ms i = false) (hu : listed.getD i true = false) :
    ∃ l1 l2, leftL ops ms listed = l1 ++ i :: l2 ∧ (∀ j ∈ l1, j < i ∧ j < ms.length ∧ (isLay ms j = true ∨ listed.getD j true = false) ∧ (isLay ms j = true → ¬ i < firstLate ops ms)) ∧ leftL ops ms (listed.setIfInBounds i true) = l1 ++ l2 := by
  have hset : ∀ (l : List Nat), (∀ j ∈ l, True) → (l.filter fun j => isLay ms j || !(listed.setIfInBounds i true).getD j true) = (l.filter fun j => isLay ms j || !listed.getD j true).filter (· != i) := fun l _ => by
    rw [List.filter_filter]
    refine List.filter_congr fun j _ => ?_
    by_cases hji : j = i
    · subst hji
      have hlt : j < listed.size ∨ listed.size ≤ j := Nat.lt_or_ge _ _
      rcases hlt with hlt | hlt
      · simp [hlt, hl]
      · simp [Array.getElem?_eq_none hlt] at hu
    · rw [getD_set_ne true (Ne.symm hji)]
      simp [hji]
  have hu' : (isLay ms i || !listed.getD i true) = true := by rw [hu]; simp
  unfold leftL lateIdx
  obtain ⟨A, hA⟩ : ∃ A, A = (List.range ms.length).filter fun i => !isLay ms i && decide (i < firstLate ops ms) := ⟨_, rfl⟩
  obtain ⟨B, hB⟩ : ∃ B, B = (List.range ms.length).filter fun i => !isLay ms i && !decide (i < firstLate ops ms) := ⟨_, rfl⟩
  obtain ⟨M, hM⟩ : ∃ M, M = (List.range ms.length).filter (isLay ms) := ⟨_, rfl⟩
  rw [← hA, ← hB, ← hM, List.filter_append, List.filter_append, List.filter_append, List.filter_append, hset A fun _ _ => trivial, hset B fun _ _ => trivial, hset M fun _ _ => trivial]
  have hmemF : ∀ {l : List Nat} {j}, j ∈ l.filter (fun j => isLay ms j || !listed.getD j true) → isLay ms j = true ∨ listed.getD j true = false := fun h => by
    have := (List.mem_filter.1 h).2
    simpa using this
  have hMi : (M.filter fun j => isLay ms j || !listed.getD j true).filter (· != i) = M.filter fun j => isLay ms j || !listed.getD j true := by
    refine List.filter_eq_self.2 fun y hy => ?_
    have : isLay ms y = true := by have := (List.mem_filter.1 hy).1; rw [hM] at this; exact (List.mem_filter.1 this).2
    have : y ≠ i := fun q => by rw [q, hl] at this; cases this
    simpa using this
  rw [hMi]
  have lenA : ∀ {j}, j ∈ A → j < ms.length ∧ j < firstLate ops ms := fun h => by
    rw [hA] at h
    have h1 := List.mem_filter.1 h
    exact ⟨List.mem_range.1 h1.1, by have := h1.2; simp only [Bool.and_eq_true] at this; exact of_decide_eq_true this.2⟩
  have lenB : ∀ {j}, j ∈ B → j < ms.length ∧ ¬ j < firstLate ops ms := fun h => by
    rw [hB] at h
    have h1 := List.mem_filter.1 h
    exact ⟨List.mem_range.1 h1.1, by have := h1.2; simp only [Bool.and_eq_true] at this; simpa using this.2⟩
  have lenM : ∀ {j}, j ∈ M → j < ms.length ∧ j < firstLate ops ms := fun h => by
    rw [hM] at h
    have h1 := List.mem_filter.1 h
    exact ⟨List.mem_range.1 h1.1, firstLate_spec f2 h1.2⟩
  by_cases hk : i < firstLate ops ms
  · have hiA : i ∈ A.filter fun j => isLay ms j || !listed.getD j true := by
      rw [hA]
      refine List.mem_filter.2 ⟨List.mem_filter.2 ⟨List.mem_range.2 hi, by simp [hl, hk]⟩, hu'⟩
    have hpA : (A.filter fun j => isLay ms j || !listed.getD j true).Pairwise (· < ·) := by rw [hA]; exact List.Pairwise.filter _ (List.Pairwise.filter _ List.pairwise_lt_range)
    obtain ⟨l1, l2, e1, e2, e3⟩ := sorted_split hpA hiA
    have hBi : (B.filter fun j => isLay ms j || !listed.getD j true).filter (· != i) = B.filter fun j => isLay ms j || !listed.getD j true := by
      refine List.filter_eq_self.2 fun y hy => ?_
      have := (lenB (List.mem_filter.1 hy).1).2
      have : y ≠ i := by omega
      simpa using this
    rw [e3, hBi, e1]
    refine ⟨l1, l2 ++ ((M.filter fun j => isLay ms j || !listed.getD j true) ++ (B.filter fun j => isLay ms j || !listed.getD j true)), by rw [List.append_assoc, List.append_assoc]; rfl, fun j hj => ?_, by rw [List.append_assoc, List.append_assoc]⟩
    have hj' : j ∈ A.filter fun j => isLay ms j || !listed.getD j true := by rw [e1]; exact List.mem_append_left _ hj
    refine ⟨e2 j hj, (lenA (List.mem_filter.1 hj').1).1, hmemF hj', fun q => ?_⟩
    have h1 := (List.mem_filter.1 hj').1
    rw [hA] at h1
    have h2 := (List.mem_filter.1 h1).2
    rw [q] at h2
    cases h2
  · have hiB : i ∈ B.filter fun j => isLay ms j || !listed.getD j true := by
      rw [hB]
      refine List.mem_filter.2 ⟨List.mem_filter.2 ⟨List.mem_range.2 hi, by simp [hl, hk]⟩, hu'⟩
    have hpB : (B.filter fun j => isLay ms j || !listed.getD j true).Pairwise (· < ·) := by rw [hB]; exact List.Pairwise.filter _ (List.Pairwise.filter _ List.pairwise_lt_range)
    obtain ⟨l1, l2, e1, e2, e3⟩ := sorted_split hpB hiB
    have hAi : (A.filter fun j => isLay ms j || !listed.getD j true).filter (· != i) = A.filter fun j => isLay ms j || !listed.getD j true := by
      refine List.filter_eq_self.2 fun y hy => ?_
      have := (lenA (List.mem_filter.1 hy).1).2
      have : y ≠ i := by omega
      simpa using this
    rw [e3, hAi, e1]
    refine ⟨(A.filter fun j => isLay ms j || !listed.getD j true) ++ (M.filter fun j => isLay ms j || !listed.getD j true) ++ l1, l2, by rw [List.append_assoc (_ ++ _) l1], fun j hj => ?_, by rw [List.append_assoc (_ ++ _) l1]⟩
    rcases List.mem_append.1 hj with hj | hj
    · rcases List.mem_append.1 hj with hj | hj
      · have := lenA (List.mem_filter.1 hj).1
        exact ⟨by omega, this.1, hmemF hj, fun _ => hk⟩
      · have := lenM (List.mem_filter.1 hj).1
        exact ⟨by omega, this.1, hmemF hj, fun _ => hk⟩
    · have hj' : j ∈ B.filter fun j => isLay ms j || !listed.getD j true := by rw [e1]; exact List.mem_append_left _ hj
      exact ⟨e2 j hj, (lenB (List.mem_filter.1 hj').1).1, hmemF hj', fun _ => hk⟩
theorem layDst_of {ms : List MOp} {j d : Nat} {m : MOp} (hj : isLay ms j = true) (hm : ms[j]? = some m) (hd : m.dst = some d) : layDst ms d = true := by
  unfold layDst dstsOf
  rw [List.any_eq_true]
  refine ⟨m, List.mem_filterMap.2 ⟨j, List.mem_filter.2 ⟨List.mem_range.2 (isLay_lt hj).1, hj⟩, hm⟩, by rw [hd]; simp⟩
theorem apart_symm {x y : MOp} (h : x.apart E y = true) : y.apart E x = true := by
  unfold MOp.apart at h ⊢
  simp only [Bool.and_eq_true, Bool.not_eq_true', Bool.and_eq_false_iff, List.all_eq_true, List.contains_eq_mem, decide_eq_false_iff_not] at h ⊢
  obtain ⟨⟨h1, h2⟩, h3⟩ := h
  exact ⟨⟨h1.symm, fun d hd => ⟨fun k => (h2 d k).1 hd, h3 d hd⟩⟩, fun d hd => (h2 d hd).2⟩
/-- What is laid is laid from slots that nobody ahead has turned. -/
theorem lay_at {m : MOp} {l2 : List MOp} {s' : St} (hl : m.ins.lays = true) (hg : m.guard = none) : ∀ {l1 : List MOp} {s : St}, (∀ y ∈ l1, Good N D E L y ∧ ∀ d ∈ y.outs E, d ∉ m.slots) → AlE E s → runFree call last h0 (l1 ++ m :: l2) s = some s' → ∃ n blk, layOf m.ins s = some (n, blk)
  | [], s, _, _, h => by
    simp only [List.nil_append, runFree, Option.bind_eq_some_iff] at h
    obtain ⟨s1, h1, _⟩ := h
    obtain ⟨n, blk, q, _⟩ := free_lay hl hg h1
    exact ⟨n, blk, q⟩
  | y :: l1, s, hy, hA, h => by
    simp only [List.cons_append, runFree, Option.bind_eq_some_iff] at h
    obtain ⟨t, ht, h⟩ := h
    obtain ⟨gy, oy⟩ := hy y List.mem_cons_self
    have fy := free_frame gy.1 gy.2 hA ht
    obtain ⟨n, blk, q⟩ := lay_at hl hg (fun z hz => hy z (List.mem_cons_of_mem _ hz)) fy.al h
    refine ⟨n, blk, ?_⟩
    rw [← q]
    exact (layOf_agree fun i hi => fy.off i fun k => oy i k (by unfold MOp.slots; exact List.mem_append_left _ hi)).symm
/-- One walk serves every order; what is laid is shown when all of it is there. -/
theorem late_any {ops : Array Oper} {ms : List MOp} {s' : St} {Q : Exit → Act → World → Prop} (hS : SoundC P W call) (hG : Gd W μ0 hb w0) (hlen : ms.length = ops.toList.length) (hrd : ∀ (j : Nat) (o : Oper), ops.toList[j]? = some o → ∃ m, ms[j]? = some m ∧ Read1 P N D E L ops o m)
    (hlate : lateOk E ops.toList ms = true) (hlast : last = lastOk ops.toList ms) (hQ : ∀ a w, Shows N D E L μ0 hb w0 s' a w → Q .normal a w) :
    ∀ (fuel : Nat) (listed : Array Bool) (s : St) (a : Act) (w : World) (lam : Nat → Nat) (μ : Map) (G : Nat → Nat), listed.size = ops.size → Down ops.toList listed → (left ops.size listed).length ≤ fuel → AlE E s → (last = true ∨ h0 <+: s.h) →
      (∀ j, j < ops.size → isLay ms j = false → isLate ops.toList ms j = true → listed.getD j true = false) →
      runFree call last h0 ((leftL ops.toList ms listed).filterMap (ms[·]?)) s = some s' → Rel N D E L μ0 hb w0 lam μ (und (layDst ms) s) a w →
      (∀ j m, isLay ms j = true → listed.getD j true = true → ms[j]? = some m → Pend w0 lam μ s a w m (G j)) →
      (∀ j j', isLay ms j = true → isLay ms j' = true → listed.getD j true = true → listed.getD j' true = true → j ≠ j' → G j ≠ G j') → wpAny P .any ops Q fuel listed a w := by
  obtain ⟨f1, f2, f3, f4, f5, j0, hj0⟩ := lateOk_spec hlate
  have hn : ms.length = ops.size := by simpa using hlen
  have hget : ∀ j, j < ops.size → ∃ o m, ops[j]? = some o ∧ ms[j]? = some m ∧ Read1 P N D E L ops o m := fun j hj => by
    have ho : ops[j]? = some ops[j] := Array.getElem?_eq_getElem hj
    obtain ⟨m, q1, q2⟩ := hrd j ops[j] (by simp)
    exact ⟨_, m, ho, q1, q2⟩
  have hgood : ∀ {j m}, ms[j]? = some m → Good N D E L m := fun {j m} hm => by
    refine ⟨f1 m (List.mem_of_getElem? hm), ?_⟩
    have hj : j < ops.size := by have := (List.getElem?_eq_some_iff.1 hm).1; omega
    obtain ⟨o, m', q1, q2, q3⟩ := hget j hj
    rw [hm] at q2
    cases q2
    rw [q3.same]
    exact q3.dst
  -- all that lays is there, and what else turns the memory ahead of the late ones is done
  have whole : ∀ (fuel : Nat) (listed : Array Bool) (s : St) (a : Act) (w : World) (lam : Nat → Nat) (μ : Map) (G : Nat → Nat), listed.size = ops.size → Down ops.toList listed → (left ops.size listed).length ≤ fuel → AlE E s → (last = true ∨ h0 <+: s.h) →
      runFree call last h0 ((leftL ops.toList ms listed).filterMap (ms[·]?)) s = some s' → Rel N D E L μ0 hb w0 lam μ (und (layDst ms) s) a w →
      (∀ j m, isLay ms j = true → listed.getD j true = true → ms[j]? = some m → Pend w0 lam μ s a w m (G j)) →
      (∀ j j', isLay ms j = true → isLay ms j' = true → listed.getD j true = true → listed.getD j' true = true → j ≠ j' → G j ≠ G j') →
      (∀ j, isLay ms j = true → listed.getD j true = true) → (∀ j, j < ms.length → isLay ms j = false → isFore ops.toList ms j = true → insAt MI.makes ms j = true → listed.getD j true = true) → wpAny P .any ops Q fuel listed a w := by
    intro fuel listed s a w lam μ G hsz hdn hfu hA hp hr R hP hD hL1 hL2
    obtain ⟨pre, hpre⟩ : ∃ l, l = (((List.range ms.length).filter fun i => !isLay ms i && decide (i < firstLate ops.toList ms)).filter fun j => isLay ms j || !listed.getD j true).filterMap (ms[·]?) := ⟨_, rfl⟩
    obtain ⟨post, hpost⟩ : ∃ l, l = (((List.range ms.length).filter fun i => !isLay ms i && !decide (i < firstLate ops.toList ms)).filter fun j => isLay ms j || !listed.getD j true).filterMap (ms[·]?) := ⟨_, rfl⟩
    have hMf : ((List.range ms.length).filter (isLay ms)).filter (fun j => isLay ms j || !listed.getD j true) = (List.range ms.length).filter (isLay ms) := by
      refine List.filter_eq_self.2 fun j hj => ?_
      rw [(List.mem_filter.1 hj).2]
      rfl
    obtain ⟨lay, hlay⟩ : ∃ l : List (MOp × Nat), l = ((List.range ms.length).filter (isLay ms)).filterMap fun j => (ms[j]?).map fun m => (m, G j) := ⟨_, rfl⟩
    have hl1 : lay.map (·.1) = ((List.range ms.length).filter (isLay ms)).filterMap (ms[·]?) := by
      rw [hlay, List.map_filterMap]
      congr 1
      funext j
      cases ms[j]? <;> rfl
    have hmem : ∀ p ∈ lay, ∃ j, isLay ms j = true ∧ ms[j]? = some p.1 ∧ p.2 = G j := fun p hp => by
      rw [hlay] at hp
      obtain ⟨j, hj, hq⟩ := List.mem_filterMap.1 hp
      simp only [Option.map_eq_some_iff] at hq
      obtain ⟨m, q1, rfl⟩ := hq
      exact ⟨j, (List.mem_filter.1 hj).2, q1, rfl⟩
    have hprem : ∀ y ∈ pre, ∃ j, ms[j]? = some y ∧ isLay ms j = false ∧ listed.getD j true = false ∧ isFore ops.toList ms j = true ∧ y.ins.makes = false := fun y hy => by
      rw [hpre] at hy
      obtain ⟨j, hj, hjy⟩ := List.mem_filterMap.1 hy
      obtain ⟨hj1, hj2⟩ := List.mem_filter.1 hj
      have hj3 := (List.mem_filter.1 hj1).2
      simp only [Bool.and_eq_true, Bool.not_eq_true', decide_eq_true_eq] at hj3
      have hju : listed.getD j true = false := by rw [hj3.1] at hj2; simpa using hj2
      have hjl : j < ms.length := (List.getElem?_eq_some_iff.1 hjy).1
      have hnl := firstLate_ahead hj3.2 hjl hj3.1
      have hfo : isFore ops.toList ms j = true := by
        rcases f4 j hjl with q | q | q
        · rw [hj3.1] at q; cases q
        · exact q.1
        · rw [hnl] at q; cases q.1
      refine ⟨j, hjy, hj3.1, hju, hfo, ?_⟩
      cases hm : y.ins.makes with
      | false => rfl
      | true =>
        have := hL2 j hjl hj3.1 hfo (by unfold insAt; rw [hjy]; exact hm)
        rw [hju] at this
        cases this
    have hrun : runFree call last h0 (pre ++ lay.map (·.1) ++ post) s = some s' := by
      rw [hl1, hpre, hpost]
      have e : leftL ops.toList ms listed = (((List.range ms.length).filter fun i => !isLay ms i && decide (i < firstLate ops.toList ms)).filter fun j => isLay ms j || !listed.getD j true) ++ (List.range ms.length).filter (isLay ms) ++ (((List.range ms.length).filter fun i => !isLay ms i && !decide (i < firstLate ops.toList ms)).filter fun j => isLay ms j || !listed.getD j true) := by
        unfold leftL lateIdx
        rw [List.filter_append, List.filter_append, hMf]
      rw [e, List.filterMap_append, List.filterMap_append] at hr
      exact hr
    have hdst : dstsOf (lay.map (·.1)) = layDst ms := by unfold layDst; rw [hl1]
    obtain ⟨s2, k1, k2, k3, k4⟩ := adopt_all (N := N) (D := D) (L := L) (μ0 := μ0) (hb := hb) (w0 := w0) (lam := lam) (a := a) (w := w) lay s μ (fun p hp' => by
        obtain ⟨j, hj, hm, hg⟩ := hmem p hp'
        obtain ⟨_, m, hm', hl, hgd⟩ := isLay_lt hj
        rw [hm] at hm'
        cases hm'
        refine ⟨hgood hm, hl, hgd, by rw [hg]; exact hP j _ hj (hL1 j hj) hm, fun y hy => ?_⟩
        obtain ⟨i, hi, hil, hiu, hif, him⟩ := hprem y hy
        have hne : ¬ anc ops.toList 12 i j = true := isFore_spec hif hj (isLay_lt hj).1
        have hna : ¬ anc ops.toList 12 j i = true := fun hc => by
          have hlj := hL1 j hj
          have hjo : j < ops.size := by have := (isLay_lt hj).1; omega
          have := anc_listed hdn 12 j (fun o ho => hdn j o ho (by
            have hs : j < listed.size := by omega
            simp [hs] at hlj ⊢
            exact hlj)) hc
          exact getD_true_false hiu this
        have hij : i ≠ j := fun q => by rw [q, hj] at hil; cases hil
        have hap : y.apart E p.1 = true := by
          rcases Nat.lt_or_gt_of_ne hij with q | q
          · exact asunder_apart (((f3 j i y p.1 q hi hm).2.1 (.inl hil)).resolve_right hna) (.inl him)
          · exact apart_symm (asunder_apart (((f3 i j p.1 y q hm hi).2.1 (.inr hil)).resolve_right hne) (.inr him))
        refine ⟨hap, fun hlt => ⟨fun q => ?_, fun q => by rw [him] at q; cases q.1⟩⟩
        rw [hlast] at hlt
        rcases Nat.lt_or_gt_of_ne hij with r | r
        · exact hna (lastOk_spec hlt r hi hm (.inl ⟨q.2, q.1⟩))
        · exact hne (lastOk_spec hlt r hm hi (.inr ⟨q.1, q.2⟩)))
      (fun y hy => by
        obtain ⟨i, hi, _⟩ := hprem y hy
        exact hgood hi)
      (by
        rw [hlay, List.pairwise_filterMap]
        refine List.Pairwise.imp_of_mem ?_ (List.Pairwise.filter _ List.pairwise_lt_range)
        intro j j' hj hj' hlt p hp q hq
        simp only [Option.map_eq_some_iff] at hp hq
        obtain ⟨m, hm, rfl⟩ := hp
        obtain ⟨m', hm', rfl⟩ := hq
        have hjl := (List.mem_filter.1 hj).2
        have hjl' := (List.mem_filter.1 hj').2
        refine ⟨hD j j' hjl hjl' (hL1 j hjl) (hL1 j' hjl') (by omega), ?_⟩
        exact (f3 j' j m m' hlt hm hm').1 hjl hjl')
      hrun hA hp (by rw [hdst]; exact R)
    have hleft : pre ++ post = (left ops.size listed).filterMap (ms[·]?) := by
      rw [hpre, hpost, ← List.filterMap_append]
      congr 1
      unfold left
      rw [← hn]
      have key : ∀ (l : List Nat), l.Pairwise (· < ·) → (∀ j ∈ l, j < ms.length) → ((l.filter fun i => !isLay ms i && decide (i < firstLate ops.toList ms)).filter fun j => isLay ms j || !listed.getD j true) ++ ((l.filter fun i => !isLay ms i && !decide (i < firstLate ops.toList ms)).filter fun j => isLay ms j || !listed.getD j true) = l.filter fun j => !listed.getD j true := by
        intro l
        induction l with
        | nil => intro _ _; rfl
        | cons x l ih =>
          intro hpw hlt
          have ih := ih (List.pairwise_cons.1 hpw).2 fun j hj => hlt j (List.mem_cons_of_mem _ hj)
          cases hx : isLay ms x with
          | true =>
            have hxl := hL1 x hx
            simp only [List.filter_cons, hx, hxl, Bool.not_true, Bool.false_and, Bool.false_eq_true, if_false]
            exact ih
          | false =>
            by_cases hk : x < firstLate ops.toList ms
            · cases hu : listed.getD x true with
              | true =>
                simp only [List.filter_cons, hx, hk, hu, Bool.not_false, Bool.not_true, Bool.true_and, Bool.false_or, decide_true, if_true, Bool.false_eq_true, if_false]
                exact ih
              | false =>
                simp only [List.filter_cons, hx, hk, hu, Bool.not_false, Bool.not_true, Bool.true_and, Bool.false_or, decide_true, if_true, Bool.false_eq_true, if_false, List.cons_append]
                rw [ih]
            · have hem : (l.filter fun i => !isLay ms i && decide (i < firstLate ops.toList ms)) = [] := by
                refine List.filter_eq_nil_iff.2 fun j hj => ?_
                have := (List.pairwise_cons.1 hpw).1 j hj
                have : ¬ j < firstLate ops.toList ms := by omega
                simp [this]
              rw [hem] at ih
              simp only [List.filter_nil, List.nil_append] at ih
              cases hu : listed.getD x true with
              | true =>
                simp only [List.filter_cons, hx, hk, hu, Bool.not_false, Bool.not_true, Bool.true_and, Bool.false_or, decide_false, if_true, Bool.false_eq_true, if_false, hem, List.filter_nil, List.nil_append]
                exact ih
              | false =>
                simp only [List.filter_cons, hx, hk, hu, Bool.not_false, Bool.not_true, Bool.true_and, Bool.false_or, decide_false, if_true, Bool.false_eq_true, if_false, hem, List.filter_nil, List.nil_append]
                rw [ih]
      exact key _ List.pairwise_lt_range fun j hj => List.mem_range.1 hj
    rw [hleft] at k1
    exact any_ok (S := fun j => isLay ms j = false) hS hG hlen hrd f1 f2 (fun i a x y h1 h2 hai hx hy => (f3 i a x y hai hx hy).2.2 h1 h2) hlast hQ fuel listed s2 a w hsz hdn hfu (fun j hj => by
      cases hx : isLay ms j with
      | false => rfl
      | true =>
        have := hL1 j hx
        rw [(mem_left.1 hj).2] at this
        cases this) k3 k4 k1 k2
  have hallof : ∀ (listed : Array Bool), left ops.size listed = [] → (∀ j, isLay ms j = true → listed.getD j true = true) ∧ (∀ j, j < ms.length → isLay ms j = false → isFore ops.toList ms j = true → insAt MI.makes ms j = true → listed.getD j true = true) := fun listed h0 => by
    have key : ∀ j, j < ms.length → listed.getD j true = true := fun j hj => by
      cases hl : listed.getD j true with
      | true => rfl
      | false =>
        have : j ∈ left ops.size listed := mem_left.2 ⟨by omega, hl⟩
        rw [h0] at this
        cases this
    exact ⟨fun j hj => key j (isLay_lt hj).1, fun j hj _ _ _ => key j hj⟩
  intro fuel
  induction fuel with
  | zero =>
    intro listed s a w lam μ G hsz hdn hfu hA hp hlt hr R hP hD
    have hl : left ops.size listed = [] := List.eq_nil_of_length_eq_zero (by omega)
    obtain ⟨h1, h2⟩ := hallof listed hl
    exact whole 0 listed s a w lam μ G hsz hdn hfu hA hp hr R hP hD h1 h2
  | succ fuel ih =>
    intro listed s a w lam μ G hsz hdn hfu hA hp hlt hr R hP hD
    by_cases hall : (∀ j, isLay ms j = true → listed.getD j true = true) ∧ (∀ j, j < ms.length → isLay ms j = false → isFore ops.toList ms j = true → insAt MI.makes ms j = true → listed.getD j true = true)
    · exact whole _ listed s a w lam μ G hsz hdn hfu hA hp hr R hP hD hall.1 hall.2
    refine ⟨fun h0 => absurd (hallof listed (ready_all hsz f2 h0)) hall, fun i hi => ?_⟩
    obtain ⟨hiun, oi, hoi, hafter⟩ := mem_ready.1 hi
    have hin : i < ops.size := (Array.getElem?_eq_some_iff.1 hoi).1
    have him : i < ms.length := by omega
    obtain ⟨o', m, q1, hm, hrm⟩ := hget i hin
    rw [hoi] at q1
    cases q1
    have hoi' : ops.toList[i]? = some oi := by simpa using hoi
    have hanc : ∀ j, anc ops.toList 12 i j = true → listed.getD j true ≠ false := fun j hj hf => by
      have := anc_listed hdn 12 i (fun o ho => by
        have : o = oi := by
          rw [hoi'] at ho
          exact (Option.some.inj ho).symm
        subst this
        exact hafter) hj
      exact getD_true_false hf this
    have hil : i ∈ left ops.size listed := mem_left.2 ⟨hin, hiun⟩
    have hfu' : (left ops.size (listed.setIfInBounds i true)).length ≤ fuel := by
      obtain ⟨l1, l2, e1, e2, e3⟩ := left_split hil
      rw [e3]
      rw [e1] at hfu
      simp only [List.length_append, List.length_cons] at hfu ⊢
      omega
    have hdn' : Down ops.toList (listed.setIfInBounds i true) := by
      intro j o ho hj e he hbd
      by_cases hji : j = i
      · subst hji
        have : o = oi := by
          rw [hoi'] at ho
          exact (Option.some.inj ho).symm
        subst this
        exact getD_set_true (hafter e he hbd)
      · rw [getD_set_ne false (Ne.symm hji)] at hj
        exact getD_set_true (hdn j o ho hj e he hbd)
    have hgm := hgood hm
    have hback : ∀ j, j ≠ i → (listed.setIfInBounds i true).getD j true = listed.getD j true := fun j hj => getD_set_ne true (Ne.symm hj)
    have hlistedanc : ∀ j, j < ops.size → listed.getD j true = true → ¬ anc ops.toList 12 j i = true := fun j hjo hlj hc => by
      have := anc_listed hdn 12 j (fun o ho => hdn j o ho (by
        have hs : j < listed.size := by omega
        simp [hs] at hlj ⊢
        exact hlj)) hc
      exact getD_true_false hiun this
    cases hx : isLay ms i with
    | true =>
      obtain ⟨_, m', hm', hlay, hgd⟩ := isLay_lt hx
      rw [hm] at hm'
      cases hm'
      obtain ⟨d, hd, hkd⟩ : ∃ d, m.dst = some d ∧ plain D E L d = true ∧ d < N := by
        have hk := hgm.2
        cases hdd : m.dst with
        | none => rw [hdd] at hk; cases hi2 : m.ins <;> rw [hi2] at hk hlay <;> first | (cases hlay; done) | (simp [dstOk] at hk)
        | some d => rw [hdd] at hk; cases hi2 : m.ins <;> rw [hi2] at hk hlay <;> first | (cases hlay; done) | exact ⟨d, rfl, by simpa [dstOk] using hk⟩
      have hmout : ∀ {y : MOp} {e : Nat}, y.ins.lays = true → e ∈ y.outs E → y.dst = some e := fun {y e} hy he => by
        unfold MOp.outs at he
        cases hi2 : y.ins <;> rw [hi2] at he hy <;> first | (cases hy; done) | skip
        all_goals
          cases hdd : y.dst with
          | none => rw [hdd] at he; cases he
          | some e' => rw [hdd] at he; rw [List.mem_singleton.1 he]
      obtain ⟨n, blk, hlo⟩ : ∃ n blk, layOf m.ins s = some (n, blk) := by
        have hMm : i ∈ (List.range ms.length).filter (isLay ms) := List.mem_filter.2 ⟨List.mem_range.2 him, hx⟩
        obtain ⟨m1, m2, hms⟩ := List.append_of_mem hMm
        have hMf : ((List.range ms.length).filter (isLay ms)).filter (fun j => isLay ms j || !listed.getD j true) = (List.range ms.length).filter (isLay ms) := by
          refine List.filter_eq_self.2 fun j hj => ?_
          rw [(List.mem_filter.1 hj).2]
          rfl
        have hr2 := hr
        unfold leftL lateIdx at hr2
        rw [List.filter_append, List.filter_append, hMf, hms, List.filterMap_append, List.filterMap_append, List.filterMap_append, List.filterMap_cons, hm, List.append_assoc, List.append_assoc, ← List.append_assoc] at hr2
        refine lay_at (N := N) (D := D) (L := L) hlay hgd (fun y hy => ?_) hA hr2
        rcases List.mem_append.1 hy with hy | hy
        · obtain ⟨j, hj, hjy⟩ := List.mem_filterMap.1 hy
          obtain ⟨hj1, hj2⟩ := List.mem_filter.1 hj
          have hj3 := (List.mem_filter.1 hj1).2
          simp only [Bool.and_eq_true, Bool.not_eq_true', decide_eq_true_eq] at hj3
          have hju : listed.getD j true = false := by rw [hj3.1] at hj2; simpa using hj2
          have hjl : j < ms.length := (List.getElem?_eq_some_iff.1 hjy).1
          have hnl := firstLate_ahead hj3.2 hjl hj3.1
          have hfo : isFore ops.toList ms j = true := by
            rcases f4 j hjl with q | q | q
            · rw [hj3.1] at q; cases q
            · exact q.1
            · rw [hnl] at q; cases q.1
          refine ⟨hgood hjy, fun e he hes => ?_⟩
          have hij : j ≠ i := fun q => by rw [q, hx] at hj3; cases hj3.1
          rcases Nat.lt_or_gt_of_ne hij with q | q
          · exact ((asunder_spec (((f3 i j y m q hjy hm).2.1 (.inl hj3.1)).resolve_right fun hc => hanc j hc hju)).1 e he).2 hes
          · exact (asunder_spec (((f3 j i m y q hm hjy).2.1 (.inr hj3.1)).resolve_right (isFore_spec hfo hx him))).2 e he hes
        · obtain ⟨j, hj, hjy⟩ := List.mem_filterMap.1 hy
          have hjM : j ∈ (List.range ms.length).filter (isLay ms) := by rw [hms]; exact List.mem_append_left _ hj
          have hjl := (List.mem_filter.1 hjM).2
          obtain ⟨_, y', hy', hly, _⟩ := isLay_lt hjl
          rw [hjy] at hy'
          cases hy'
          refine ⟨hgood hjy, fun e he hes => ?_⟩
          have h1 := (f5 i m hm).1 hx e hes
          rw [layDst_of hjl hjy (hmout hly he)] at h1
          cases h1
      have hlu : layOf m.ins (und (layDst ms) s) = some (n, blk) := by
        rw [← hlo]
        exact layOf_agree (und_agree fun e he => (f5 i m hm).1 hx e (by unfold MOp.slots; exact List.mem_append_left _ he))
      have hrun := lays_run (s := und (layDst ms) s) hlay
      rw [hlu] at hrun
      simp only [Option.map_some] at hrun
      obtain ⟨n', cells, sz, ty, new, kk, hv, hh, hz, hn', hm', hc', hex⟩ := laid_ok (w := w) hlay R hrm.ins hrun
      simp only [Value.slice.injEq, and_true, true_and] at hv
      have hnn : n' = n := hv.symm.elim (fun h _ => h.symm) |> fun _ => by first | exact hv.symm | exact hv.1.symm | exact hv.2.symm
      subst hnn
      have hblk : blk = ⟨cells, sz, ty, true⟩ := by
        have := List.append_cancel_left hh
        exact (List.cons.inj this).1
      subst hblk
      unfold wpOp
      simp only [hoi]
      have hw : m.want (und (layDst ms) s) = some true := by unfold MOp.want; rw [hgd]
      rw [guard_ok R hrm.guard hw, if_pos rfl]
      refine .inl (wp_value hex ?_)
      rw [← hrm.same, hd]
      have hud : (und (layDst ms) s).t d = undef := by
        show (if layDst ms d = true then undef else s.t d) = undef
        rw [layDst_of hx hm hd, if_pos rfl]
      have R' := R.junk (k := kk) (v' := .slice (some ⟨w.heap.size, 0, none⟩) n' n') (x := .cells new ty) hkd.1 hkd.2 hud
      obtain ⟨_, T⟩ := alloc_to (s := s) (x := .cells new ty) (k := kk) R.hr
      refine ih _ s _ _ lam μ (fun j => if j = i then w.heap.size else G j) (by simpa using hsz) hdn' hfu' hA hp (fun j hj hjl hjt => ?_) ?_ R' (fun j y hjl hjt hjy => ?_) (fun j j' hjl hjl' hjt hjt' hne => ?_)
      · rw [hback j (fun q => by rw [q, hx] at hjl; cases hjl)]
        exact hlt j hj hjl hjt
      · have : leftL ops.toList ms (listed.setIfInBounds i true) = leftL ops.toList ms listed := by
          unfold leftL
          refine List.filter_congr fun j _ => ?_
          by_cases hji : j = i
          · rw [hji, hx]; rfl
          · rw [hback j hji]
        rw [this]
        exact hr
      · have hsd : d < a.tmps.size := by rw [R.rt.size]; exact hkd.2
        by_cases hji : j = i
        · subst hji
          rw [hm] at hjy
          cases hjy
          rw [if_pos rfl]
          refine ⟨⟨d, n', _, new, hd, hlo, by rw [tmps_put a d _ hsd, if_pos rfl], rfl, hz, hn', hm', heap_alloc_new { w with drawn := kk } _, hc'⟩, fun ⟨b, bk, hb, e⟩ => by have := R.hr.lt b bk hb; omega, fun d' cs hcs => by have := (R.loc d' cs hcs).2.1; omega, R.to.frame.size, ?_⟩
          show w.heap.size < (w.heap.push _).size
          simp
        · rw [if_neg hji]
          rw [hback j hji] at hjt
          refine (hP j y hjl hjt hjy).step T rfl (fun d' cs h => ⟨cs, h⟩) fun d' hd' => ?_
          rw [tmps_put a d _ hsd, if_neg]
          rintro rfl
          obtain ⟨_, y', hy', hly, _⟩ := isLay_lt hjl
          rw [hjy] at hy'
          cases hy'
          have ho1 : d' ∈ m.outs E := by
            unfold MOp.outs
            rw [hd]
            cases hi2 : m.ins <;> rw [hi2] at hlay <;> first | (cases hlay; done) | exact List.mem_cons_self
          have ho2 : d' ∈ y.outs E := by
            unfold MOp.outs
            rw [hd']
            cases hi2 : y.ins <;> rw [hi2] at hly <;> first | (cases hly; done) | exact List.mem_cons_self
          rcases Nat.lt_or_gt_of_ne hji with q | q
          · exact ((asunder_spec ((f3 i j y m q hjy hm).1 hjl hx)).1 d' ho2).1 ho1
          · exact ((asunder_spec ((f3 j i m y q hm hjy).1 hx hjl)).1 d' ho1).1 ho2
      · have glt : ∀ j, isLay ms j = true → j ≠ i → (listed.setIfInBounds i true).getD j true = true → G j < w.heap.size := fun j hj hji ht => by
          rw [hback j hji] at ht
          obtain ⟨_, y, hy, _⟩ := isLay_lt hj
          exact (hP j y hj ht hy).lt
        by_cases h1 : j = i
        · have h2 : j' ≠ i := fun q => hne (h1.trans q.symm)
          have := glt j' hjl' h2 hjt'
          rw [if_pos h1, if_neg h2]
          omega
        · by_cases h2 : j' = i
          · have := glt j hjl h1 hjt
            rw [if_neg h1, if_pos h2]
            omega
          · rw [if_neg h1, if_neg h2]
            rw [hback j h1] at hjt
            rw [hback j' h2] at hjt'
            exact hD j j' hjl hjl' hjt hjt' hne
    | false =>
      rcases f4 i him with q | ⟨hfo, hstill⟩ | ⟨hla, hmk⟩
      · rw [hx] at q; cases q
      rotate_left
      · -- a late one: all that it stands behind is done
        refine absurd ⟨fun j hj => ?_, fun j hj hjl hjf hjm => ?_⟩ hall
        · cases hl : listed.getD j true with
          | true => rfl
          | false => exact absurd hl (hanc j (isLate_spec hla hj (isLay_lt hj).1))
        · rcases hmk j hj hjm with k | k | k
          · rw [hjl] at k; cases k
          · exact absurd (isLate_spec k hj0 (isLay_lt hj0).1) (isFore_spec hjf hj0 (isLay_lt hj0).1)
          · cases hl : listed.getD j true with
            | true => rfl
            | false => exact absurd hl (hanc j k)
      have hst : m.ins.still = true := by unfold insAt at hstill; rw [hm] at hstill; exact hstill
      obtain ⟨l1, l2, e1, e2, e3⟩ := late_split f2 him hx hiun
      have hmpre : m.ins.makes = true → i < firstLate ops.toList ms := fun hmk => by
        unfold firstLate
        cases hf : (List.range ms.length).find? fun i => !isLay ms i && isLate ops.toList ms i with
        | none => exact him
        | some k =>
          have h1 := List.find?_some hf
          simp only [Bool.and_eq_true, Bool.not_eq_true'] at h1
          have hkl : k < ms.length := List.mem_range.1 (List.mem_of_find?_eq_some hf)
          rcases f4 k hkl with q | q | q
          · rw [h1.1] at q; cases q
          · exact absurd (isLate_spec h1.2 hj0 (isLay_lt hj0).1) (isFore_spec q.1 hj0 (isLay_lt hj0).1)
          · rcases q.2 i him (by unfold insAt; rw [hm]; exact hmk) with r | r | r
            · rw [hx] at r; cases r
            · exact absurd (isLate_spec r hj0 (isLay_lt hj0).1) (isFore_spec hfo hj0 (isLay_lt hj0).1)
            · exact anc_lt f2 12 k r
      have hr' := hr
      rw [e1, List.filterMap_append, List.filterMap_cons, hm] at hr'
      obtain ⟨s1, k1, k2⟩ := front hgm (fun y hy => by
        obtain ⟨j, hj, hjy⟩ := List.mem_filterMap.1 hy
        obtain ⟨hji, hjn, hjl, hjp⟩ := e2 j hj
        have hno : ¬ anc ops.toList 12 i j = true := fun hc => by
          rcases hjl with q | q
          · exact isFore_spec hfo q hjn hc
          · exact hanc j hc q
        have hap : y.apart E m = true := by
          cases hlj : isLay ms j with
          | false => exact ((f3 i j y m hji hjy hm).2.2 hlj hx).resolve_right hno
          | true =>
            refine asunder_apart (((f3 i j y m hji hjy hm).2.1 (.inr hx)).resolve_right hno) (.inr ?_)
            cases hmk : m.ins.makes with
            | false => rfl
            | true => exact absurd (hmpre hmk) (hjp hlj)
        refine ⟨hgood hjy, hap, fun hlt => ?_⟩
        rw [hlast] at hlt
        exact ⟨fun q => hno (lastOk_spec hlt hji hjy hm (.inl ⟨q.2, q.1⟩)), fun q => hno (lastOk_spec hlt hji hjy hm (.inr ⟨q.2, q.1⟩))⟩) hA hr'
      rw [← List.filterMap_append, ← e3] at k2
      have A1 := free_frame hgm.1 hgm.2 hA k1
      have hslots : ∀ d, d ∈ m.slots ∨ d ∈ m.outs E → layDst ms d = false := (f5 i m hm).2 hx hfo
      obtain ⟨q1, g1, g2, g3, g4, g5⟩ := A1.move (und (layDst ms) s) hA (und_agree fun d hd => hslots d (List.mem_append.1 hd)) (fun _ => rfl)
      have hq1 : q1 = und (layDst ms) s1 := by
        refine ext_st (fun d => ?_) ?_
        · by_cases hd : d ∈ m.outs E
          · exact ((und_agree (p := layDst ms) (s := s1) (l := [d]) (fun x hx => by rw [List.mem_singleton.1 hx]; exact hslots d (.inr hd))) d List.mem_cons_self).symm.trans (g2 d hd)
          · have h1 := g3 d hd
            have h2 := A1.off d hd
            refine ⟨?_, ?_, ?_⟩
            · rw [h1.1]
              show (if layDst ms d = true then undef else s.t d) = (if layDst ms d = true then undef else s1.t d)
              rw [h2.1]
            · rw [h1.2.1]; exact h2.2.1.symm
            · rw [h1.2.2]; exact h2.2.2.symm
        · cases hmk : m.ins.makes with
          | true => rw [g4 hmk]; rfl
          | false => rw [g5 hmk]; exact (A1.mem hmk).symm
      subst hq1
      have hdl : ∀ d, m.dst = some d → d < N ∧ layDst ms d = false := fun d hd => by
        refine ⟨dst_lt hrm.dst d (by rw [← hrm.same]; exact hd), hslots d (.inr ?_)⟩
        unfold MOp.outs
        rw [hd]
        cases hi2 : m.ins <;> rw [hi2] at hst <;> first | (cases hst; done) | exact List.mem_cons_self
      have hp1 : last = true ∨ h0 <+: s1.h := by
        cases hmk : m.ins.makes with
        | false => rw [A1.mem hmk]; exact hp
        | true =>
          rcases free_mem hmk k1 with h | h | h | h
          · rw [h]; exact hp
          · exact .inl h
          · exact hp.imp id fun g => g.trans h
          · exact .inr h
      have next : ∀ (v' : Value) (μ' : Map) (w' : World), Rel N D E L μ0 hb w0 lam μ' (und (layDst ms) s1) (a.put m.dst v') w' → To μ s.h w μ' s1.h w' → (∀ d cs, s1.loc d = some cs → ∃ cs', s.loc d = some cs') → wpAny P .any ops Q fuel (listed.setIfInBounds i true) (a.put m.dst v') w' := fun v' μ' w' R' T hloc => by
        refine ih _ s1 _ _ lam μ' G (by simpa using hsz) hdn' hfu' A1.al hp1 (fun j hj hjl hjt => ?_) k2 R' (fun j y hjl hjt hjy => ?_) (fun j j' hjl hjl' hjt hjt' hne => ?_)
        · by_cases hji : j = i
          · subst hji
            exact absurd (isLate_spec hjt hj0 (isLay_lt hj0).1) (isFore_spec hfo hj0 (isLay_lt hj0).1)
          · rw [hback j hji]
            exact hlt j hj hjl hjt
        · have hji : j ≠ i := fun q => by rw [q, hx] at hjl; cases hjl
          rw [hback j hji] at hjt
          have hjo : j < ops.size := by have := (isLay_lt hjl).1; omega
          refine (hP j y hjl hjt hjy).step T (layOf_agree fun d hd => A1.off d fun ho => ?_) hloc fun d hd => ?_
          · have hds : d ∈ y.slots := by unfold MOp.slots; exact List.mem_append_left _ hd
            rcases Nat.lt_or_gt_of_ne hji with q | q
            · exact (asunder_spec (((f3 i j y m q hjy hm).2.1 (.inr hx)).resolve_right (isFore_spec hfo hjl (isLay_lt hjl).1))).2 d ho hds
            · exact ((asunder_spec (((f3 j i m y q hm hjy).2.1 (.inl hx)).resolve_right (hlistedanc j hjo hjt))).1 d ho).2 hds
          · cases hmd : m.dst with
            | none => rfl
            | some d' =>
              obtain ⟨z1, z2⟩ := hdl d' hmd
              rw [tmps_put a d' _ (by rw [R.rt.size]; exact z1), if_neg]
              rintro rfl
              rw [layDst_of hjl hjy hd] at z2
              cases z2
        · have h1 : j ≠ i := fun q => by rw [q, hx] at hjl; cases hjl
          have h2 : j' ≠ i := fun q => by rw [q, hx] at hjl'; cases hjl'
          rw [hback j h1] at hjt
          rw [hback j' h2] at hjt'
          exact hD j j' hjl hjl' hjt hjt' hne
      unfold wpOp
      simp only [hoi]
      have hwu : m.want (und (layDst ms) s) = m.want s := want_agree (und_agree fun d hd => hslots d (.inl hd))
      cases hw : m.want s with
      | none => unfold MOp.free at k1; rw [hw] at k1; cases k1
      | some b =>
        rw [hw] at hwu
        rw [guard_ok R hrm.guard hwu]
        cases b with
        | true =>
          rw [if_pos rfl]
          have hgo := free_go (x := m) hgm.1 hwu hp g1
          refine .inl (go_still hS hG R hrm.ins hrm.dst hrm.same hst hgo fun v' μ' w' R' T hl => ?_)
          rw [← hrm.same] at R' ⊢
          exact next v' μ' w' R' T fun d cs h => ⟨cs, by
            have h' : (und (layDst ms) s1).loc d = some cs := h
            rw [hl] at h'
            exact h'⟩
        | false =>
          rw [if_neg (by simp)]
          have hs1 : und (layDst ms) s1 = m.skip (und (layDst ms) s) := by
            unfold MOp.free at g1
            rw [hwu] at g1
            exact (Option.some.inj g1).symm
          have hs2 : s1 = m.skip s := by
            unfold MOp.free at k1
            rw [hw] at k1
            exact (Option.some.inj k1).symm
          have R' := R.skip (m := m) (fun d hd => (hdl d hd).1)
          rw [← hs1] at R'
          rw [← hrm.same]
          have hh : s1.h = s.h := by rw [hs2]; unfold MOp.skip; cases m.dst <;> rfl
          refine next undef μ w R' (by rw [hh]; exact To.refl _ _ _) fun d cs h => ?_
          rw [hs2] at h
          unfold MOp.skip at h
          cases hmd : m.dst with
          | none => rw [hmd] at h; exact ⟨cs, h⟩
          | some d' =>
            rw [hmd] at h
            have h' : upd s.loc d' none d = some cs := h
            by_cases hdd : d = d'
            · rw [hdd, upd_same] at h'; cases h'
            · rw [upd_ne _ _ hdd] at h'; exact ⟨cs, h'⟩
theorem late_begin {ops : Array Oper} {ms : List MOp} {s s' : St} {a : Act} {w : World} {Q : Exit → Act → World → Prop} (hS : SoundC P W call) (hG : Gd W μ0 hb w0) (hlen : ms.length = ops.toList.length) (hrd : ∀ (j : Nat) (o : Oper), ops.toList[j]? = some o → ∃ m, ms[j]? = some m ∧ Read1 P N D E L ops o m)
    (hlate : lateOk E ops.toList ms = true) (hlast : last = lastOk ops.toList ms) (hQ : ∀ a w, Shows N D E L μ0 hb w0 s' a w → Q .normal a w) (hdn : Down ops.toList (Array.replicate ops.size false)) (hA : AlE E s) (hp : last = true ∨ h0 <+: s.h)
    (hr : runFree call last h0 (lateOps ops.toList ms) s = some s') (hR : Shows N D E L μ0 hb w0 s a w) : wpAny P .any ops Q ops.size (Array.replicate ops.size false) a w := by
  obtain ⟨lam, μ, R⟩ := hR
  have hn : ms.length = ops.size := by simpa using hlen
  have hno : ∀ j, (hj : isLay ms j = true) → (Array.replicate ops.size false).getD j true = true → False := fun j hj ht => by
    have := (isLay_lt hj).1
    have hlt : j < ops.size := by omega
    simp [hlt] at ht
  refine late_any hS hG hlen hrd hlate hlast hQ ops.size _ s a w lam μ (fun _ => 0) (by simp) hdn (Nat.le_trans (List.length_filter_le _ _) (by simp)) hA hp (fun j hj _ _ => by simp [hj]) ?_ R.und (fun j m hj ht => (hno j hj ht).elim) (fun j _ hj _ ht => (hno j hj ht).elim)
  have e : leftL ops.toList ms (Array.replicate ops.size false) = lateIdx ops.toList ms := by
    unfold leftL
    refine List.filter_eq_self.2 fun j hj => ?_
    have hlt : j < ops.size := by
      unfold lateIdx at hj
      rcases List.mem_append.1 hj with hj | hj
      · rcases List.mem_append.1 hj with hj | hj
        · have := List.mem_range.1 (List.mem_filter.1 hj).1; omega
        · have := List.mem_range.1 (List.mem_filter.1 hj).1; omega
      · have := List.mem_range.1 (List.mem_filter.1 hj).1; omega
    simp [hlt]
  rw [e]
  exact hr
/-- A region whose order is open. -/
theorem free_ok (hS : SoundC P W call) : FreeOk P W N D E L call := by
  intro μ0 h0 w0 hG id ops ms l s s' a w hms hf hmix hrun hal hR
  obtain ⟨g1, g2⟩ := compOps_get hms
  have hrd : ∀ (j : Nat) (o : Oper), ops.toList[j]? = some o → ∃ m, ms[j]? = some m ∧ Read1 P N D E L ops o m := fun j o hj => by
    obtain ⟨m, q1, q2⟩ := g2 j o hj
    exact ⟨m, q1, compOp_read q2⟩
  have hdn : Down ops.toList (Array.replicate ops.size false) := by
    intro j o ho hj
    exfalso
    have hlt : j < ops.size := by have := (List.getElem?_eq_some_iff.1 ho).1; simpa using this
    simp [hlt] at hj
  have hAl : AlE E s := by
    intro e d off h
    rw [hal] at h
    cases h
  rcases hf with ⟨hfree, rfl⟩ | ⟨hlate, rfl⟩
  · obtain ⟨f1, f2, f3⟩ := freeOk_spec hfree
    refine wp_region_any hmix (any_ok (S := fun _ => True) (last := lastOk ops.toList l) (h0 := s.h) (s' := s') hS hG g1 hrd f1 f2 (fun i a x y _ _ => f3 i a x y) rfl (fun a w h => ⟨rfl, h⟩) ops.size _ s a _ (by simp) hdn ?_ (fun _ _ => trivial) hAl (.inr (List.prefix_refl _)) ?_ hR.drawn)
    · exact Nat.le_trans (List.length_filter_le _ _) (by simp)
    · have e : left ops.size (Array.replicate ops.size false) = List.range ops.size := by
        unfold left
        refine List.filter_eq_self.2 fun j hj => ?_
        have hlt := List.mem_range.1 hj
        simp [hlt]
      have e2 : (List.range ops.size).filterMap (l[·]?) = l := by
        have hl : l.length = ops.size := by simpa using g1
        rw [← hl]
        have := range_get l []
        simpa [List.range_eq_range'] using this
      rw [e, e2]
      exact hrun
  · refine wp_region_any hmix (late_begin (last := lastOk ops.toList ms) (h0 := s.h) (s' := s') hS hG g1 hrd hlate rfl (fun a w h => ⟨rfl, h⟩) hdn hAl (.inr (List.prefix_refl _)) hrun hR.drawn)
end
section
variable {P : Program} {N : Nat} {D : List Nat} {E L : List (Nat × Nat)} {μ0 : Map} {hb : Heap} {w0 W : World} {call : FuncId → List Value → Heap → Option (Value × Heap)} {x y : MOp} {s s1 s2 : St} {hs : List Heap} {g gx gy : Tag}
/-- The tag is the operation's. -/
def TgOfOk (g : Tag) (x : MOp) : Prop := (x.ins.looks = true → ∃ k, g = .l k) ∧ (x.ins.makes = true → g = .m) ∧ (x.ins.looks = false → x.ins.makes = false → g = .c)
theorem looks_makes {i : MI} (h : i.looks = true) : i.makes = false := by cases i <;> first | rfl | (cases h; done)
theorem tag_look {k : Nat} (t : TgOfOk (.l k) x) : x.ins.looks = true ∧ x.ins.makes = false := by
  cases h : x.ins.looks with
  | true => exact ⟨rfl, looks_makes h⟩
  | false =>
    cases h2 : x.ins.makes with
    | true => cases t.2.1 h2
    | false => cases t.2.2 h h2
theorem tag_make (t : TgOfOk .m x) : x.ins.makes = true ∧ x.ins.looks = false := by
  cases h : x.ins.looks with
  | true => obtain ⟨k, q⟩ := t.1 h; cases q
  | false =>
    cases h2 : x.ins.makes with
    | true => exact ⟨rfl, rfl⟩
    | false => cases t.2.2 h h2
theorem tag_calm (t : TgOfOk .c x) : x.ins.makes = false ∧ x.ins.looks = false := by
  cases h : x.ins.looks with
  | true => obtain ⟨k, q⟩ := t.1 h; cases q
  | false =>
    cases h2 : x.ins.makes with
    | true => cases t.2.1 h2
    | false => exact ⟨rfl, rfl⟩
/-- How deep into the memories an operation looks. -/
def Tag.dep : Tag → Nat
  | .l k => k
  | _ => 0
/-- What an operation of such a region does. -/
structure FrameO (E : List (Nat × Nat)) (call : FuncId → List Value → Heap → Option (Value × Heap)) (g : Tag) (hs : List Heap) (x : MOp) (s s1 : St) : Prop where
  off : ∀ i, i ∉ x.outs E → AgreeAt s s1 i
  mem : x.ins.makes = false → s1.h = s.h
  al : AlE E s1
  move : ∀ q hs', AlE E q → Agree s q (x.slots ++ x.outs E) → (x.ins.makes = true → q.h = s.h) → (x.ins.looks = true → ∀ h, h ∈ q.h :: hs'.drop g.dep → h ∈ s.h :: hs.drop g.dep) →
    ∃ q1, x.opn call g hs' q = some q1 ∧ (∀ i, i ∈ x.outs E → AgreeAt s1 q1 i) ∧ (∀ i, i ∉ x.outs E → AgreeAt q q1 i) ∧ (x.ins.makes = true → q1.h = s1.h) ∧ (x.ins.makes = false → q1.h = q.h)
open Classical in
theorem opn_frame (G : Good N D E L x) (t : TgOfOk g x) (hA : AlE E s) (h : x.opn call g hs s = some s1) : FrameO E call g hs x s s1 := by
  cases g with
  | l k =>
    obtain ⟨hl, hm⟩ := tag_look t
    simp only [MOp.opn, Option.bind_eq_some_iff] at h
    obtain ⟨t1, ht, h⟩ := h
    split at h
    · rename_i hall
      cases h
      have f := free_frame G.1 G.2 hA ht
      refine ⟨f.off, f.mem, f.al, fun q hs' hq ha _ hsub => ?_⟩
      have one : ∀ h, h ∈ q.h :: hs'.drop k → ∃ q1, x.free call false h q = some q1 ∧ (∀ i, i ∈ x.outs E → AgreeAt s1 q1 i) ∧ (∀ i, i ∉ x.outs E → AgreeAt q q1 i) ∧ (x.ins.makes = true → q1.h = s1.h) ∧ (x.ins.makes = false → q1.h = q.h) := fun h hh => by
        have hr : x.free call false h s = some s1 := by
          rcases List.mem_cons.1 (hsub hl h hh) with e | e
          · rw [e]; exact ht
          · exact hall h e
        refine (free_frame G.1 G.2 hA hr).move q hq ha fun hc => ?_
        rcases turns_spec hc with r | r
        · rw [hm] at r; cases r
        · cases r.1
      obtain ⟨q1, c1, c2, c3, c4, c5⟩ := one q.h List.mem_cons_self
      refine ⟨q1, ?_, c2, c3, c4, c5⟩
      simp only [MOp.opn, c1, Option.bind_some]
      rw [if_pos]
      intro h hh
      obtain ⟨q2, d1, d2, d3, d4, d5⟩ := one h (List.mem_cons_of_mem _ hh)
      have : q2 = q1 := ext_st (fun i => by
        by_cases hi : i ∈ x.outs E
        · exact (c2 i hi).symm.trans (d2 i hi)
        · exact (c3 i hi).symm.trans (d3 i hi)) ((d5 hm).trans (c5 hm).symm)
      rw [← this]
      exact d1
    · cases h
  | m =>
    obtain ⟨hm, hl⟩ := tag_make t
    have f := free_frame (last := true) (h0 := []) G.1 G.2 hA h
    exact ⟨f.off, f.mem, f.al, fun q hs' hq ha hmk _ => f.move q hq ha fun _ => hmk hm⟩
  | c =>
    obtain ⟨hm, hl⟩ := tag_calm t
    have f := free_frame (last := true) (h0 := []) G.1 G.2 hA h
    refine ⟨f.off, f.mem, f.al, fun q hs' hq ha hmk _ => f.move q hq ha fun hc => ?_⟩
    rcases turns_spec hc with r | r
    · rw [hm] at r; cases r
    · rw [hl] at r; cases r.2
theorem opn_go (G : Good N D E L x) (t : TgOfOk g x) (hw : x.want s = some true) (h : x.opn call g hs s = some s1) : x.go call s = some s1 := by
  cases g with
  | l k =>
    simp only [MOp.opn, Option.bind_eq_some_iff] at h
    obtain ⟨t1, ht, h⟩ := h
    split at h
    · cases h
      exact free_go G.1 hw (.inr (List.prefix_refl _)) ht
    · cases h
  | m => exact free_go (last := true) (h0 := []) G.1 hw (.inl rfl) h
  | c => exact free_go (last := true) (h0 := []) G.1 hw (.inl rfl) h
theorem opn_skip (hw : x.want s = some false) (h : x.opn call g hs s = some s1) : s1 = x.skip s := by
  have key : ∀ {last h0}, x.free call last h0 s = some s1 → s1 = x.skip s := fun {last h0} h => by
    unfold MOp.free at h
    rw [hw] at h
    exact (Option.some.inj h).symm
  cases g with
  | l k =>
    simp only [MOp.opn, Option.bind_eq_some_iff] at h
    obtain ⟨t1, ht, h⟩ := h
    split at h
    · cases h
      exact key ht
    · cases h
  | m => exact key h
  | c => exact key h
theorem opn_want (hw : x.want s = none) (h : x.opn call g hs s = some s1) : False := by
  have key : ∀ {last h0 s1}, x.free call last h0 s = some s1 → False := fun {last h0 s1} h => by
    unfold MOp.free at h
    rw [hw] at h
    cases h
  cases g with
  | l k =>
    simp only [MOp.opn, Option.bind_eq_some_iff] at h
    obtain ⟨t1, ht, h⟩ := h
    exact key ht
  | m => exact key h
  | c => exact key h
theorem nextH_no {h : Heap} (t : TgOfOk g x) (hm : x.ins.makes = false) : nextH g hs h = hs := by
  cases g with
  | l k => rfl
  | m => have := (tag_make t).1; rw [hm] at this; cases this
  | c => rfl
theorem nextH_yes {h : Heap} (t : TgOfOk g x) (hm : x.ins.makes = true) : nextH g hs h = hs ++ [h] := by
  rw [t.2.1 hm]; rfl
theorem mem_drop_app {h : Heap} {k : Nat} {l m : List Heap} (hh : h ∈ l.drop k) : h ∈ (l ++ m).drop k := by
  rw [List.drop_append]
  exact List.mem_append_left _ hh
theorem last_mem_drop {h : Heap} {k : Nat} {l : List Heap} (hl : l.getLast? = some h) (hk : k < l.length) : h ∈ l.drop k := by
  have e : (l.drop k).getLast? = l.getLast? := by
    rw [List.getLast?_drop, if_neg (by omega)]
  rw [hl] at e
  exact List.mem_of_getLast? e
/-- Two operations change places. -/
theorem commO (Gx : Good N D E L x) (Gy : Good N D E L y) (tx : TgOfOk gx x) (ty : TgOfOk gy y) (hA : AlE E s) (hap : x.apart E y = true) (hlm : ¬ (x.ins.looks = true ∧ y.ins.makes = true)) (hk : y.ins.looks = true → s.h ∈ hs.drop gy.dep)
    (h1 : x.opn call gx hs s = some s1) (h2 : y.opn call gy (nextH gx hs s1.h) s1 = some s2) :
    ∃ s1', y.opn call gy hs s = some s1' ∧ x.opn call gx (nextH gy hs s1'.h) s1' = some s2 ∧ nextH gx (nextH gy hs s1'.h) s2.h = nextH gy (nextH gx hs s1.h) s2.h := by
  obtain ⟨a1, a2, a3⟩ := apart_spec hap
  have fx := opn_frame Gx tx hA h1
  have fy := opn_frame Gy ty fx.al h2
  have offx : ∀ i, (i ∈ y.slots ∨ i ∈ y.outs E) → i ∉ x.outs E := fun i hi hx => by
    rcases hi with hi | hi
    · exact (a2 i hx).2 hi
    · exact (a2 i hx).1 hi
  have offy : ∀ i, (i ∈ x.slots ∨ i ∈ x.outs E) → i ∉ y.outs E := fun i hi hy => by
    rcases hi with hi | hi
    · exact a3 i hy hi
    · exact (a2 i hi).1 hy
  obtain ⟨s1', g1, g2, g3, g4, g5⟩ := fy.move s hs hA (fun i hi => (fx.off i (offx i (List.mem_append.1 hi))).symm) (fun hm => (fx.mem (by
    cases hmx : x.ins.makes with
    | false => rfl
    | true => rw [a1 hmx] at hm; cases hm)).symm) (fun hl h hh => by
    cases hmx : x.ins.makes with
    | false => rw [nextH_no tx hmx, fx.mem hmx]; exact hh
    | true =>
      rw [nextH_yes tx hmx]
      refine List.mem_cons_of_mem _ (mem_drop_app ?_)
      rcases List.mem_cons.1 hh with e | e
      · rw [e]; exact hk hl
      · exact e)
  have fy' := opn_frame Gy ty hA g1
  obtain ⟨s2', k1, k2, k3, k4, k5⟩ := fx.move s1' (nextH gy hs s1'.h) fy'.al (fun i hi => fy'.off i (offy i (List.mem_append.1 hi))) (fun hm => g5 (a1 hm)) (fun hl h hh => by
    cases hmy : y.ins.makes with
    | true => exact absurd ⟨hl, hmy⟩ hlm
    | false => rw [nextH_no ty hmy, g5 hmy] at hh; exact hh)
  have : s2' = s2 := by
    refine ext_st (fun i => ?_) ?_
    · by_cases hx : i ∈ x.outs E
      · have := k2 i hx
        exact (fy.off i (offy i (.inr hx))).symm.trans this
      · by_cases hy : i ∈ y.outs E
        · exact (g2 i hy).trans (k3 i hx)
        · exact ((fy.off i hy).symm.trans (fx.off i hx).symm).trans ((g3 i hy).trans (k3 i hx))
    · cases hmx : x.ins.makes with
      | true => rw [k4 hmx, ← fy.mem (a1 hmx)]
      | false =>
        rw [k5 hmx]
        cases hmy : y.ins.makes with
        | true => rw [g4 hmy]
        | false => rw [g5 hmy, fy.mem hmy, fx.mem hmx]
  subst this
  refine ⟨s1', g1, k1, ?_⟩
  cases hmx : x.ins.makes with
  | true =>
    have hmy := a1 hmx
    rw [nextH_no ty hmy, nextH_no ty hmy, nextH_yes tx hmx, nextH_yes tx hmx, fy.mem hmy]
  | false =>
    rw [nextH_no tx hmx, nextH_no tx hmx]
    cases hmy : y.ins.makes with
    | false => rw [nextH_no ty hmy, nextH_no ty hmy]
    | true => rw [nextH_yes ty hmy, nextH_yes ty hmy, k5 hmx]
/-- The last memory is the one that stands. -/
theorem next_last {x : MOp} {h1 : Heap} (tx : TgOfOk g x) (hl : hs.getLast? = some s.h) (hm : x.ins.makes = false → h1 = s.h) : (nextH g hs h1).getLast? = some h1 ∧ hs.length ≤ (nextH g hs h1).length := by
  cases hmx : x.ins.makes with
  | true => rw [nextH_yes tx hmx]; simp
  | false => rw [nextH_no tx hmx, hm hmx]; exact ⟨hl, Nat.le_refl _⟩
/-- An operation steps to the front. -/
theorem frontO (Gx : Good N D E L x) (tx : TgOfOk gx x) {l2 : List (Tag × MOp)} {s' : St} : ∀ {l1 : List (Tag × MOp)} {s : St} {hs : List Heap}, (∀ p ∈ l1, Good N D E L p.2 ∧ TgOfOk p.1 p.2 ∧ p.2.apart E x = true ∧ ¬ (p.2.ins.looks = true ∧ x.ins.makes = true)) → (x.ins.looks = true → gx.dep < hs.length) → hs.getLast? = some s.h → AlE E s →
    runOpn call (l1 ++ (gx, x) :: l2) hs s = some s' → ∃ s1, x.opn call gx hs s = some s1 ∧ runOpn call (l1 ++ l2) (nextH gx hs s1.h) s1 = some s'
  | [], s, hs, _, _, _, _, h => by
    simp only [List.nil_append, runOpn, Option.bind_eq_some_iff] at h
    exact h
  | (gy, y) :: l1, s, hs, hl, hd, hg, hA, h => by
    simp only [List.cons_append, runOpn, Option.bind_eq_some_iff] at h
    obtain ⟨t, ht, h⟩ := h
    obtain ⟨Gy, ty, hay, hlm⟩ := hl _ List.mem_cons_self
    have fy := opn_frame Gy ty hA ht
    obtain ⟨n1, n2⟩ := next_last (x := y) ty hg fy.mem
    obtain ⟨t1, h1, h2⟩ := frontO Gx tx (fun z hz => hl z (List.mem_cons_of_mem _ hz)) (fun q => Nat.lt_of_lt_of_le (hd q) n2) n1 fy.al h
    obtain ⟨s1, k1, k2, k3⟩ := commO Gy Gx ty tx hA hay hlm (fun q => last_mem_drop hg (hd q)) ht h1
    refine ⟨s1, k1, ?_⟩
    simp only [List.cons_append, runOpn, k2, Option.bind_some]
    rw [k3]
    exact h2
theorem pairAll_spec {p : Nat → Nat → Bool} : ∀ {l : List Nat}, pairAll p l = true → l.Pairwise fun a i => p a i = true
  | [], _ => List.Pairwise.nil
  | a :: l, h => by
    unfold pairAll at h
    rw [Bool.and_eq_true, List.all_eq_true] at h
    exact List.pairwise_cons.2 ⟨h.1, pairAll_spec h.2⟩
theorem pair_split {R : Nat → Nat → Prop} {i : Nat} : ∀ {l : List Nat}, l.Nodup → l.Pairwise R → i ∈ l → ∃ l1 l2, l = l1 ++ i :: l2 ∧ (∀ y ∈ l1, R y i) ∧ l.filter (· != i) = l1 ++ l2
  | a :: l, hn, hp, hi => by
    obtain ⟨n1, n2⟩ := List.nodup_cons.1 hn
    obtain ⟨p1, p2⟩ := List.pairwise_cons.1 hp
    by_cases e : a = i
    · subst e
      refine ⟨[], l, rfl, fun y hy => (by cases hy), ?_⟩
      rw [List.filter_cons, if_neg (by simp)]
      exact List.filter_eq_self.2 fun y hy => by
        have : y ≠ a := fun q => n1 (q ▸ hy)
        simpa using this
    · have hi' : i ∈ l := (List.mem_cons.1 hi).resolve_left fun q => e q.symm
      obtain ⟨l1, l2, e1, e2, e3⟩ := pair_split n2 p2 hi'
      refine ⟨a :: l1, l2, by rw [e1]; rfl, fun y hy => ?_, ?_⟩
      · rcases List.mem_cons.1 hy with q | q
        · rw [q]; exact p1 i hi'
        · exact e2 y q
      · rw [List.filter_cons, if_pos (by simpa using e), e3]
        rfl
theorem take_few {p q : Nat → Bool} : ∀ {l : List Nat}, (∀ j ∈ l, q j = true → p j = true) → (l.takeWhile q).length ≤ (l.filter p).length
  | [], _ => Nat.le_refl _
  | a :: l, h => by
    have ih := take_few (l := l) fun j hj => h j (List.mem_cons_of_mem _ hj)
    rw [List.takeWhile_cons, List.filter_cons]
    cases hq : q a with
    | false => simp
    | true =>
      rw [if_pos rfl, if_pos (h a List.mem_cons_self hq), List.length_cons, List.length_cons]
      omega
theorem filter_off {p p' : Nat → Bool} {i : Nat} {l : List Nat} (hp : ∀ j, j ≠ i → p' j = p j) (hi : i ∉ l) : l.filter p' = l.filter p :=
  List.filter_congr fun j hj => hp j fun q => hi (q ▸ hj)
theorem filter_grow {p p' : Nat → Bool} {i : Nat} (hp : ∀ j, j ≠ i → p' j = p j) : ∀ {l : List Nat}, l.Nodup → (l.filter p').length ≤ (l.filter p).length + 1
  | [], _ => Nat.zero_le _
  | a :: l, hn => by
    obtain ⟨n1, n2⟩ := List.nodup_cons.1 hn
    by_cases e : a = i
    · subst e
      have := filter_off hp n1
      rw [List.filter_cons, List.filter_cons, this]
      split <;> split <;> (try simp only [List.length_cons]) <;> omega
    · have ih := filter_grow hp n2
      rw [List.filter_cons, List.filter_cons, hp a e]
      split
      · rw [List.length_cons, List.length_cons]; omega
      · exact ih
theorem tagOf_ok {ops : List Oper} {ms : List MOp} {i : Nat} {m : MOp} (hm : ms[i]? = some m) : TgOfOk (tagOf ops ms i) m := by
  have e1 : insAt MI.looks ms i = m.ins.looks := by unfold insAt; rw [hm]
  have e2 : insAt MI.makes ms i = m.ins.makes := by unfold insAt; rw [hm]
  unfold tagOf
  rw [e1, e2]
  refine ⟨fun h => ?_, fun h => ?_, fun h1 h2 => ?_⟩
  · rw [if_pos h]; exact ⟨_, rfl⟩
  · have hl : m.ins.looks = false := by
      cases q : m.ins.looks with
      | false => rfl
      | true => rw [looks_makes q] at h; cases h
    rw [hl, h]; rfl
  · rw [h1, h2]; rfl
theorem opnOk_spec {ops : List Oper} {ms : List MOp} (h : opnOk E ops ms = true) :
    (∀ m ∈ ms, m.ins.freely = true) ∧ (∀ (i : Nat) (o : Oper), ops[i]? = some o → ∀ e ∈ o.after, Region.binds .any e = true → e.on < i) ∧
    (∀ i, i < ms.length → i ∈ opnIdx ops ms) ∧ (opnIdx ops ms).Pairwise fun a i => (a != i && opnPair E ops ms a i) = true := by
  unfold opnOk at h
  simp only [Bool.and_eq_true] at h
  obtain ⟨⟨⟨⟨_, h1⟩, h2⟩, h3⟩, h4⟩ := h
  rw [List.all_eq_true] at h1 h2 h3
  refine ⟨h1, fun i o ho e he hb => ?_, fun i hi => ?_, pairAll_spec h4⟩
  · have := h2 i (List.mem_range.2 (List.getElem?_eq_some_iff.1 ho).1)
    rw [ho] at this
    simp only [List.all_eq_true, Bool.or_eq_true, Bool.not_eq_true', decide_eq_true_eq] at this
    rcases this e (by simpa using he) with h | h
    · rw [hb] at h; cases h
    · exact h
  · have := h3 i (List.mem_range.2 hi)
    simpa using this
theorem opnOps_app {ops : List Oper} {ms : List MOp} {l m : List Nat} : opnOps ops ms (l ++ m) = opnOps ops ms l ++ opnOps ops ms m := List.filterMap_append
theorem opnOps_cons {ops : List Oper} {ms : List MOp} {i : Nat} {l : List Nat} {m : MOp} (h : ms[i]? = some m) : opnOps ops ms (i :: l) = (tagOf ops ms i, m) :: opnOps ops ms l := by
  unfold opnOps
  rw [List.filterMap_cons, h]
  rfl
/-- What is not listed yet. -/
def restO (l : List Nat) (listed : Array Bool) : List Nat := l.filter fun j => !listed.getD j true
theorem set_un {listed : Array Bool} {i : Nat} (hi : i < listed.size) (j : Nat) : (!(listed.setIfInBounds i true).getD j true) = ((!listed.getD j true) && j != i) := by
  by_cases e : j = i
  · subst e
    have : (listed.setIfInBounds j true).getD j true = true := by simp [hi]
    rw [this]
    simp
  · rw [getD_set_ne true (Ne.symm e)]
    simp [e]
theorem restO_set {l : List Nat} {listed : Array Bool} {i : Nat} (hi : i < listed.size) : restO l (listed.setIfInBounds i true) = (restO l listed).filter (· != i) := by
  unfold restO
  rw [List.filter_filter]
  refine List.filter_congr fun j _ => ?_
  rw [set_un hi, Bool.and_comm]
/-- One walk serves every order, where looks may see more than one memory. -/
theorem any_opn {ops : Array Oper} {ms : List MOp} {s' : St} {Q : Exit → Act → World → Prop} (hS : SoundC P W call) (hG : Gd W μ0 hb w0) (hlen : ms.length = ops.toList.length) (hrd : ∀ (j : Nat) (o : Oper), ops.toList[j]? = some o → ∃ m, ms[j]? = some m ∧ Read1 P N D E L ops o m)
    (f1 : ∀ m ∈ ms, m.ins.freely = true) (f2 : ∀ (i : Nat) (o : Oper), ops.toList[i]? = some o → ∀ e ∈ o.after, Region.binds .any e = true → e.on < i) (f3 : ∀ i, i < ms.length → i ∈ opnIdx ops.toList ms) (f4 : (opnIdx ops.toList ms).Pairwise fun a i => (a != i && opnPair E ops.toList ms a i) = true)
    (hQ : ∀ a w, Shows N D E L μ0 hb w0 s' a w → Q .normal a w) :
    ∀ (fuel : Nat) (listed : Array Bool) (s : St) (hs : List Heap) (a : Act) (w : World), listed.size = ops.size → Down ops.toList listed → (left ops.size listed).length ≤ fuel → AlE E s →
      hs.getLast? = some s.h → ((mkIdx ms).filter fun j => listed.getD j true).length < hs.length → runOpn call (opnOps ops.toList ms (restO (opnIdx ops.toList ms) listed)) hs s = some s' → Shows N D E L μ0 hb w0 s a w → wpAny P .any ops Q fuel listed a w := by
  have hnd : (opnIdx ops.toList ms).Nodup := f4.imp fun h => by
    rw [Bool.and_eq_true] at h
    simpa using h.1
  have hmnd : (mkIdx ms).Nodup := List.Pairwise.filter _ List.nodup_range
  have hget : ∀ j, j < ops.size → ∃ o m, ops[j]? = some o ∧ ms[j]? = some m ∧ Read1 P N D E L ops o m := fun j hj => by
    have ho : ops[j]? = some ops[j] := Array.getElem?_eq_getElem hj
    obtain ⟨m, q1, q2⟩ := hrd j ops[j] (by simp)
    exact ⟨_, m, ho, q1, q2⟩
  have hgood : ∀ {j m}, ms[j]? = some m → Good N D E L m := fun {j m} hm => by
    refine ⟨f1 m (List.mem_of_getElem? hm), ?_⟩
    have hj : j < ops.size := by have := (List.getElem?_eq_some_iff.1 hm).1; simpa [hlen] using this
    obtain ⟨o, m', q1, q2, q3⟩ := hget j hj
    rw [hm] at q2
    cases q2
    rw [q3.same]
    exact q3.dst
  have done : ∀ (listed : Array Bool) (s : St) (hs : List Heap) (a : Act) (w : World), listed.size = ops.size → runOpn call (opnOps ops.toList ms (restO (opnIdx ops.toList ms) listed)) hs s = some s' → Shows N D E L μ0 hb w0 s a w → Region.ready .any ops listed = [] → Q .normal a w := by
    intro listed s hs a w hsz hr hR h0
    have hl := ready_all hsz f2 h0
    have : restO (opnIdx ops.toList ms) listed = [] := by
      unfold restO
      rw [List.filter_eq_nil_iff]
      intro j _ hj
      have hj' : listed.getD j true = false := by simpa using hj
      have hlt : j < listed.size := by
        rcases Nat.lt_or_ge j listed.size with q | q
        · exact q
        · simp [Array.getElem?_eq_none q] at hj'
      have : j ∈ left ops.size listed := mem_left.2 ⟨by omega, hj'⟩
      rw [hl] at this
      cases this
    rw [this] at hr
    simp only [opnOps, List.filterMap_nil, runOpn, Option.some.injEq] at hr
    subst hr
    exact hQ _ _ hR
  intro fuel
  induction fuel with
  | zero =>
    intro listed s hs a w hsz hdn hfu hA hg hc hr hR
    have hl : left ops.size listed = [] := List.eq_nil_of_length_eq_zero (by omega)
    have hrd : Region.ready .any ops listed = [] := by
      refine List.eq_nil_iff_forall_not_mem.2 fun j hj => ?_
      obtain ⟨h1, o, h2, _⟩ := mem_ready.1 hj
      have : j ∈ left ops.size listed := mem_left.2 ⟨(Array.getElem?_eq_some_iff.1 h2).1, h1⟩
      rw [hl] at this
      cases this
    exact ⟨hrd, done listed s hs a w hsz hr hR hrd⟩
  | succ fuel ih =>
    intro listed s hs a w hsz hdn hfu hA hg hc hr hR
    refine ⟨done listed s hs a w hsz hr hR, fun i hi => ?_⟩
    obtain ⟨hiun, oi, hoi, hall⟩ := mem_ready.1 hi
    have hin : i < ops.size := (Array.getElem?_eq_some_iff.1 hoi).1
    have hil : i ∈ left ops.size listed := mem_left.2 ⟨hin, hiun⟩
    obtain ⟨m1, m2, e1, e2, e3⟩ := left_split hil
    obtain ⟨o', m, q1, hm, hrm⟩ := hget i hin
    rw [hoi] at q1
    cases q1
    have hanc : ∀ j, anc ops.toList 12 i j = true → listed.getD j true ≠ false := fun j hj hf => by
      have := anc_listed hdn 12 i (fun o ho => by
        have : o = oi := by
          have h2 : ops.toList[i]? = some oi := by simpa using hoi
          rw [h2] at ho
          exact (Option.some.inj ho).symm
        subst this
        exact hall) hj
      exact getD_true_false hf this
    have hii : i ∈ restO (opnIdx ops.toList ms) listed := List.mem_filter.2 ⟨f3 i (by rw [hlen]; simpa using hin), by rw [hiun]; rfl⟩
    obtain ⟨l1, l2, d1, d2, d3⟩ := pair_split (List.Pairwise.filter _ hnd) (List.Pairwise.filter _ f4) hii
    have hr' := hr
    have d1' : restO (opnIdx ops.toList ms) listed = l1 ++ i :: l2 := d1
    have d3' : (restO (opnIdx ops.toList ms) listed).filter (· != i) = l1 ++ l2 := d3
    rw [d1', opnOps_app, opnOps_cons hm] at hr'
    have hgm := hgood hm
    have htm := tagOf_ok (ops := ops.toList) hm
    have hdep : m.ins.looks = true → (tagOf ops.toList ms i).dep < hs.length := fun hlk => by
      have e : tagOf ops.toList ms i = .l ((mkIdx ms).takeWhile (anc ops.toList 12 i)).length := by
        unfold tagOf
        have : insAt MI.looks ms i = true := by unfold insAt; rw [hm]; exact hlk
        rw [if_pos this]
      rw [e]
      refine Nat.lt_of_le_of_lt (take_few fun j hj hq => ?_) hc
      have := hanc j hq
      cases hv : listed.getD j true with
      | true => rfl
      | false => exact absurd hv this
    obtain ⟨s1, k1, k2⟩ := frontO hgm htm (fun p hp => by
      obtain ⟨j, hj, hjy⟩ := List.mem_filterMap.1 hp
      obtain ⟨y, hy, rfl⟩ := Option.map_eq_some_iff.1 hjy
      have hjl : j ∈ restO (opnIdx ops.toList ms) listed := by rw [d1']; exact List.mem_append_left _ hj
      have hun : listed.getD j true = false := by simpa using (List.mem_filter.1 hjl).2
      have hno : ¬ anc ops.toList 12 i j = true := fun hc => hanc j hc hun
      have hpr := d2 j hj
      rw [Bool.and_eq_true] at hpr
      have hpr2 := hpr.2
      unfold opnPair at hpr2
      rw [hy, hm] at hpr2
      simp only [Bool.or_eq_true, Bool.and_eq_true, Bool.not_eq_true', Bool.and_eq_false_iff] at hpr2
      have := hpr2.resolve_left hno
      refine ⟨hgood hy, tagOf_ok hy, this.1, fun q => ?_⟩
      rcases this.2 with r | r
      · rw [q.1] at r; cases r
      · rw [q.2] at r; cases r) hdep hg hA hr'
    rw [← opnOps_app, ← d3', ← restO_set (by rw [hsz]; exact hin)] at k2
    have fm := opn_frame hgm htm hA k1
    obtain ⟨n1, n2⟩ := next_last (x := m) htm hg fm.mem
    have next : ∀ a w, Shows N D E L μ0 hb w0 s1 a w → wpAny P .any ops Q fuel (listed.setIfInBounds i true) a w := fun a w hR1 => by
      refine ih _ s1 _ a w (by simpa using hsz) ?_ ?_ fm.al n1 ?_ k2 hR1
      · intro j o ho hj e he hbd
        by_cases hji : j = i
        · subst hji
          have : o = oi := by
            have h2 : ops.toList[j]? = some oi := by simpa using hoi
            rw [h2] at ho
            exact (Option.some.inj ho).symm
          subst this
          exact getD_set_true (hall e he hbd)
        · rw [getD_set_ne false (Ne.symm hji)] at hj
          exact getD_set_true (hdn j o ho hj e he hbd)
      · rw [e3]
        rw [e1] at hfu
        simp only [List.length_append, List.length_cons] at hfu ⊢
        omega
      · have hp : ∀ j, j ≠ i → (listed.setIfInBounds i true).getD j true = listed.getD j true := fun j hj => getD_set_ne true (Ne.symm hj)
        cases hmk : m.ins.makes with
        | true =>
          rw [nextH_yes htm hmk, List.length_append]
          have := filter_grow (p := fun j => listed.getD j true) (p' := fun j => (listed.setIfInBounds i true).getD j true) (i := i) hp hmnd
          simp only [List.length_cons, List.length_nil]
          omega
        | false =>
          rw [nextH_no htm hmk, filter_off (p := fun j => listed.getD j true) (i := i) hp fun q => ?_]
          · exact hc
          · have := (List.mem_filter.1 q).2
            unfold insAt at this
            rw [hm] at this
            simp only at this
            rw [hmk] at this
            cases this
    obtain ⟨lam, μ, R⟩ := hR
    unfold wpOp
    simp only [hoi]
    cases hw : m.want s with
    | none => exact (opn_want hw k1).elim
    | some b =>
      rw [guard_ok R hrm.guard hw]
      cases b with
      | true =>
        rw [if_pos rfl]
        exact .inl (Oper.wp_mono (fun a w h => next a w h) (go_ok hS hG R hrm.ins hrm.dst hrm.same (opn_go hgm htm hw k1)))
      | false =>
        rw [if_neg (by simp)]
        have := opn_skip hw k1
        subst this
        refine next _ _ ⟨lam, μ, ?_⟩
        rw [← hrm.same]
        exact R.skip (fun d hd => dst_lt hrm.dst d (by rw [← hrm.same]; exact hd))
theorem opn_ok (hS : SoundC P W call) : OpnOk P W N D E L call := by
  intro μ0 h0 w0 hG id ops ms s s' a w hms hf hmix hrun hal hR
  obtain ⟨g1, g2⟩ := compOps_get hms
  have hrd : ∀ (j : Nat) (o : Oper), ops.toList[j]? = some o → ∃ m, ms[j]? = some m ∧ Read1 P N D E L ops o m := fun j o hj => by
    obtain ⟨m, q1, q2⟩ := g2 j o hj
    exact ⟨m, q1, compOp_read q2⟩
  have hdn : Down ops.toList (Array.replicate ops.size false) := by
    intro j o ho hj
    exfalso
    have hlt : j < ops.size := by have := (List.getElem?_eq_some_iff.1 ho).1; simpa using this
    simp [hlt] at hj
  have hAl : AlE E s := by
    intro e d off h
    rw [hal] at h
    cases h
  have hmsl : ms.length = ops.size := by simpa using g1
  have low : ∀ {p : Nat → Bool} {j : Nat}, j ∈ (List.range ms.length).filter p → j < ops.size := fun {p j} hj => by
    have := List.mem_range.1 (List.mem_filter.1 hj).1
    omega
  obtain ⟨f1, f2, f3, f4⟩ := opnOk_spec hf
  refine wp_region_any hmix (any_opn (s' := s') hS hG g1 hrd f1 f2 f3 f4 (fun a w h => ⟨rfl, h⟩) ops.size (Array.replicate ops.size false) s [s.h] a _ (by simp) hdn ?_ hAl rfl ?_ ?_ hR.drawn)
  · exact Nat.le_trans (List.length_filter_le _ _) (by simp)
  · have : ((mkIdx ms).filter fun j => (Array.replicate ops.size false).getD j true) = [] := by
      rw [List.filter_eq_nil_iff]
      intro j hj
      have hlt := low hj
      simp [hlt]
    rw [this]
    simp
  · have : restO (opnIdx ops.toList ms) (Array.replicate ops.size false) = opnIdx ops.toList ms := by
      unfold restO
      refine List.filter_eq_self.2 fun j hj => ?_
      have hlt : j < ops.size := by
        unfold opnIdx at hj
        obtain ⟨k, _, hj⟩ := List.mem_flatMap.1 hj
        rcases List.mem_append.1 hj with q | q
        · exact low q
        · exact low q
      simp [hlt]
    rw [this]
    exact hrun
end
end Go.Proofs.YthfeahanmbmjhaaGreatDoor.Ab
