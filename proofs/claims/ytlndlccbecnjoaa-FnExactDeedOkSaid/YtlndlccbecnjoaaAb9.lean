/- A frame of the machine shows a state of the small language; one operation keeps that. No conditions. -/
import Derived.Test.YtlndlccbecnjoaaAb8
namespace Go.Proofs.Ytlndlccbecnjoaa.Ab
set_option linter.unusedSimpArgs false
set_option linter.unusedVariables false
set_option linter.unnecessarySimpa false
open Go.RowKit

/-- What a slot's own store is in the machine: a box (by a pointer), a literal (by a slice). -/
def LocOk (D : List Nat) (L : List (Nat × Nat)) (d g : Nat) (v : Value) : Prop :=
  (D.contains d = true ∧ L.lookup d = none ∧ v = .pointer (some ⟨g, 0, none⟩)) ∨ ∃ n, L.lookup d = some n ∧ D.contains d = false ∧ v = .slice (some ⟨g, 0, none⟩) n n

/-- The frame shows the state; since the call began ('μ0', 'h0', 'w0') the memory has come as it is. -/
structure Rel (N : Nat) (D : List Nat) (E L : List (Nat × Nat)) (μ0 : Map) (h0 : Heap) (w0 : World) (lam : Nat → Nat) (μ : Map) (s : St) (a : Act) (w : World) : Prop where
  rt : RelT N μ s a
  hr : HRel μ s.h w
  to : To μ0 h0 w0 μ s.h w
  loc : ∀ d cs, s.loc d = some cs → w0.heap.size ≤ lam d ∧ lam d < w.heap.size ∧ ¬ In μ s.h (lam d) ∧ (∃ cur e, w.heap[lam d]? = some (.cells cur e (0, 0)) ∧ All2 (VR1 μ s.h) cs cur.toList) ∧ LocOk D L d (lam d) (a.tmps.getD d undef)
  locs : ∀ d d' cs cs', s.loc d = some cs → s.loc d' = some cs' → d ≠ d' → lam d ≠ lam d'
  al : ∀ e d off, s.al e = some (d, off) → (s.loc d).isSome = true → E.lookup e = some d ∧ D.contains e = false ∧ (L.lookup e).isNone = true ∧ D.contains d = true ∧ a.tmps.getD e undef = .pointer (some ⟨lam d, off, none⟩)
  alD : ∀ e d off, s.al e = some (d, off) → D.contains d = true
  dfr : a.defers = []

section
variable {P : Program} {N : Nat} {D : List Nat} {E L : List (Nat × Nat)} {μ0 : Map} {h0 : Heap} {w0 : World} {lam : Nat → Nat} {μ : Map} {s : St} {a : Act} {w : World} {o : Oper} {v : Value} {h' : Heap}

theorem tmps_put (a : Act) (d : Nat) (v : Value) (hd : d < a.tmps.size) (i : Nat) : (a.put (some d) v).tmps.getD i undef = if i = d then v else a.tmps.getD i undef := by
  simp only [Act.put, Array.getD_eq_getD_getElem?, Array.getElem?_setIfInBounds]
  by_cases e : i = d
  · subst e; simp [hd]
  · rw [if_neg (fun h => e h.symm), if_neg e]

theorem RelT.put {μ' : Map} (R : RelT N μ s a) (up : Up μ s.h μ' h') {d : Nat} (hd : d < N) {v' : Value} (k : VR μ' h' v v') : RelT N μ' { s.put (some d) v with h := h' } (a.put (some d) v') := by
  have hs : d < a.tmps.size := by rw [R.size]; exact hd
  refine ⟨by simp [Act.put, R.size], fun i => ?_⟩
  rw [tmps_put a d v' hs]
  show VR μ' h' (upd s.t d v i) _
  by_cases e : i = d
  · subst e; rw [upd_same, if_pos rfl]; exact k
  · rw [upd_ne _ _ e, if_neg e]; exact (R.t i).up up

theorem RelT.same {μ' : Map} {t : Nat → Value} (R : RelT N μ s a) (up : Up μ s.h μ' h') (ht : t = s.t) {lc : Nat → Option (List Value)} {al : Nat → Option (Nat × Nat)} : RelT N μ' ⟨t, lc, al, h'⟩ a :=
  ⟨R.size, fun i => by subst ht; exact (R.t i).up up⟩

/-- The own stores are as they were, where the memory has taken a step. -/
theorem Rel.locStep {μ' : Map} {w' : World} (R : Rel N D E L μ0 h0 w0 lam μ s a w) (T : To μ s.h w μ' h' w') {d : Nat} {cs : List Value} (hd : s.loc d = some cs) :
    w0.heap.size ≤ lam d ∧ lam d < w'.heap.size ∧ ¬ In μ' h' (lam d) ∧ (∃ cur e, w'.heap[lam d]? = some (.cells cur e (0, 0)) ∧ All2 (VR1 μ' h') cs cur.toList) ∧ LocOk D L d (lam d) (a.tmps.getD d undef) := by
  obtain ⟨h1, h2, h3, ⟨cur, e, h4, h5⟩, h6⟩ := R.loc d cs hd
  refine ⟨h1, Nat.lt_of_lt_of_le h2 T.frame.size, fun hm => ?_, ⟨cur, e, ?_, h5.imp fun _ _ k => k.up T.up⟩, h6⟩
  · rcases T.ins _ hm with h | h
    · omega
    · exact h3 h
  · rw [T.frame.block _ h2 (fun ⟨b, blk, q1, _, q2⟩ => h3 ⟨b, blk, q1, q2⟩)]; exact h4

theorem plain_spec {d : Nat} (h : plain D E L d = true) : D.contains d = false ∧ E.lookup d = none ∧ L.lookup d = none := by
  simp only [plain, Bool.and_eq_true, Bool.not_eq_true', Option.isNone_iff_eq_none] at h
  exact ⟨h.1.1, h.1.2, h.2⟩

theorem LocOk.ne_plain {d e g : Nat} {v : Value} (h : LocOk D L d g v) (hp : plain D E L e = true) : d ≠ e := by
  rintro rfl
  obtain ⟨h1, _, h3⟩ := plain_spec hp
  rcases h with ⟨h, _⟩ | ⟨n, h, _⟩
  · rw [h1] at h; cases h
  · rw [h3] at h; cases h

/-- A common slot is laid. -/
theorem Rel.put {μ' : Map} {w' : World} {v' : Value} {d : Nat} (R : Rel N D E L μ0 h0 w0 lam μ s a w) (hp : plain D E L d = true) (hd : d < N) (k : VR μ' h' v v') (H : HRel μ' h' w') (T : To μ s.h w μ' h' w') :
    Rel N D E L μ0 h0 w0 lam μ' { s.put (some d) v with h := h' } (a.put (some d) v') w' := by
  have hs : d < a.tmps.size := by rw [R.rt.size]; exact hd
  refine ⟨R.rt.put T.up hd k, H, R.to.trans T, fun d' cs hl => ?_, R.locs, fun e d' off he hl => ?_, R.alD, R.dfr⟩
  · have h1 := R.locStep T hl
    have hne := h1.2.2.2.2.ne_plain hp
    rw [tmps_put a d v' hs, if_neg hne]
    exact h1
  · obtain ⟨h1, h2, h3, h4, h5⟩ := R.al e d' off he hl
    refine ⟨h1, h2, h3, h4, ?_⟩
    have hne : e ≠ d := by
      rintro rfl
      rw [(plain_spec hp).2.1] at h1
      cases h1
    rw [tmps_put a d v' hs, if_neg hne]
    exact h5

/-- No slot is laid, the memory takes a step. -/
theorem Rel.mem {μ' : Map} {w' : World} (R : Rel N D E L μ0 h0 w0 lam μ s a w) (H : HRel μ' h' w') (T : To μ s.h w μ' h' w') :
    Rel N D E L μ0 h0 w0 lam μ' { s with h := h' } a w' :=
  ⟨R.rt.same T.up rfl, H, R.to.trans T, fun d' cs hl => R.locStep T hl, R.locs, R.al, R.alD, R.dfr⟩

/-- An own store's cells, where the memory has not turned. -/
theorem Rel.locCells (R : Rel N D E L μ0 h0 w0 lam μ s a w) {d : Nat} {cs : List Value} (hd : s.loc d = some cs) {off n : Nat} (hn : off + n ≤ cs.length) :
    ∃ ys : List Value, All2 (VR1 μ s.h) ((cs.drop off).take n) ys ∧ ∀ j v', ys[j]? = some v' → w.cell? ((⟨lam d, off, none⟩ : Addr).add j) = some v' := by
  obtain ⟨h1, h2, h3, ⟨cur, e, h4, h5⟩, h6⟩ := R.loc d cs hd
  refine ⟨(cur.toList.drop off).take n, (h5.drop off).take n, fun j v' hj => ?_⟩
  rw [Addr.add_lit, cell_of_row h4]
  rw [List.getElem?_take] at hj
  split at hj
  · rw [List.getElem?_drop] at hj
    simpa using hj
  · cases hj

theorem ok_ldLoc {x d : Nat} {ty : TypeId} {off n : Nat} {agg : Bool} {cs : List Value} {u : Value} (R : Rel N D E L μ0 h0 w0 lam μ s a w) (ho : o.op = .load ty (.tmp x)) (hx : a.tmps.getD x undef = .pointer (some ⟨lam d, off, none⟩)) (ht : rowOf P ty = some (n, agg)) (hd : s.loc d = some cs)
    (hn : off + n ≤ cs.length) (hu : ofCells agg ((cs.drop off).take n) = some u) : Out P μ s.h w o a u s.h := by
  obtain ⟨ys, k, hc⟩ := R.locCells hd hn
  obtain ⟨u', h1, h2⟩ := run_loadVar (P := P) (w := w) ht _ (by simp; omega) k hc hu
  refine Out.pure (v' := u') ?_ h2 R.hr
  have he : a.eval (.tmp x) = .pointer (some ⟨lam d, off, none⟩) := hx
  simp [execOp, ho, Instr.loadAt, Instr.sureAddr, he, h1]

/-- A world that differs outside of the memory alone. -/
theorem HRel.other {w' : World} {g : Nat} (H : HRel μ s.h w) (hg : ¬ In μ s.h g) (hr : ∀ j, j ≠ g → j < w.heap.size → w'.heap[j]? = w.heap[j]?) (hs : w.heap.size ≤ w'.heap.size) : HRel μ s.h w' := by
  have ne : ∀ b blk, s.h[b]? = some blk → (μ b).g ≠ g := fun b blk hb e => hg ⟨b, blk, hb, e⟩
  exact ⟨fun b blk hb i v hv => by
      obtain ⟨v', h1, h2⟩ := H.cell b blk hb i v hv
      exact ⟨v', by rw [cell_of_same (hr _ (ne b blk hb) (H.lt b blk hb))]; exact h1, h2⟩,
    H.pos, fun b blk hb => Nat.lt_of_lt_of_le (H.lt b blk hb) hs, fun b blk hb ho => by
      obtain ⟨h1, cur, h2, h3, h4⟩ := H.own b blk hb ho
      exact ⟨h1, cur, by rw [hr _ (ne b blk hb) (H.lt b blk hb)]; exact h2, h3, h4⟩, H.sep⟩

/-- An own store is written. -/
theorem Rel.setLoc {w' : World} {d : Nat} {cs cs' : List Value} {new : Array Value} {e : TypeId} (R : Rel N D E L μ0 h0 w0 lam μ s a w) (hd : s.loc d = some cs)
    (hw : w'.heap[lam d]? = some (.cells new e (0, 0))) (hr : ∀ j, j ≠ lam d → w'.heap[j]? = w.heap[j]?) (hs : w'.heap.size = w.heap.size) (os : w'.os = w.os) (tape : w'.tape = w.tape) (out : w'.output = w.output) (k : All2 (VR1 μ s.h) cs' new.toList) :
    Rel N D E L μ0 h0 w0 lam μ { s with loc := upd s.loc d (some cs') } a w' := by
  obtain ⟨l1, l2, l3, _, l5⟩ := R.loc d cs hd
  refine ⟨⟨R.rt.size, R.rt.t⟩, R.hr.other l3 (fun j hj _ => hr j hj) (Nat.le_of_eq hs.symm), ⟨R.to.up, ⟨os.trans R.to.frame.os, tape.trans R.to.frame.tape, out.trans R.to.frame.output, by rw [hs]; exact R.to.frame.size, fun j hj hm => ?_⟩, R.to.keeps, R.to.ins⟩, fun d' cs2 hl => ?_, fun d1 d2 c1 c2 h1 h2 hne => ?_, fun e' d' off he hl => ?_, R.alD, R.dfr⟩
  · rw [hr j (by omega)]; exact R.to.frame.block j hj hm
  · by_cases e' : d' = d
    · subst e'
      simp only [upd_same, Option.some.injEq] at hl
      subst hl
      exact ⟨l1, by rw [hs]; exact l2, l3, ⟨new, e, hw, k⟩, l5⟩
    · simp only [upd_ne _ _ e'] at hl
      obtain ⟨g1, g2, g3, ⟨cur, e2, g4, g5⟩, g6⟩ := R.loc d' cs2 hl
      exact ⟨g1, by rw [hs]; exact g2, g3, ⟨cur, e2, by rw [hr _ (R.locs d' d cs2 cs hl hd e')]; exact g4, g5⟩, g6⟩
  · have q1 : ∃ c, s.loc d1 = some c := by
      by_cases e' : d1 = d
      · subst e'; exact ⟨cs, hd⟩
      · simp only [upd_ne _ _ e'] at h1; exact ⟨c1, h1⟩
    have q2 : ∃ c, s.loc d2 = some c := by
      by_cases e' : d2 = d
      · subst e'; exact ⟨cs, hd⟩
      · simp only [upd_ne _ _ e'] at h2; exact ⟨c2, h2⟩
    obtain ⟨x1, q1⟩ := q1
    obtain ⟨x2, q2⟩ := q2
    exact R.locs d1 d2 x1 x2 q1 q2 hne
  · refine R.al e' d' off he ?_
    by_cases e2 : d' = d
    · subst e2; rw [hd]; rfl
    · simp only [upd_ne _ _ e2] at hl; exact hl

theorem run_storeLoc {t : TypeId} {i : TypeInfo} {g off n : Nat} {cur : Array Value} {e : TypeId} {u : Value} {ys : List Value} (hi : P.info? t = some i) (hin : i.size = n) (hu : u.cells = ⟨ys⟩) (hl : ys.length = n) (h1 : ∀ y ∈ ys, y.oneCell' = true) (hg : w.heap[g]? = some (.cells cur e (0, 0))) (hfit : off + n ≤ cur.size) :
    (storeVar t ⟨g, off, none⟩ u).run P w = .ok () (w.setRow g ⟨Ab.putAt cur.toList off ys⟩) := by
  have hst := run_storeCells_at P g off e ys 0 cur w hg (by simp; omega) h1
  simp only [Nat.add_zero] at hst
  have hsz : u.cells.size = i.size := by rw [hu]; simp [hl, hin]
  have hul : u.cells.toList = ys := by rw [hu]
  simp [storeVar, run_sizeOf hi, hsz, hul, hst, Ab.putAt]

theorem VR1.ones {h : Heap} {xs ys : List Value} (k : All2 (VR1 μ h) xs ys) : ∀ y ∈ ys, y.oneCell' = true := fun y hy => by
  obtain ⟨j, hj⟩ := List.mem_iff_getElem?.1 hy
  obtain ⟨hj1, _⟩ := List.getElem?_eq_some_iff.1 hj
  exact (k.2 j _ y (List.getElem?_eq_getElem (by rw [k.1]; exact hj1)) hj).oneCell

/-- A store into an own box. -/
theorem Rel.stLoc {t : TypeId} {x d : Nat} {vo : Operand} {vo' : Opd} {off n : Nat} {agg : Bool} {i : TypeInfo} {cs vs : List Value} (R : Rel N D E L μ0 h0 w0 lam μ s a w) (ho : o.op = .store t (.tmp x) vo) (hv : opd vo = some vo') (hx : a.tmps.getD x undef = .pointer (some ⟨lam d, off, none⟩)) (hi : P.info? t = some i) (hin : i.size = n)
    (hd : s.loc d = some cs) (hvs : cellsOf (s.val vo') = some vs) (hl : vs.length = n) (hn : off + n ≤ cs.length) :
    ∃ w', (execOp a.eval o).run P w = .ok .skip w' ∧ Rel N D E L μ0 h0 w0 lam μ { s with loc := upd s.loc d (some (putAt cs off vs)) } a w' := by
  obtain ⟨l1, l2, l3, ⟨cur, e, l4, l5⟩, l6⟩ := R.loc d cs hd
  obtain ⟨ys, e1, e2⟩ := (eval_opd R.rt hv).cells hvs
  have hcl : cs.length = cur.size := by rw [l5.1, Array.length_toList]
  have hrun := run_storeLoc (P := P) (w := w) (off := off) hi hin e1 (by rw [← e2.1, hl]) (VR1.ones e2) l4 (by omega)
  refine ⟨w.setRow (lam d) ⟨Ab.putAt cur.toList off ys⟩, ?_, R.setLoc hd (setRow_heap w _ cur _ e _ l4) (fun j hj => setRow_other w _ j _ hj) (by simp [World.setRow]) rfl rfl rfl (l5.putAt e2 off)⟩
  have he : a.eval (.tmp x) = .pointer (some ⟨lam d, off, none⟩) := hx
  simp [execOp, ho, Instr.storeAt, Instr.sureAddr, he, hrun]

end
end Go.Proofs.Ytlndlccbecnjoaa.Ab
