/- One operation that is taken, whatever it is; one that is not; a region in the text's order. No conditions. -/
import Derived.Test.YtlndlccbecnjoaaAb13
import Derived.Tactics
namespace Go.Proofs.Ytlndlccbecnjoaa.Ab
set_option linter.unusedSimpArgs false
set_option linter.unusedVariables false
set_option linter.unnecessarySimpa false
open Go.RowKit
section
variable {P : Program} {N : Nat} {D : List Nat} {E L : List (Nat × Nat)} {μ0 : Map} {h0 : Heap} {w0 : World} {lam : Nat → Nat} {μ : Map} {s s' : St} {a : Act} {w : World} {o : Oper} {v : Value} {h' : Heap} {call : FuncId → List Value → Heap → Option (Value × Heap)} {Q : Exit → Act → World → Prop}

theorem unal_spec {al : Nat → Option (Nat × Nat)} {d e d' off : Nat} (h : unal al d e = some (d', off)) : d' ≠ d ∧ al e = some (d', off) := by
  unfold unal at h
  split at h
  · rename_i d2 off2 he
    split at h
    · cases h
    · rename_i hne
      cases h
      exact ⟨hne, he⟩
  · cases h

theorem lookup_isNone {l : List (Nat × Nat)} {d : Nat} (h : (l.lookup d).isNone = true) : l.lookup d = none := Option.isNone_iff_eq_none.1 h

theorem go_newL {z : List Value} {d : Nat} {al' : Nat → Option (Nat × Nat)} (R : Rel N D E L μ0 h0 w0 lam μ s a w) (hc : compIns P D E L o = some (.newL z)) (hd : o.dst = some d) (hk : dstOk D E L N (.newL z) (some d) = true)
    (hal : ∀ e d' off, al' e = some (d', off) → d' ≠ d ∧ s.al e = some (d', off)) : o.wp P a w (Shows N D E L μ0 h0 w0 { s with t := upd s.t d undef, loc := upd s.loc d (some z), al := al' }) Q := by
  obtain ⟨t, n, agg, ho, h1, h2, h3, h4⟩ := inv_newL hc
  simp only [dstOk, Bool.and_eq_true, decide_eq_true_eq] at hk
  obtain ⟨i, zv, z1, z2, z3, z4, z5⟩ := zeroOf_spec h2
  refine wp_value (v' := .pointer (some ⟨w.heap.size, 0, none⟩)) (w' := w.alloc (.cells ⟨z⟩ t)) ?_ ?_
  · simp [execOp, ho, Instr.alloc, zeroValue, typeInfo, z1, z2, newVar, newRow, z3]
  · rw [hd]
    exact ⟨_, μ, R.newLoc hk.2 (.inl ⟨hk.1.1, lookup_isNone hk.1.2, rfl⟩) (All2.prims z5) hal⟩

theorem go_boxL {n d : Nat} {y : Opd} {cs : List Value} (R : Rel N D E L μ0 h0 w0 lam μ s a w) (hc : compIns P D E L o = some (.boxL n y)) (hd : o.dst = some d) (hk : dstOk D E L N (.boxL n y) (some d) = true) (hcs : cellsOf (s.val y) = some cs) :
    o.wp P a w (Shows N D E L μ0 h0 w0 { s with t := upd s.t d undef, loc := upd s.loc d (some cs), al := unal s.al d }) Q := by
  obtain ⟨t, x, agg, ho, h1, h2, h3⟩ := inv_boxL hc
  simp only [dstOk, Bool.and_eq_true, decide_eq_true_eq] at hk
  obtain ⟨ys, e, k⟩ := (eval_opd R.rt h2).cells hcs
  refine wp_value (v' := .pointer (some ⟨w.heap.size, 0, none⟩)) (w' := w.alloc (.cells ⟨ys⟩ t)) ?_ ?_
  · simp [execOp, ho, Instr.box, newVar, newRow, e]
  · rw [hd]
    exact ⟨_, μ, R.newLoc hk.2 (.inl ⟨hk.1.1, lookup_isNone hk.1.2, rfl⟩) k fun _ _ _ h => unal_spec h⟩

theorem go_litL {n sz d : Nat} {z : List Value} {ps : List (Nat × Opd)} {cs : List Value} (R : Rel N D E L μ0 h0 w0 lam μ s a w) (hc : compIns P D E L o = some (.litL n sz z ps)) (hd : o.dst = some d) (hk : dstOk D E L N (.litL n sz z ps) (some d) = true)
    (hcs : fillAt sz (zeros z n) (ps.map fun p => (p.1, s.val p.2)) = some cs) : o.wp P a w (Shows N D E L μ0 h0 w0 { s with t := upd s.t d undef, loc := upd s.loc d (some cs) }) Q := by
  obtain ⟨t, parts, e, b, xs, d', ho, ht, hx, rfl, hn, hn0, hd', hL⟩ := inv_litL hc
  rw [hd] at hd'
  cases hd'
  simp only [dstOk, Bool.and_eq_true, decide_eq_true_eq, Bool.not_eq_true'] at hk
  obtain ⟨cs', k, hrun⟩ := run_lit (w := w) R.rt ht hx hn hn0 hcs
  refine wp_value (v' := .slice (some ⟨w.heap.size, 0, none⟩) n n) (w' := w.alloc (.cells ⟨cs'⟩ e)) ?_ ?_
  · simp [execOp, ho, hrun]
  · rw [hd]
    refine ⟨_, μ, R.newLoc hk.2 (.inr ⟨n, hL, hk.1.1.2, rfl⟩) k fun e' d2 off h => ⟨?_, h⟩⟩
    rintro rfl
    rw [R.alD e' d2 off h] at hk
    simp at hk

theorem go_faB {off d e : Nat} {cs : List Value} (R : Rel N D E L μ0 h0 w0 lam μ s a w) (hc : compIns P D E L o = some (.faB off d)) (hd : o.dst = some e) (hk : dstOk D E L N (.faB off d) (some e) = true) (hl : s.loc d = some cs) :
    o.wp P a w (Shows N D E L μ0 h0 w0 { s with t := upd s.t e undef, al := upd s.al e (some (d, off)) }) Q := by
  obtain ⟨t, f, n, agg, ho, h1, h2⟩ := inv_faB hc
  simp only [dstOk, Bool.and_eq_true, decide_eq_true_eq, Bool.not_eq_true', beq_iff_eq] at hk
  obtain ⟨fs, fd, i, f1, f2, f3, f4, f5, f6, f7⟩ := fieldOf_spec h1
  obtain ⟨_, _, _, _, l6⟩ := R.loc d cs hl
  rcases l6 with ⟨_, _, l6⟩ | ⟨n', _, h, _⟩
  · refine wp_value (v' := .pointer (some ⟨lam d, off, none⟩)) (w' := w) ?_ ?_
    · have h8 : ¬ i.size = 0 := by omega
      have e' : a.eval (.tmp d) = .pointer (some ⟨lam d, 0, none⟩) := l6
      simp [execOp, ho, Instr.fieldAt, run_underlying f1, f2, Instr.sureAddr, e', fieldPlace, run_sizeOf f5, h8, f3, Addr.add_lit]
    · rw [hd]
      exact ⟨lam, μ, R.alias hk.2 hk.1.1.1 hk.1.1.2 hk.1.2 h2⟩
  · rw [h2] at h; cases h

theorem go_faE {off d e e' off' : Nat} {cs : List Value} (R : Rel N D E L μ0 h0 w0 lam μ s a w) (hc : compIns P D E L o = some (.faE off d e)) (hd : o.dst = some e') (hk : dstOk D E L N (.faE off d e) (some e') = true) (hal : s.al e = some (d, off')) (hl : s.loc d = some cs) :
    o.wp P a w (Shows N D E L μ0 h0 w0 { s with t := upd s.t e' undef, al := upd s.al e' (some (d, off' + off)) }) Q := by
  obtain ⟨t, f, n, agg, ho, h1, h2⟩ := inv_faE hc
  simp only [dstOk, Bool.and_eq_true, decide_eq_true_eq, Bool.not_eq_true', beq_iff_eq] at hk
  obtain ⟨fs, fd, i, f1, f2, f3, f4, f5, f6, f7⟩ := fieldOf_spec h1
  obtain ⟨_, _, _, p4, p5⟩ := R.al e d off' hal (by rw [hl]; rfl)
  refine wp_value (v' := .pointer (some ⟨lam d, off' + off, none⟩)) (w' := w) ?_ ?_
  · have h8 : ¬ i.size = 0 := by omega
    have e' : a.eval (.tmp e) = .pointer (some ⟨lam d, off', none⟩) := p5
    simp [execOp, ho, Instr.fieldAt, run_underlying f1, f2, Instr.sureAddr, e', fieldPlace, run_sizeOf f5, h8, f3, Addr.add_lit]
  · rw [hd]
    exact ⟨lam, μ, R.alias hk.2 hk.1.1.1 hk.1.1.2 hk.1.2 p4⟩

theorem go_stB {n d : Nat} {y : Opd} {cs vs : List Value} (R : Rel N D E L μ0 h0 w0 lam μ s a w) (hc : compIns P D E L o = some (.stB n d y)) (hd : o.dst = none) (hl : s.loc d = some cs) (hvs : cellsOf (s.val y) = some vs) (hn : vs.length = n) (hf : n ≤ cs.length) :
    o.wp P a w (Shows N D E L μ0 h0 w0 { s with loc := upd s.loc d (some (putAt cs 0 vs)) }) Q := by
  obtain ⟨t, x, agg, i, ho, h1, h2, h3, h4, h5⟩ := inv_stB hc
  obtain ⟨_, _, _, _, l6⟩ := R.loc d cs hl
  rcases l6 with ⟨_, _, l6⟩ | ⟨n', _, h, _⟩
  · obtain ⟨w', hr, hR⟩ := R.stLoc (P := P) (agg := agg) ho h4 l6 h2 h3 hl hvs hn (by omega)
    refine wp_skip' hr ?_
    rw [hd]
    exact ⟨lam, μ, hR⟩
  · rw [h5] at h; cases h

theorem go_stE {n d e off : Nat} {y : Opd} {cs vs : List Value} (R : Rel N D E L μ0 h0 w0 lam μ s a w) (hc : compIns P D E L o = some (.stE n d e y)) (hd : o.dst = none) (hal : s.al e = some (d, off)) (hl : s.loc d = some cs) (hvs : cellsOf (s.val y) = some vs) (hn : vs.length = n) (hf : off + n ≤ cs.length) :
    o.wp P a w (Shows N D E L μ0 h0 w0 { s with loc := upd s.loc d (some (putAt cs off vs)) }) Q := by
  obtain ⟨t, x, agg, i, ho, h1, h2, h3, h4, h5⟩ := inv_stE hc
  obtain ⟨_, _, _, p4, p5⟩ := R.al e d off hal (by rw [hl]; rfl)
  obtain ⟨w', hr, hR⟩ := R.stLoc (P := P) (agg := agg) ho h4 p5 h2 h3 hl hvs hn hf
  refine wp_skip' hr ?_
  rw [hd]
  exact ⟨lam, μ, hR⟩

theorem go_st {n : Nat} {x' y : Opd} {vs : List Value} (R : Rel N D E L μ0 h0 w0 lam μ s a w) (hc : compIns P D E L o = some (.st n x' y)) (hd : o.dst = none) (hvs : cellsOf (s.val y) = some vs) (hn : vs.length = n) (hst : stC s.h (s.val x') vs = some h') :
    o.wp P a w (Shows N D E L μ0 h0 w0 { s with h := h' }) Q := by
  obtain ⟨t, z, x, agg, i, ho, rfl, h1, h2, h3, h4⟩ := inv_st hc
  obtain ⟨w', hr, μ', hR⟩ : ∃ w', (execOp a.eval o).run P w = .ok .skip w' ∧ ∃ μ', Rel N D E L μ0 h0 w0 lam μ' { s with h := h' } a w' := by
    obtain ⟨w', hr, hR⟩ := R.st (P := P) (x := .tmp z) ho (by simp [opd]) h4 h2 h3 hvs hn hst
    exact ⟨w', hr, μ, hR⟩
  refine wp_skip' hr ?_
  rw [hd]
  exact ⟨lam, μ', hR⟩

/-- Any operation that is taken. -/
theorem go_ok {m : MOp} (hS : SoundC P call) (R : Rel N D E L μ0 h0 w0 lam μ s a w) (hc : compIns P D E L o = some m.ins) (hk : dstOk D E L N m.ins o.dst = true) (hd : m.dst = o.dst) (hg : m.go call s = some s') : o.wp P a w (Shows N D E L μ0 h0 w0 s') Q := by
  unfold MOp.go at hg
  split at hg
  · rename_i cells hi
    rw [hi] at hc hk
    split at hg
    · rename_i d hmd
      cases hg
      rw [hd] at hmd
      rw [hmd] at hk
      exact go_newL R hc hmd hk fun _ _ _ h => unal_spec h
    · cases hg
  · rename_i n x hi
    rw [hi] at hc hk
    split at hg
    · rename_i d cs hmd hcs
      split at hg
      · cases hg
        rw [hd] at hmd
        rw [hmd] at hk
        exact go_boxL R hc hmd hk hcs
      · cases hg
    · cases hg
  · rename_i off d hi
    rw [hi] at hc hk
    split at hg
    · rename_i e cs hmd hl
      cases hg
      rw [hd] at hmd
      rw [hmd] at hk
      exact go_faB R hc hmd hk hl
    · cases hg
  · rename_i off d e hi
    rw [hi] at hc hk
    split at hg
    · rename_i e' d' off' cs hmd hal hl
      split at hg
      · rename_i hdd
        subst hdd
        cases hg
        rw [hd] at hmd
        rw [hmd] at hk
        exact go_faE R hc hmd hk hal hl
      · cases hg
    · cases hg
  · rename_i n d y hi
    rw [hi] at hc hk
    split at hg
    · rename_i cs vs hmd hl hvs
      split at hg
      · rename_i hcond
        cases hg
        exact go_stB R hc (by rw [← hd]; exact hmd) hl hvs hcond.1 hcond.2
      · cases hg
    · cases hg
  · rename_i n d e y hi
    rw [hi] at hc hk
    split at hg
    · rename_i d' off vs cs hmd hal hvs hl
      split at hg
      · rename_i hcond
        obtain ⟨rfl, h1, h2⟩ := hcond
        cases hg
        exact go_stE R hc (by rw [← hd]; exact hmd) hal hl hvs h1 h2
      · cases hg
    · cases hg
  · rename_i n sz zero parts hi
    rw [hi] at hc hk
    split at hg
    · rename_i e cs hmd hcs
      cases hg
      rw [hd] at hmd
      rw [hmd] at hk
      exact go_litL R hc hmd hk hcs
    · cases hg
  · rename_i n x y hi
    rw [hi] at hc hk
    split at hg
    · rename_i vs hmd hvs
      split at hg
      · rename_i hn
        simp only [Option.map_eq_some_iff] at hg
        obtain ⟨h2, hst, rfl⟩ := hg
        exact go_st R hc (by rw [← hd]; exact hmd) hvs hn hst
      · cases hg
    · cases hg
  · rename_i f args hi
    rw [hi] at hc hk
    simp only [Option.map_eq_some_iff] at hg
    obtain ⟨⟨v, h2⟩, hr, rfl⟩ := hg
    obtain ⟨as, ts, ho, hl⟩ := inv_call hc
    rw [hd]
    refine go_call hS R ho hl (fun d hdd => ?_) hr
    rw [hdd] at hk
    simpa [dstOk] using hk
  · rename_i f args hi
    rw [hi] at hc hk
    obtain ⟨ft, as, ts, rfl, ho, hl⟩ := inv_callV hc
    split at hg
    · rename_i g caps hf
      simp only [Option.map_eq_some_iff] at hg
      obtain ⟨⟨v, h2⟩, hr, rfl⟩ := hg
      rw [hd]
      refine go_callV hS R ho hl (fun d hdd => ?_) hf hr
      rw [hdd] at hk
      simpa [dstOk] using hk
    · cases hg
  · simp only [Option.map_eq_some_iff] at hg
    obtain ⟨⟨v, h2⟩, hr, rfl⟩ := hg
    obtain ⟨d, h1, h3, h4⟩ := dstOk_value hk ⟨_, hr⟩
    rw [hd]
    exact go_value R hc h1 h3 h4 hr

/-- A guard, read and run. -/
theorem guard_ok {m : MOp} {ops : Array Oper} (R : Rel N D E L μ0 h0 w0 lam μ s a w) (hg : (o.guard = none ∧ m.guard = none) ∨ ∃ j b g d, o.guard = some (j, b) ∧ ops[j]? = some g ∧ g.dst = some d ∧ m.guard = some (d, b)) {c : Bool} (hw : m.want s = some c) :
    Region.wanted o (yielded ops a.tmps) = c := by
  unfold MOp.want at hw
  unfold Region.wanted
  rcases hg with ⟨h1, h2⟩ | ⟨j, b, g, d, h1, h2, h3, h4⟩
  · rw [h2] at hw
    rw [h1]
    simpa using hw
  · rw [h4] at hw
    rw [h1]
    simp only at hw ⊢
    have kd := R.rt.t d
    have hy : yielded ops a.tmps j = match a.tmps[d]? with | some (.bool b) => some b | _ => none := by
      simp only [yielded, h2, h3, Option.bind_some]
      rfl
    have hgd : a.tmps.getD d undef = (a.tmps[d]?).getD undef := by simp [Array.getD_eq_getD_getElem?]
    rw [hy]
    split at hw
    · rename_i c' hc'
      rw [hc'] at kd
      have := kd.bool
      rw [hgd] at this
      cases hq : a.tmps[d]? with
      | none => rw [hq] at this; cases this
      | some u =>
        rw [hq] at this
        simp only [Option.getD_some] at this
        subst this
        simpa using hw
    · rename_i hc'
      rw [hc'] at kd
      have hu : a.tmps.getD d undef = undef := by
        generalize a.tmps.getD d undef = u at kd
        cases kd with
        | gone => rfl
        | val _ _ k => cases k with
          | one _ _ k => cases k with
            | base _ _ k => cases k with
              | prim _ hp => simp [Ab.prim] at hp
      rw [hgd] at hu
      cases hw
      cases hq : a.tmps[d]? with
      | none => rfl
      | some u =>
        rw [hq] at hu
        simp only [Option.getD_some] at hu
        subst hu
        rfl
    · cases hw

/-- The operation 'o' has been read as 'm'. -/
structure Read1 (P : Program) (N : Nat) (D : List Nat) (E L : List (Nat × Nat)) (ops : Array Oper) (o : Oper) (m : MOp) : Prop where
  ins : compIns P D E L o = some m.ins
  dst : dstOk D E L N m.ins o.dst = true
  same : m.dst = o.dst
  guard : (o.guard = none ∧ m.guard = none) ∨ ∃ j b g d, o.guard = some (j, b) ∧ ops[j]? = some g ∧ g.dst = some d ∧ m.guard = some (d, b)

theorem compOp_read {ops : Array Oper} {m : MOp} (h : compOp P D E L N ops.toList o = some m) : Read1 P N D E L ops o m := by
  unfold compOp at h
  split at h
  · rename_i i hi
    split at h
    · rename_i hk
      split at h
      · rename_i hg
        cases h
        exact ⟨hi, hk, rfl, .inl ⟨hg, rfl⟩⟩
      · rename_i j b hg
        split at h
        · rename_i g hj
          split at h
          · rename_i d hd
            split at h
            · cases h
              exact ⟨hi, hk, rfl, .inr ⟨j, b, g, d, hg, by simpa using hj, hd, rfl⟩⟩
            · cases h
          · cases h
        · cases h
    · cases h
  · cases h

theorem dst_lt {i : MI} (h : dstOk D E L N i o.dst = true) : ∀ d, o.dst = some d → d < N := by
  intro d hd
  rw [hd] at h
  cases i <;> simp only [dstOk, Bool.and_eq_true, decide_eq_true_eq, Bool.false_eq_true] at h <;> first | exact h.2 | (split at h <;> simp_all)

theorem compOps_get {ops : List Oper} : ∀ {l : List Oper} {ms : List MOp}, compOps P D E L N ops l = some ms → ms.length = l.length ∧ ∀ (j : Nat) (o : Oper), l[j]? = some o → ∃ m, ms[j]? = some m ∧ compOp P D E L N ops o = some m
  | [], ms, h => by simp [compOps] at h; subst h; exact ⟨rfl, fun j o hj => by simp at hj⟩
  | o :: l, ms, h => by
    simp only [compOps] at h
    split at h
    · rename_i m ms' h1 h2
      cases h
      obtain ⟨g1, g2⟩ := compOps_get h2
      refine ⟨by simp [g1], fun j o' hj => ?_⟩
      cases j with
      | zero => simp at hj; subst hj; exact ⟨m, rfl, h1⟩
      | succ j => simp at hj; obtain ⟨m', q1, q2⟩ := g2 j o' hj; exact ⟨m', by simpa using q1, q2⟩
    · cases h

/-- A region in the text's order. -/
theorem list_ok (hS : SoundC P call) {ops : Array Oper} {K : Act → World → Prop} : ∀ (l : List Oper) (ms : List MOp) (s : St) (a : Act) (w : World), ms.length = l.length → (∀ (j : Nat) (o : Oper), l[j]? = some o → ∃ m, ms[j]? = some m ∧ Read1 P N D E L ops o m) →
    Shows N D E L μ0 h0 w0 s a w → runOps call ms s = some s' → (∀ a' w', Shows N D E L μ0 h0 w0 s' a' w' → Q .normal a' w') → wpList P ops Q l a w
  | [], ms, s, a, w, hl, _, hR, hr, hk => by
    have : ms = [] := List.eq_nil_of_length_eq_zero hl
    subst this
    simp only [runOps, Option.some.injEq] at hr
    subst hr
    exact hk _ _ hR
  | o :: l, ms, s, a, w, hl, hm, hR, hr, hk => by
    obtain ⟨m, hm0, hrd⟩ := hm 0 o rfl
    cases ms with
    | nil => simp at hl
    | cons m' ms =>
      simp only [List.getElem?_cons_zero, Option.some.injEq] at hm0
      subst hm0
      simp only [runOps, Option.bind_eq_some_iff] at hr
      obtain ⟨s1, h1, h2⟩ := hr
      have ih := fun a w (hR : Shows N D E L μ0 h0 w0 s1 a w) => list_ok hS (K := K) l ms s1 a w (by simpa using hl) (fun j o' hj => by
        obtain ⟨m2, q1, q2⟩ := hm (j + 1) o' (by simpa using hj)
        exact ⟨m2, by simpa using q1, q2⟩) hR h2 hk
      obtain ⟨lam, μ, R⟩ := hR
      unfold MOp.step at h1
      simp only [wpList]
      split at h1
      · rename_i hw
        rw [guard_ok R hrd.guard hw, if_pos rfl]
        exact .inl (Oper.wp_mono (fun a w h => ih a w h) (go_ok hS R hrd.ins hrd.dst hrd.same h1))
      · rename_i hw
        rw [guard_ok R hrd.guard hw, if_neg (by simp)]
        cases h1
        refine ih _ _ ⟨lam, μ, ?_⟩
        rw [← hrd.same]
        exact R.skip (fun d hd => dst_lt hrd.dst d (by rw [← hrd.same]; exact hd))
      · cases h1

end
end Go.Proofs.Ytlndlccbecnjoaa.Ab
