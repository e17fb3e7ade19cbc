/- A function of the small language, and the machine's. No conditions. -/
import Derived.Test.YtlndlccbecnjoaaAb15
namespace Go.Proofs.Ytlndlccbecnjoaa.Ab
set_option linter.unusedSimpArgs false
set_option linter.unusedVariables false
set_option linter.unnecessarySimpa false
open Go.RowKit
section
variable {P : Program} {N : Nat} {D : List Nat} {E L : List (Nat × Nat)} {μ0 : Map} {h0 : Heap} {w0 : World} {lam : Nat → Nat} {μ : Map} {s s' : St} {a : Act} {w : World} {call : FuncId → List Value → Heap → Option (Value × Heap)}

/-- Each function of the table is a loaded one, read. -/
def TabOk (P : Program) (T : FuncId → Option Fun) : Prop := ∀ f F, T f = some F → ∃ fn, P.funcs[f]? = some fn ∧ compFun P fn = some F

theorem compFun_spec {fn : Func} {F : Fun} (h : compFun P fn = some F) : ∃ c, fn.body = some c ∧ compCode P (boxesOf fn c) (aliasesOf (boxesOf fn c) c) (litsOf fn c) fn.ntmps c = some F.body ∧
    fn.results.toList.mapM (compRes P (boxesOf fn c) (aliasesOf (boxesOf fn c) c) (litsOf fn c)) = some F.res ∧ F.np ≤ fn.ntmps ∧ (fn.name == "runtime.NumGoroutine") = false := by
  unfold compFun at h
  split at h
  · rename_i c hc
    simp only at h
    split at h
    · rename_i ir rs h1 h2
      split at h
      · rename_i h3
        cases h
        exact ⟨c, hc, h1, h2, h3.1, h3.2⟩
      · cases h
    · cases h
  · cases h

theorem enter_ok {f : FuncId} {fn : Func} (hf : P.funcs[f]? = some fn) (hn : (fn.name == "runtime.NumGoroutine") = false) {c : Code} (hb : fn.body = some c) (args : Array Value) (w : World) : (callFunc f args).run P w = .ok (.enter f args) w := by
  simp only [callFunc, Sem.run_bind, run_program, Result.andThen_ok, hf, hn, hb]
  simp

/-- One result. -/
theorem res_ok {rv : ResultVar} {r : Res} {v : Value} (R : Rel N D E L μ0 h0 w0 lam μ s a w) (hc : compRes P D E L rv = some r) (hg : r.get s = some v) :
    ∃ v', (match rv with | .tmp t => pure (a.tmps.getD t undef) | .cell x t => do loadVar t (← asAddr (a.tmps.getD x undef)) : Sem Value).run P w = .ok v' w ∧ VR μ s.h v v' := by
  cases rv with
  | tmp t =>
    simp only [compRes] at hc
    split at hc
    · cases hc
      simp only [Res.get, Option.some.injEq] at hg
      subst hg
      exact ⟨_, by simp, R.rt.t t⟩
    · cases hc
  | cell x t =>
    simp only [compRes] at hc
    split at hc
    · rename_i n agg hro
      split at hc
      · rename_i hD
        cases hc
        simp only [Res.get] at hg
        split at hg
        · rename_i cs hl
          split at hg
          · rename_i hn
            obtain ⟨_, _, _, _, l6⟩ := R.loc x cs hl
            rcases l6 with ⟨_, _, l6⟩ | ⟨_, _, h, _⟩
            · obtain ⟨ys, k, hcl⟩ := R.locCells hl (off := 0) (n := n) (by omega)
              obtain ⟨u', h1, h2⟩ := run_loadVar (P := P) (w := w) hro _ (by simp; omega) k hcl (by simpa using hg)
              refine ⟨u', ?_, h2⟩
              simp [l6, asAddr, h1]
            · rw [hD] at h; cases h
          · cases hg
        · cases hg
      · cases hc
    · cases hc

theorem mapM_cons_some {α β : Type} {f : α → Option β} {x : α} {xs : List α} {ys : List β} (h : (x :: xs).mapM f = some ys) : ∃ y ys', ys = y :: ys' ∧ f x = some y ∧ xs.mapM f = some ys' := by
  simp only [List.mapM_cons, Option.bind_eq_bind, Option.bind_eq_some_iff, Option.pure_def, Option.some.injEq] at h
  obtain ⟨y, hy, ys', hys, rfl⟩ := h
  exact ⟨y, ys', rfl, hy, hys⟩

theorem ress_ok (R : Rel N D E L μ0 h0 w0 lam μ s a w) : ∀ (rvs : List ResultVar) (rs : List Res) (vs : List Value), rvs.mapM (compRes P D E L) = some rs → rs.mapM (Res.get s) = some vs →
    ∃ vs', (rvs.mapM fun rv => (match rv with | .tmp t => pure (a.tmps.getD t undef) | .cell x t => do loadVar t (← asAddr (a.tmps.getD x undef)) : Sem Value)).run P w = .ok vs' w ∧ All2 (VR μ s.h) vs vs'
  | [], rs, vs, h1, h2 => by
    simp at h1
    subst h1
    simp at h2
    subst h2
    exact ⟨[], by simp, All2.nil⟩
  | rv :: rvs, rs, vs, h1, h2 => by
    obtain ⟨r, rs', rfl, g1, g2⟩ := mapM_cons_some h1
    obtain ⟨v, vs', rfl, g3, g4⟩ := mapM_cons_some h2
    obtain ⟨v', e1, k1⟩ := res_ok R g1 g3
    obtain ⟨us, e2, k2⟩ := ress_ok R rvs rs' vs' g2 g4
    refine ⟨v' :: us, ?_, All2.cons k1 k2⟩
    rw [List.mapM_cons, Sem.run_bind, e1]
    simp only [Result.andThen_ok, Sem.run_bind, e2, Sem.run_pure]

theorem VRA.of_live {h : Heap} {v v' : Value} (k : VR μ h v v') (hl : live v = true) : VRA μ h v v' := by
  cases k with
  | dead => simp [live, undef] at hl
  | gone => simp [live] at hl
  | val _ _ k => exact k
  | tup => simp [live] at hl

theorem results_ok {fn : Func} {F : Fun} {v : Value} (R : Rel N D E L μ0 h0 w0 lam μ s a w) (hc : fn.results.toList.mapM (compRes P D E L) = some F.res) (hg : results1 s F.res = some v) : ∃ v', (results fn a.tmps).run P w = .ok v' w ∧ VR μ s.h v v' := by
  unfold results1 at hg
  cases hm : F.res.mapM (Res.get s) with
  | none => rw [hm] at hg; cases hg
  | some vs =>
    obtain ⟨vs', e1, k⟩ := ress_ok R fn.results.toList F.res vs hc hm
    have hrun : (fn.results.mapM fun rv => (match rv with | .tmp t => pure (a.tmps.getD t undef) | .cell x t => do loadVar t (← asAddr (a.tmps.getD x undef)) : Sem Value)).run P w = .ok vs'.toArray w := by
      rw [Array.mapM_eq_mapM_toList, Sem.run_map, e1]
      rfl
    have hres : (results fn a.tmps).run P w = .ok (if h : vs'.toArray.size = 1 then vs'.toArray[0] else .tuple vs'.toArray) w := by
      unfold results
      rw [Sem.run_bind]
      refine (congrArg (fun r => Result.andThen r (fun vs w' => (pure (if h : vs.size = 1 then vs[0] else .tuple vs) : Sem Value).run P w')) hrun).trans ?_
      simp
    rw [hm] at hg
    have hlen := k.1
    split at hg
    · rename_i u hu
      cases hu
      split at hg
      · cases hg
        obtain ⟨u', hu', ku⟩ := k.get (i := 0) rfl
        obtain ⟨z, rfl⟩ := List.length_eq_one_iff.1 hlen.symm
        simp at hu'
        subst hu'
        exact ⟨z, by rw [hres]; simp, ku⟩
      · cases hg
    · rename_i us hne hu
      cases hu
      split at hg
      · rename_i hall
        cases hg
        refine ⟨.tuple ⟨vs'⟩, ?_, .tup _ _ ⟨k.1, fun i x y hx hy => VRA.of_live (k.2 i x y hx hy) (by rw [List.all_eq_true] at hall; exact hall x (List.mem_of_getElem? hx))⟩⟩
        rw [hres, dif_neg]
        simp only [List.size_toArray]
        rw [← k.1]
        intro h1
        match vs, h1, hne with
        | [u], _, hne => exact hne u rfl
      · cases hg
    · cases hg

/-- What lies behind the first blocks may be forgotten, where the answer is flat. -/
theorem VR0.back {h t : Heap} {μ' : Map} {v v0 v' : Value} (k0 : VR0 μ h v v0) (k : VR0 μ' (h ++ t) v v') : VR0 μ' h v v' := by
  cases k0 with
  | hollow A =>
    cases k with
    | prim _ hp => exact .prim _ hp
    | hollow A' => exact .hollow A'
  | prim _ hp =>
    cases k with
    | prim _ _ => exact .prim _ hp
    | hollow A' => exact .hollow A'
    | sl => simp [Ab.prim] at hp
    | ptr => simp [Ab.prim] at hp
  | sl b off len cap _ blk hb _ _ _ _ =>
    cases k with
    | prim _ hp => simp [Ab.prim] at hp
    | sl _ _ _ _ _ blk' hb' h1 h2 h3 h4 =>
      rw [List.getElem?_append_left (lt_of_get hb)] at hb'
      exact .sl _ _ _ _ _ blk' hb' h1 h2 h3 h4
  | ptr b off Ln _ blk hb _ _ _ =>
    cases k with
    | prim _ hp => simp [Ab.prim] at hp
    | ptr _ _ _ _ blk' hb' h1 h2 h3 =>
      rw [List.getElem?_append_left (lt_of_get hb)] at hb'
      exact .ptr _ _ _ _ blk' hb' h1 h2 h3
theorem VR1.back {h t : Heap} {μ' : Map} {v v0 v' : Value} (k0 : VR1 μ h v v0) (k : VR1 μ' (h ++ t) v v') : VR1 μ' h v v' := by
  cases k0 with
  | base _ _ k0 =>
    cases k with
    | base _ _ k => exact .base _ _ (k0.back k)
    | fn f xs ys k => cases k0 with
      | prim _ hp => simp [Ab.prim] at hp
  | fn f xs zs k0 =>
    generalize e : (Value.func f #[] ⟨xs⟩) = u at k
    cases k with
    | base _ _ k => subst e; cases k with
      | prim _ hp => simp [Ab.prim] at hp
    | fn f' xs' ys k =>
      injection e with e1 _ e2
      subst e1
      have e2' : xs = xs' := by simpa using congrArg Array.toList e2
      subst e2'
      refine .fn f xs ys ⟨k.1, fun i x y hx hy => ?_⟩
      obtain ⟨z, hz, kz⟩ := k0.get hx
      exact kz.back (k.2 i x y hx hy)

theorem VR.flat {h h2 : Heap} {μ' : Map} {v v' : Value} (hf : flat v = true) (k : VR μ' h v v') : VR μ h2 v v' := by
  have hprim : ∀ {x x' : Value}, prim x = true → VR1 μ' h x x' → VR1 μ h2 x x' := by
    intro x x' hp k
    cases k with
    | base _ _ k => cases k with
      | prim _ hp => exact .base _ _ (.prim _ hp)
      | hollow A => exact .base _ _ (.hollow A)
      | sl => simp [Ab.prim] at hp
      | ptr => simp [Ab.prim] at hp
    | fn => simp [Ab.prim] at hp
  have hall : ∀ {xs ys : List Value}, xs.all prim = true → All2 (VR1 μ' h) xs ys → All2 (VR1 μ h2) xs ys := by
    intro xs ys hp k
    refine ⟨k.1, fun i x y hx hy => hprim ?_ (k.2 i x y hx hy)⟩
    rw [List.all_eq_true] at hp
    exact hp x (List.mem_of_getElem? hx)
  cases k with
  | dead => exact .dead _
  | gone => exact .gone
  | val _ _ k => cases k with
    | agg xs ys k => exact .val _ _ (.agg _ _ (hall hf k))
    | one _ _ k =>
      have hp : prim v = true := by
        have h1 := k.oneCell
        cases k with
        | fn => simp [Ab.flat, Ab.prim] at hf
        | base _ _ k => cases k with
          | prim _ hp => exact hp
          | hollow => rfl
          | sl => simp [Ab.flat, Ab.prim] at hf
          | ptr => simp [Ab.flat, Ab.prim] at hf
      exact .val _ _ (.one _ _ (hprim hp k))
  | tup xs ys k =>
    refine .tup _ _ ⟨k.1, fun i x y hx hy => ?_⟩
    have hx1 := k.2 i x y hx hy
    have hfx : flat1 x = true := by
      simp only [Ab.flat, List.all_eq_true] at hf
      exact hf x (List.mem_of_getElem? hx)
    cases hx1 with
    | agg xs ys k => exact .agg _ _ (hall hfx k)
    | one _ _ k =>
      have hp : prim x = true := by
        cases k with
        | fn => simp [flat1, Ab.prim] at hfx
        | base _ _ k => cases k with
          | prim _ hp => exact hp
          | hollow => rfl
          | sl => simp [flat1, Ab.prim] at hfx
          | ptr => simp [flat1, Ab.prim] at hfx
      exact .one _ _ (hprim hp k)

/-- A function's answer, its own memory forgotten where it may be. -/
theorem finish_ok {μ' : Map} {h1 : Heap} {w' : World} {v v' : Value} (H : HRel μ h0 w) (H' : HRel μ' h1 w') (T : To μ h0 w μ' h1 w') (k : VR μ' h1 v v') :
    ∃ v2 μ2, v' = v2 ∧ VR μ2 (finish h0 (v, h1)).2 (finish h0 (v, h1)).1 v2 ∧ HRel μ2 (finish h0 (v, h1)).2 w' ∧ To μ h0 w μ2 (finish h0 (v, h1)).2 w' := by
  unfold finish
  split
  · rename_i hc
    obtain ⟨hf, t, rfl⟩ := hc
    refine ⟨v', μ', rfl, k.flat hf, H'.forget fun b blk hb i x hx x' hk => ?_, ⟨fun b blk hb => ?_, T.frame, fun g hg => ?_, fun g hg => ?_⟩⟩
    · obtain ⟨x0, _, k0⟩ := H.cell b blk hb i x hx
      exact k0.back hk
    · obtain ⟨blk', e1, e2, e3, e4, e5, e6⟩ := T.up b blk hb
      rw [List.getElem?_append_left (lt_of_get hb), hb] at e1
      cases e1
      exact ⟨blk, hb, rfl, rfl, rfl, Nat.le_refl _, e6⟩
    · obtain ⟨b, blk, hb, ho, e⟩ := hg
      exact T.keeps g ⟨b, blk, by rw [List.getElem?_append_left (lt_of_get hb)]; exact hb, ho, e⟩
    · obtain ⟨b, blk, hb, e⟩ := hg
      exact T.ins g ⟨b, blk, by rw [List.getElem?_append_left (lt_of_get hb)]; exact hb, e⟩
  · exact ⟨v', μ', rfl, k, H', T⟩

/-- The call of a function of the table. -/
theorem call_sound {T : FuncId → Option Fun} {X : FuncId → List Value → Heap → Option (Value × Heap)} (hT : TabOk P T) (hX : SoundC P X) (hF : ∀ (call : FuncId → List Value → Heap → Option (Value × Heap)) N D E L, SoundC P call → FreeOk P N D E L call) : ∀ n, SoundC P (Ab.call T X n) := by
  intro n
  induction n with
  | zero => intro f args h v h' hc; simp [Ab.call] at hc
  | succ n ih =>
    intro f args h v h' hc
    simp only [Ab.call] at hc
    cases hTf : T f with
    | none => rw [hTf] at hc; exact hX f args h v h' hc
    | some F =>
      rw [hTf] at hc
      simp only at hc
      obtain ⟨fn, hfn, hcf⟩ := hT f F hTf
      obtain ⟨c, hb, hcode, hres, hnp, hname⟩ := compFun_spec hcf
      refine ⟨fun args' w => enter_ok hfn hname hb args' w, fun μ w args' H ka => ?_⟩
      split at hc
      · rename_i hal
        have hlen : args'.length = F.np := by rw [← ka.1]; exact hal
        let a0 : Act := { tmps := (⟨args'⟩ : Array Value) ++ Array.replicate (fn.ntmps - (⟨args'⟩ : Array Value).size) undef, defers := [] }
        have hR : Shows fn.ntmps (boxesOf fn c) (aliasesOf (boxesOf fn c) c) (litsOf fn c) μ h w (start args h) a0 w := by
          refine ⟨fun _ => 0, μ, ⟨⟨by simp [a0]; omega, fun i => ?_⟩, H, To.refl _ _ _, (fun d cs hd => by simp [start] at hd), (fun d d' cs cs' hd => by simp [start] at hd), (fun e d off he => by simp [start] at he), (fun e d off he => by simp [start] at he), rfl⟩⟩
          show VR μ h (args.getD i undef) _
          by_cases hi : i < args.length
          · have hx : args[i]? = some args[i] := List.getElem?_eq_getElem hi
            obtain ⟨y, hy, ky⟩ := ka.get hx
            have e1 : args.getD i undef = args[i] := by simp [List.getD, hx]
            have e2 : a0.tmps.getD i undef = y := by
              have : i < args'.length := by rw [← ka.1]; exact hi
              simp only [a0, Array.getD_eq_getD_getElem?]
              rw [Array.getElem?_append_left (by simpa using this)]
              simp only [List.getElem?_toArray]
              rw [hy]; rfl
            rw [e1, e2]
            exact ky
          · have e1 : args.getD i undef = undef := by simp [List.getD, List.getElem?_eq_none (Nat.le_of_not_lt hi)]
            rw [e1]
            exact .dead _
        have fin : ∀ (e : Exit) (s1 : St), (e = .normal ∨ e = .ret) → exec (Ab.call T X n) n F.body (start args h) = some (e, s1) → (results1 s1 F.res).map (fun v => finish h (v, s1.h)) = some (v, h') →
            Calls P f ⟨args'⟩ w fun e w' => ∃ v' μ', e = .returned v' ∧ VR μ' h' v v' ∧ HRel μ' h' w' ∧ To μ h w μ' h' w' := by
          intro e s1 he hex hr
          simp only [Option.map_eq_some_iff] at hr
          obtain ⟨u, hu, hfin⟩ := hr
          refine calls_of_wp hfn hb (wp_mono (exec_ok ih (hF _ _ _ _ _ ih) n c F.body hcode (start args h) e s1 rfl hex a0 w hR) fun e2 a2 w2 h2 => ?_)
          obtain ⟨rfl, lam, μ2, R2⟩ := h2
          obtain ⟨v', hv', kv⟩ := results_ok R2 hres hu
          obtain ⟨v3, μ3, rfl, k1, k2, k3⟩ := finish_ok H R2.hr R2.to kv
          rw [hfin] at k1 k2 k3
          rcases he with rfl | rfl
          · exact ⟨R2.dfr, v', hv', v', μ3, rfl, k1, k2, k3⟩
          · exact ⟨R2.dfr, v', hv', v', μ3, rfl, k1, k2, k3⟩
        split at hc
        · rename_i s1 hex
          exact fin .normal s1 (.inl rfl) hex hc
        · rename_i s1 hex
          exact fin .ret s1 (.inr rfl) hex hc
        · cases hc
      · cases hc

end
end Go.Proofs.Ytlndlccbecnjoaa.Ab
