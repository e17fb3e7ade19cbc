/- One operation of a loaded function, read into the small language and run there, is what the machine does. No conditions. -/
import Derived.Test.YtlndlccbecnjoaaAb10
namespace Go.Proofs.Ytlndlccbecnjoaa.Ab
set_option linter.unusedSimpArgs false
set_option linter.unusedVariables false
set_option linter.unnecessarySimpa false
open Go.RowKit
section
variable {P : Program} {N : Nat} {D : List Nat} {E L : List (Nat × Nat)} {μ0 : Map} {h0 : Heap} {w0 : World} {lam : Nat → Nat} {μ : Map} {s : St} {a : Act} {w : World} {o : Oper} {v : Value} {h' : Heap}

theorem isStr_spec {t : TypeId} (h : isStr P t = true) : P.underlying t = some .string := by
  unfold isStr at h
  split at h
  · assumption
  · cases h
theorem isSlice_spec {t : TypeId} (h : isSlice P t = true) : ∃ e, P.underlying t = some (.slice e) := by
  unfold isSlice at h
  split at h
  · exact ⟨_, by assumption⟩
  · cases h

/-- A literal's cells, appended. -/
theorem ok_appL {d : Operand} {x : Nat} {d' : Opd} {t e : TypeId} {sz bytes n : Nat} {z : List Value} (R : Rel N D E L μ0 h0 w0 lam μ s a w) (ho : o.op = .call { callee := .builtin .append, args := #[d, .tmp x], argTypes := #[t, t] }) (hd : opd d = some d')
    (hL : L.lookup x = some n) (ht : elemOf P t = some (e, sz, bytes, z)) (hr : (MI.appL sz e bytes n d' x).run s = some (v, h')) : Out P μ s.h w o a v h' := by
  simp only [MI.run] at hr
  split at hr
  · rename_i cs hl
    split at hr
    · rename_i hcl
      obtain ⟨_, _, _, ⟨cur, e', l4, l5⟩, l6⟩ := R.loc x cs hl
      rcases l6 with ⟨_, h1, l6⟩ | ⟨n', h1, h2, l6⟩
      · rw [hL] at h1; cases h1
      · rw [hL] at h1
        cases h1
        refine app_core R.rt R.hr ho hd ht (show a.eval (.tmp x) = _ from l6) hcl (fun _ => ⟨_, cur.toList, rfl, l5, fun j v' hj => ?_⟩) hr
        rw [Addr.add_lit, Nat.zero_add, cell_of_row l4]
        simpa using hj
    · cases hr
  · cases hr

theorem ok_strL {x : Nat} {t t' e : TypeId} {n : Nat} (R : Rel N D E L μ0 h0 w0 lam μ s a w) (ho : o.op = .convert t t' (.tmp x)) (ht : P.underlying t = some (.slice e)) (he : P.underlying e = some (.int .u8)) (ht' : P.underlying t' = some .string) (hL : L.lookup x = some n) (hr : (MI.strL n x).run s = some (v, h')) : Out P μ s.h w o a v h' := by
  simp only [MI.run] at hr
  split at hr
  · rename_i cs hl
    split at hr
    case isFalse => cases hr
    rename_i hcl
    simp only [Option.map_eq_some_iff, Prod.mk.injEq] at hr
    obtain ⟨ns, hns, rfl, rfl⟩ := hr
    have hcells := ints8_map hns
    subst hcells
    obtain ⟨_, _, _, ⟨cur, e', l4, l5⟩, l6⟩ := R.loc x _ hl
    have hcur : cur.toList = ns.map (Value.int .u8) := by
      apply List.ext_getElem?
      intro j
      by_cases hj : j < ns.length
      · obtain ⟨y, hy, k⟩ := l5.get (i := j) (List.getElem?_eq_getElem (by simpa using hj))
        rw [hy, List.getElem?_eq_getElem (by simpa using hj)]
        have := (VR.val _ _ (.one _ _ k))
        simp only [List.getElem_map] at this ⊢
        rw [this.int]
      · rw [List.getElem?_eq_none (by rw [← l5.1]; simpa using hj), List.getElem?_eq_none (by simpa using hj)]
    rcases l6 with ⟨_, h1, l6⟩ | ⟨n', h1, h2, l6⟩
    · rw [hL] at h1; cases h1
    · rw [hL] at h1
      cases h1
      have hnl : ns.length = n := by simpa using hcl
      refine Out.pure (v' := .string (strOfNums ns)) ?_ VR.mk_string R.hr
      have hl' : (loadCells ⟨lam x, 0, none⟩ n).run P w = .ok (ns.map (Value.int .u8)).toArray w := by
        have := run_loadCells_list (P := P) w ⟨lam x, 0, none⟩ (ns.map (Value.int .u8)) (fun j v' hj => by
          rw [Addr.add_lit, Nat.zero_add, cell_of_row l4, ← Array.getElem?_toList, hcur]; exact hj)
        simpa [hnl] using this
      have he2 : a.eval (.tmp x) = .slice (some ⟨lam x, 0, none⟩) n n := l6
      have hrun : (convert t t' (.slice (some ⟨lam x, 0, none⟩) n n)).run P w = .ok (.string (strOfNums ns)) w := by
        rw [run_convert_bytes_string w t t' e _ n n ht he ht', run_bytesToString w _ n n ns hl', foldl_push_bytes]
        simp [strOfNums, ByteArray.empty, ByteArray.emptyWithCapacity]
        rfl
      simp [execOp, ho, he2, hrun]
  · cases hr

theorem toArray2 {α : Type} {xs : Array α} {x y : α} (h : xs.toList = [x, y]) : xs = #[x, y] := by apply Array.ext'; simpa using h
theorem toArray1 {α : Type} {xs : Array α} {x : α} (h : xs.toList = [x]) : xs = #[x] := by apply Array.ext'; simpa using h

/-- Every operation that gives a value. -/
theorem value_ok {i : MI} (R : Rel N D E L μ0 h0 w0 lam μ s a w) (hc : compIns P D E L o = some i) (hr : i.run s = some (v, h')) : Out P μ s.h w o a v h' := by
  have RT := R.rt
  have H := R.hr
  unfold compIns at hc
  split at hc
  · rename_i x ho
    simp only [Option.map_eq_some_iff] at hc
    obtain ⟨y, hy, rfl⟩ := hc
    exact ok_move RT H (.inl ho) hy hr
  · rename_i x ho
    simp only [Option.map_eq_some_iff] at hc
    obtain ⟨y, hy, rfl⟩ := hc
    exact ok_move RT H (.inr ho) hy hr
  · rename_i c x y ho
    split at hc
    · rename_i h1 h2 h3
      cases hc
      exact ok_pick RT H ho h1 h2 h3 hr
    · cases hc
  · -- binOp
    rename_i op t x y t' ho
    split at hc
    · rename_i h1 h2 h3; cases hc; exact ok_bin RT H ho h1 h2 hr
    · rename_i h1 h2 h3; cases hc; exact ok_bin RT H ho h1 h2 hr
    · rename_i h1 h2 h3; cases hc; exact ok_binB RT H ho h3 h1 h2 hr
    · rename_i fs h1 h2 h3
      split at hc
      · rename_i h4 h5; cases hc; exact ok_eqS (neg := false) RT H ho h1 h2 h3 h4 h5 hr
      · rename_i h4 h5; cases hc; exact ok_eqS (neg := true) RT H ho h1 h2 h3 h4 h5 hr
      · cases hc
    · cases hc
  · rename_i op t x ho
    simp only [Option.map_eq_some_iff] at hc
    obtain ⟨y, hy, rfl⟩ := hc
    exact ok_un RT H ho hy hr
  · -- convert
    rename_i t t' x ho
    split at hc
    · rename_i h1 h2 h3; cases hc; exact ok_conv RT H ho h2 h3 h1 hr
    · rename_i y e h1 h2 h3
      split at hc
      · rename_i h4
        split at hc
        · rename_i q
          have hx : x = .tmp q := by
            cases x <;> simp [opd] at h1
            · exact congrArg _ h1
          subst hx
          split at hc
          · rename_i n hL; cases hc; exact ok_strL R ho h2 h4 h3 hL hr
          · cases hc; exact ok_str RT H ho h2 h4 h3 (by simp [opd]) hr
        · cases hc
      · cases hc
    · cases hc
  · -- load
    rename_i t x ho
    split at hc
    · rename_i n agg q h1
      split at hc
      · rename_i hD
        cases hc
        simp only [MI.run] at hr
        split at hr
        · rename_i cs hl
          split at hr
          · rename_i hn
            simp only [Option.map_eq_some_iff, Prod.mk.injEq] at hr
            obtain ⟨u, hu, rfl, rfl⟩ := hr
            obtain ⟨_, _, _, _, l6⟩ := R.loc q cs hl
            rcases l6 with ⟨_, _, l6⟩ | ⟨n', h, h', l6⟩
            · exact ok_ldLoc R ho l6 h1 hl (by omega) (by simpa using hu)
            · rw [hD] at h'; cases h'
          · cases hr
        · cases hr
      · split at hc
        · rename_i d hE
          cases hc
          simp only [MI.run] at hr
          split at hr
          · rename_i d' off cs hal hl
            split at hr
            · rename_i hn
              obtain ⟨rfl, hn⟩ := hn
              simp only [Option.map_eq_some_iff, Prod.mk.injEq] at hr
              obtain ⟨u, hu, rfl, rfl⟩ := hr
              obtain ⟨_, _, _, _, p5⟩ := R.al q d' off hal (by rw [hl]; rfl)
              exact ok_ldLoc R ho p5 h1 hl hn hu
            · cases hr
          · cases hr
        · cases hc
          exact ok_ld RT H ho (by simp [opd]) h1 hr
    · cases hc
  · -- store
    rename_i t x vo ho
    split at hc
    · split at hc
      · split at hc
        · cases hc; simp [MI.run] at hr
        · split at hc <;> (cases hc; simp [MI.run] at hr)
      · cases hc
    · cases hc
  · -- fieldAddr
    rename_i t x f ho
    split at hc
    · rename_i off n agg q h1
      split at hc
      · cases hc; simp [MI.run] at hr
      · split at hc
        · cases hc; simp [MI.run] at hr
        · cases hc; exact ok_fa RT H ho (by simp [opd]) h1 hr
    · cases hc
  · rename_i t x f ho
    split at hc
    · rename_i h1 h2; cases hc; exact ok_fl RT H ho h2 h1 hr
    · cases hc
  · rename_i t x j ho
    split at hc
    · rename_i h1 h2 h3; cases hc; exact ok_ia RT H ho h2 h3 h1 hr
    · cases hc
  · rename_i t x j ho
    split at hc
    · rename_i h1 h2 h3; cases hc; exact ok_ix RT H ho h2 h3 (isStr_spec h1) hr
    · cases hc
  · rename_i t x lo hi ho
    split at hc
    · rename_i h1 h2 h3 h4; cases hc; exact ok_slS RT H ho h2 h3 h4 (isStr_spec h1) hr
    · rename_i h0 h1 h2 h3 h4; cases hc; exact ok_slL RT H ho h2 h3 h4 h1 hr
    · cases hc
  · -- buildSlice
    rename_i t n parts ho
    split at hc
    · rename_i e sz b z xs h1 h2
      split at hc
      · rename_i hn
        split at hc
        · split at hc
          · split at hc
            · cases hc; simp [MI.run] at hr
            · cases hc
          · cases hc; exact ok_lit RT H ho h1 h2 hn hr
        · cases hc
      · cases hc
    · cases hc
  · -- build
    rename_i t parts ho
    split at hc
    · rename_i h1 h2 h3
      split at hc
      · rename_i h4; cases hc; exact ok_bld RT H ho h1 h2 h3 h4 hr
      · cases hc
    · cases hc
  · -- makeSlice
    rename_i t n c ho
    split at hc
    · rename_i h1
      split at hc
      · rename_i e; subst e; cases hc; exact ok_mk RT H ho (by simp [opd]) h1 hr
      · cases hc
    · rename_i h1
      split at hc
      · rename_i e; subst e; cases hc; exact ok_mk RT H ho (by simp [opd, constOk]) h1 hr
      · cases hc
    · cases hc
  · -- alloc
    rename_i t ho
    split at hc
    · rename_i h1 h2 h3
      split at hc
      · rename_i h4
        split at hc
        · cases hc; simp [MI.run] at hr
        · cases hc; exact ok_nw H ho h1 h2 h4.1 h4.2 hr
      · cases hc
    · cases hc
  · -- box
    rename_i t x ho
    split at hc
    · rename_i h1 h2 h3
      split at hc
      · rename_i h4
        split at hc
        · cases hc; simp [MI.run] at hr
        · cases hc; exact ok_bx RT H ho h2 h1 h4 hr
      · cases hc
    · cases hc
  · rename_i x j ho
    simp only [Option.map_eq_some_iff] at hc
    obtain ⟨y, hy, rfl⟩ := hc
    exact ok_ext RT H ho hy hr
  · rename_i x ho
    simp only [Option.map_eq_some_iff] at hc
    obtain ⟨y, hy, rfl⟩ := hc
    exact ok_chk RT H ho hy hr
  · rename_i f first caps ho
    split at hc
    · rename_i h0
      simp only [Option.map_eq_some_iff] at hc
      obtain ⟨y, hy, rfl⟩ := hc
      exact ok_fn RT H ho h0 hy hr
    · cases hc
  · rename_i f args ts ho
    simp only [Option.map_eq_some_iff] at hc
    obtain ⟨y, hy, rfl⟩ := hc
    simp [MI.run] at hr
  · rename_i f args ts ho
    simp only [Option.map_eq_some_iff] at hc
    obtain ⟨y, hy, rfl⟩ := hc
    simp [MI.run] at hr
  · -- len
    rename_i args ts ho
    split at hc
    · rename_i x t h1 h2
      rw [toArray1 h1, toArray1 h2] at ho
      split at hc
      · rename_i h3
        simp only [Option.map_eq_some_iff] at hc
        obtain ⟨y, hy, rfl⟩ := hc
        exact ok_lenS RT H ho hy (isStr_spec h3) hr
      · split at hc
        · rename_i h3
          simp only [Option.map_eq_some_iff] at hc
          obtain ⟨y, hy, rfl⟩ := hc
          obtain ⟨e, he⟩ := isSlice_spec h3
          exact ok_len RT H ho hy he hr
        · cases hc
    · cases hc
  · -- append
    rename_i args ts ho
    split at hc
    · rename_i d x t u h1 h2
      rw [toArray2 h1, toArray2 h2] at ho
      split at hc
      · rename_i e sz b z sd q h3 h4 h5
        split at hc
        · rename_i hu
          subst hu
          have hx : x = .tmp q := by
            cases x <;> simp [opd] at h5
            · exact congrArg _ h5
          subst hx
          split at hc
          · rename_i n hL; cases hc; exact ok_appL R ho h4 hL h3 hr
          · cases hc; exact ok_app RT H ho h4 h5 h3 hr
        · cases hc
      · rename_i h3 h4 h5
        split at hc
        · rename_i hu; subst hu; cases hc; exact ok_app RT H ho h4 h5 h3 hr
        · cases hc
      · cases hc
    · cases hc
  · rename_i args ts ho
    split at hc
    · rename_i x y h1
      rw [toArray2 h1] at ho
      split at hc
      · rename_i h2 h3; cases hc; exact ok_mm (isMax := true) RT H ho h2 h3 hr
      · cases hc
    · cases hc
  · rename_i args ts ho
    split at hc
    · rename_i x y h1
      rw [toArray2 h1] at ho
      split at hc
      · rename_i h2 h3; cases hc; exact ok_mm (isMax := false) RT H ho h2 h3 hr
      · cases hc
    · cases hc
  · cases hc

end
end Go.Proofs.Ytlndlccbecnjoaa.Ab
