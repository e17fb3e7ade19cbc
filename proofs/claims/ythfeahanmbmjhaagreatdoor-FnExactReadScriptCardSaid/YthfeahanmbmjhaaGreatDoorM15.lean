/- Joined: K145, H13, LFnExactReadScript. No conditions. -/
import Derived.Test.YthfeahanmbmjhaaGreatDoorM14
import Derived.Test.YthfeahanmbmjhaaGreatDoorM12
import Derived.Test.YthfeahanmbmjhaaGreatDoorM10
set_option linter.unusedSimpArgs false
set_option linter.unusedVariables false
set_option linter.unnecessarySimpa false
set_option maxHeartbeats 4000000
namespace Go.Proofs.YthfeahanmbmjhaaGreatDoor.Ab
open Go.RowKit
section
variable {X : CallF} {h : Heap} {s : ByteArray}
theorem k_spec_ReadScript (hs : s.size ≤ 1048576) : ∃ w hh, C T X n_spec_ReadScript [.string s] h = some (w, hh) ∧ ScrR h (scrT s) w hh := by
  refine C_ex t_spec_ReadScript rfl ?_
  unfold F_spec_ReadScript
  obtain ⟨h0, e0⟩ : ∃ h0 : Heap, h0 = h ++ [⟨[], 6, y_Deed, true⟩] := ⟨_, rfl⟩
  have p0 : h <+: h0 := by rw [e0]; exact List.prefix_append _ _
  obtain ⟨nv, hnv⟩ : ∃ nv : Value, nv = .slice (some ⟨h.length, 0, none⟩) 0 0 := ⟨_, rfl⟩
  have o0 : Own h0 h.length h0.length 6 y_Deed nv [] := by
    rw [e0, hnv]; exact Acc.new.own
  have non : ∀ {g : Heap}, h0 <+: g → OwnD g h.length g.length y_Deed nv [] := fun {g} p => OwnD.zero ((o0.up p).wide (Nat.le_refl _) (pre_len p))
  by_cases a1 : 6000 < s.size
  · have a1' : (s.size : Int) > 6000 := by omega
    simp only [a1', zeros, fillAt, ← e0, ← hnv, go_sem]
    exact ⟨o0.live, scrR_fin p0 (by unfold scrT; rw [if_pos (.inl a1)]) (non (List.prefix_refl _))⟩
  have a1' : ¬ (s.size : Int) > 6000 := by omega
  obtain ⟨v1, h1, c1, p1, r1⟩ := k_spec_l16Lines (X := X) (h := h0) hs
  obtain ⟨L, hL⟩ : ∃ L, L = linesL s := ⟨_, rfl⟩
  rw [← hL] at r1
  have ln1 : lnV h1 v1 = some (.int .i64 (L.length : Nat)) := r1.lnm
  by_cases a2 : 60 < L.length
  · have a2' : (L.length : Int) > 60 := by omega
    simp only [a1', zeros, fillAt, ← e0, ← hnv, c1, ln1, a2', go_sem]
    exact ⟨o0.live, scrR_fin (p0.trans p1) (by unfold scrT; rw [if_pos (.inr (by rw [← hL]; exact a2))]) (non p1)⟩
  have a2' : ¬ (L.length : Int) > 60 := by omega
  have hT : scrGo (L.drop 0) 0 (0, []) = scrT s := by unfold scrT; rw [if_neg (by rw [← hL]; omega), ← hL]; rfl
  obtain ⟨v2, h2, c2, p2, r2⟩ := k_spec_l16Lines (X := X) (h := h1) hs
  rw [← hL] at r2
  obtain ⟨h3, e3⟩ : ∃ h3 : Heap, h3 = h2 ++ [⟨[], 6, y_Deed, true⟩] := ⟨_, rfl⟩
  have p3 : h2 <+: h3 := by rw [e3]; exact List.prefix_append _ _
  obtain ⟨ov, hov⟩ : ∃ ov : Value, ov = .slice (some ⟨h2.length, 0, none⟩) 0 0 := ⟨_, rfl⟩
  have o3 : OwnD h3 h2.length h3.length y_Deed ov [] := OwnD.zero (by rw [e3, hov]; exact Acc.new.own)
  have pA : h0 <+: h2 := p1.trans p2
  simp only [a1', zeros, fillAt, ← e0, ← hnv, c1, c2, ln1, a2', ← e3, ← hov, go_sem]
  clear c1 c2 ln1 r1 e3 hov hnv e0
  refine w_for L.length (fun i t loc h' => h2 <+: h' ∧ t 5 = nv ∧ t 6 = v2 ∧ t 9 = .int .i64 (i : Nat) ∧ ∃ (sec : Int) (vd : Value) (ds : List Dd), t 7 = .int .i64 sec ∧ t 8 = vd ∧ ds.length ≤ 40 ∧ OwnD h' h2.length h'.length y_Deed vd ds ∧ scrGo (L.drop i) i (sec, ds) = scrT s) ?_ ?_
  · exact ⟨p3, rfl, rfl, rfl, 0, _, [], rfl, rfl, by simp, o3, hT⟩
  clear o3 p3 h3
  rintro i t loc g2 hi ⟨u2, t5, t6, t9, sec, vd, ds, t7, t8, hds, o, hgo⟩
  have ln2 : lnV g2 v2 = some (.int .i64 (L.length : Nat)) := (r2.up u2).lnm
  simp only [t6, t9, ln2, go_sem]
  refine w_open (by simp only [go_sem]; rfl) ?_ ?_ <;> intro hc
  · have hi1 : i < L.length := by omega
    have hw : IntKind.i64.wrap ((i : Int) + 1) = ((i + 1 : Nat) : Int) := w64 (by omega) (by omega)
    have hwf : IntKind.i64.wrap ((i : Int) + 1) = ((i + 1 : Nat) : Int) := hw
    have el := tx_n (n := (i : Int)) (i := i) rfl (r2.up u2) hi1
    obtain ⟨x, hx⟩ : ∃ x, x = L.getD i noT := ⟨_, rfl⟩
    have hxs : x.size ≤ s.size := by
      have : x ∈ linesL s := by rw [hx, ← hL]; exact getD_mem hi1
      exact line_size this
    rw [← hx] at el
    obtain ⟨w, g3, c3, v3, b3, rfl, u3, hb3, ho3⟩ := k_spec_PartsOf (X := X) (h := g2) (s := x) (by omega)
    have n3 : h0 <+: g3 := pA.trans (u2.trans u3)
    have q3 : h <+: g3 := p0.trans n3
    cases b3 with
    | false =>
      have hno : ¬ LineOk x := fun k => by have := hb3.2 k; cases this
      have hr : scrT s = (0, [], ((i + 1 : Nat) : Int)) := by rw [← hgo]; exact scrGo_none hi1 (by rw [← hx]; exact step_bad hno)
      simp only [t5, t6, t7, t8, t9, el.1, el.2, c3, hwf, go_sem]
      exact ⟨o0.live, scrR_fin q3 hr (non n3)⟩
    | true =>
      have hok := hb3.1 rfl
      have r3 := ho3 hok
      obtain ⟨ws, hws⟩ : ∃ ws, ws = wordsL x := ⟨_, rfl⟩
      rw [← hws] at r3
      have hwl : ws.length ≤ 8 := by rw [hws]; exact hok.2.2
      have hwz : ∀ y ∈ ws, 0 < y.size ∧ y.size ≤ 1000 := fun y hy => by
        rw [hws] at hy
        have := wrd_size hy
        have := hok.1
        omega
      have ln3 : lnV g3 v3 = some (.int .i64 (ws.length : Nat)) := r3.lnm
      have o3 := o.up u3
      have skip : (wordsL x = [] ∨ byt ((wordsL x).getD 0 noT) 0 = 35) → scrGo (L.drop (i + 1)) (i + 1) (sec, ds) = scrT s := fun k => by
        rw [← scrGo_some hi1 (by rw [← hx]; exact step_skip hok k), hgo]
      by_cases e0 : ws.length = 0
      · have e0' : ((ws.length : Nat) : Int) = 0 := by omega
        simp only [t5, t6, t7, t8, t9, el.1, el.2, c3, ln3, e0', hw, go_sem]
        exact ⟨hi1, u2.trans u3, sec, vd, ds, rfl, rfl, hds, o3.wide (Nat.le_refl _) (pre_len u3), skip (.inl (by rw [← hws]; exact List.length_eq_zero_iff.1 e0))⟩
      have e0' : ¬ ((ws.length : Nat) : Int) = 0 := by omega
      have el0 := tx_n (n := 0) (i := 0) rfl r3 (by omega)
      obtain ⟨w0, hw0⟩ : ∃ w, w = ws.getD 0 noT := ⟨_, rfl⟩
      rw [← hw0] at el0
      have hw0z := hwz w0 (by rw [hw0]; exact getD_mem (by omega))
      have ix : ixV (.string w0) (.int .i64 0) = some (.int .u8 (byt w0 0 : Nat)) := ix_byt (s := w0) (i := 0) hw0z.1
      by_cases e1 : byt w0 0 = 35
      · have e1' : (byt w0 0 : Int) = 35 := by omega
        simp only [t5, t6, t7, t8, t9, el.1, el.2, c3, ln3, e0', el0.1, el0.2, ix, e1', hw, go_sem]
        exact ⟨hi1, u2.trans u3, sec, vd, ds, rfl, rfl, hds, o3.wide (Nat.le_refl _) (pre_len u3), skip (.inr (by rw [← hws, ← hw0]; exact e1))⟩
      have e1' : ¬ (byt w0 0 : Int) = 35 := by omega
      have hk : ¬ (wordsL x = [] ∨ byt ((wordsL x).getD 0 noT) 0 = 35) := by
        rw [← hws, ← hw0]
        rintro (k | k)
        · exact e0 (by rw [k]; rfl)
        · exact e1 k
      by_cases e2 : sec = 0
      · have bad : ¬ HallIs ws → scrT s = (0, [], ((i + 1 : Nat) : Int)) := fun k => by rw [← hgo]; exact scrGo_none hi1 (by rw [← hx]; exact step_hall_no hok hk e2 (by rw [← hws]; exact k))
        by_cases f2 : ws.length = 2
        rotate_left
        · have f2' : ¬ ((ws.length : Nat) : Int) = 2 := by omega
          obtain ⟨w, g4, cf, y1, y2, y3, y4, y5, rfl, u4⟩ := k_spec_FormatStore (X := X) (h := g3) (n := 0)
          have hz : decide ((4 : Int) ≤ 0 ∧ (0 : Int) ≤ 400) = false := by decide
          rw [hz] at cf
          simp only [t5, t6, t7, t8, t9, el.1, el.2, c3, ln3, e0', el0.1, el0.2, ix, e1', e2, f2', cf, hwf, go_sem]
          exact ⟨o0.live, scrR_fin (q3.trans u4) (bad fun k => f2 k.1) (non (n3.trans u4))⟩
        have f2' : ((ws.length : Nat) : Int) = 2 := by omega
        have f2o : ¬ (2 : Int) = 0 := by omega
        by_cases f3 : w0 = kHall
        rotate_left
        · obtain ⟨w, g4, cf, y1, y2, y3, y4, y5, rfl, u4⟩ := k_spec_FormatStore (X := X) (h := g3) (n := 0)
          have hz : decide ((4 : Int) ≤ 0 ∧ (0 : Int) ≤ 400) = false := by decide
          rw [hz] at cf
          simp only [t5, t6, t7, t8, t9, el.1, el.2, c3, ln3, f2o, el0.1, el0.2, ix, e1', e2, f2', str_eq, f3, cf, hwf, go_sem]
          exact ⟨o0.live, scrR_fin (q3.trans u4) (bad fun k => f3 (by rw [hw0]; exact k.2.1)) (non (n3.trans u4))⟩
        have el1 := tx_n (n := 1) (i := 1) rfl r3 (by omega)
        have cr := k_spec_ReadDecimal (X := X) (h := g3) (s := ws.getD 1 noT)
        obtain ⟨n, hn⟩ : ∃ n, n = dcI (ws.getD 1 noT) := ⟨_, rfl⟩
        have hn' : (dcN (ws.getD 1 noT) : Int) = n := by rw [hn]; rfl
        rw [hn'] at cr
        obtain ⟨w, g4, cf, y1, y2, y3, y4, y5, rfl, u4⟩ := k_spec_FormatStore (X := X) (h := g3) (n := n)
        have hkk : HallIs ws ↔ dcB (ws.getD 1 noT) = true ∧ (4 ≤ n ∧ n ≤ 400) := by rw [hn]; exact ⟨fun k => ⟨k.2.2.1, k.2.2.2⟩, fun k => ⟨f2, by rw [← hw0]; exact f3, k.1, k.2⟩⟩
        have ix' : ixV (.string kHall) (.int .i64 0) = some (.int .u8 (byt kHall 0 : Nat)) := by rw [← f3]; exact ix
        have e1k : ¬ (byt kHall 0 : Int) = 35 := by rw [← f3]; exact e1'
        cases hb : dcB (ws.getD 1 noT) with
        | false =>
          rw [hb] at cr hkk
          simp only [t5, t6, t7, t8, t9, el.1, el.2, c3, ln3, f2o, el0.1, el0.2, el1.1, el1.2, ix', e1k, e2, f2', str_eq, f3, cr, cf, hwf, decide_true, go_sem]
          exact ⟨o0.live, scrR_fin (q3.trans u4) (bad fun k => by have := (hkk.1 k).1; cases this) (non (n3.trans u4))⟩
        | true =>
          rw [hb] at cr hkk
          by_cases f4 : 4 ≤ n ∧ n ≤ 400
          · have hz : decide (4 ≤ n ∧ n ≤ 400) = true := decide_eq_true f4
            rw [hz] at cf
            have o4 := o3.up u4
            simp only [t5, t6, t7, t8, t9, el.1, el.2, c3, ln3, f2o, el0.1, el0.2, el1.1, el1.2, ix', e1k, e2, f2', str_eq, f3, cr, cf, hw, decide_true, go_sem]
            refine ⟨hi1, u2.trans (u3.trans u4), n, vd, ds, rfl, rfl, hds, o4.wide (Nat.le_refl _) (by have := pre_len u3; have := pre_len u4; omega), ?_⟩
            rw [← hgo, scrGo_some hi1 (by rw [← hx]; exact step_hall hok hk e2 (by rw [← hws]; exact hkk.2 ⟨rfl, f4⟩)), ← hws, hn]
          · have hz : decide (4 ≤ n ∧ n ≤ 400) = false := decide_eq_false f4
            rw [hz] at cf
            simp only [t5, t6, t7, t8, t9, el.1, el.2, c3, ln3, f2o, el0.1, el0.2, el1.1, el1.2, ix', e1k, e2, f2', str_eq, f3, cr, cf, hwf, decide_true, go_sem]
            exact ⟨o0.live, scrR_fin (q3.trans u4) (bad fun k => f4 (hkk.1 k).2) (non (n3.trans u4))⟩
      obtain ⟨w, g4, c4, d, kv, b4, rfl, u4, hb4, ho4⟩ := k_spec_l16Deed (X := X) r3 (by omega) (by omega) hwz
      unfold ddRow at c4
      cases hD : deedT ws with
      | none =>
        have hb : b4 = false := by
          cases b4 with
          | false => rfl
          | true => have := hb4.1 rfl; rw [hD] at this; cases this
        rw [hb] at c4
        have hr : scrT s = (0, [], ((i + 1 : Nat) : Int)) := by rw [← hgo]; exact scrGo_none hi1 (by rw [← hx]; exact step_deed_no hok hk e2 (by rw [← hws]; exact hD))
        simp only [t5, t6, t7, t8, t9, el.1, el.2, c3, ln3, e0', el0.1, el0.2, ix, e1', e2, c4, hwf, go_sem]
        exact ⟨o0.live, scrR_fin (q3.trans u4) hr (non (n3.trans u4))⟩
      | some D =>
        have hb : b4 = true := hb4.2 (by rw [hD]; rfl)
        obtain ⟨rfl, ok⟩ := ho4 D hD
        rw [hb] at c4
        have o4 := o3.up u4
        have lnd : lnV g4 vd = some (.int .i64 (ds.length : Nat)) := o4.rows.ln
        have cd := o4.cells
        by_cases e4 : 40 ≤ ds.length
        · have e4' : (ds.length : Int) = 40 := by omega
          have hr : scrT s = (0, [], ((i + 1 : Nat) : Int)) := by rw [← hgo]; exact scrGo_none hi1 (by rw [← hx]; exact step_deed_many hok hk e2 (by rw [← hws]; exact hD) e4)
          simp only [t5, t6, t7, t8, t9, el.1, el.2, c3, ln3, e0', el0.1, el0.2, ix, e1', e2, c4, lnd, e4', hwf, go_sem]
          exact ⟨o0.live, scrR_fin (q3.trans u4) hr (non (n3.trans u4))⟩
        · have e4' : ¬ (ds.length : Int) = 40 := by omega
          have l2 := pre_len u2
          have l3 := pre_len u3
          have l4 := pre_len u4
          obtain ⟨v5, g5, c5, gl5, b5, o5⟩ := o4.push (by omega) (by omega) ok (by omega) (by omega) (Nat.le_refl _) (by unfold lim; omega)
          unfold ddRow at c5
          simp only [t5, t6, t7, t8, t9, el.1, el.2, c3, ln3, e0', el0.1, el0.2, ix, e1', e2, c4, lnd, e4', c5, hw, go_sem]
          refine ⟨hi1, pre_of_get (by omega) (fun b hb => by rw [b5 b hb]; exact get_of_pre (u2.trans (u3.trans u4)) hb), sec, v5, ds ++ [d], rfl, rfl, by simp; omega, o5, ?_⟩
          rw [← hgo, scrGo_some hi1 (by rw [← hx]; exact step_deed hok hk e2 (by rw [← hws]; exact hD) e4)]
  · have hin : i = L.length := by omega
    rw [hin, scrGo_end] at hgo
    by_cases e2 : sec = 0
    · rw [if_pos e2] at hgo
      simp only [t5, t7, t8, e2, go_sem]
      exact ⟨o0.live, scrR_fin (p0.trans (pA.trans u2)) hgo.symm (non (pA.trans u2))⟩
    · rw [if_neg e2] at hgo
      simp only [t7, t8, e2, o.cells.2, go_sem]
      exact scrR_fin (p0.trans (pA.trans u2)) hgo.symm (o.wide (pre_len (p0.trans pA)) (Nat.le_refl _))
end
end Go.Proofs.YthfeahanmbmjhaaGreatDoor.Ab
set_option linter.unusedSimpArgs false
set_option linter.unusedVariables false
set_option linter.unnecessarySimpa false
set_option maxHeartbeats 4000000
namespace Go.Proofs.YthfeahanmbmjhaaGreatDoor.Ab
open Go.RowKit
/-- Marks in deeds. -/
def mkDd (a : Nat) (d : Dd) : Dd := ⟨mkT a, decide ((((a + 1) % 3 : Nat) : Int) = 0), ((a + 2 : Nat) : Int), (List.range d.k.length).map fun j => ((a + 3 + j : Nat) : Int), ((a + 3 + d.k.length * 1 : Nat) : Int), ((a + 4 + d.k.length : Nat) : Int)⟩
def mkDs (k : Nat) : List Dd → List Dd
  | [] => []
  | d :: ds => mkDd k d :: mkDs (k + (d.k.length + 5)) ds
def totD : List Dd → Nat
  | [] => 0
  | d :: ds => d.k.length + 5 + totD ds
theorem mkDs_len : ∀ {k : Nat} {gs : List Dd}, (mkDs k gs).length = gs.length
  | _, [] => rfl
  | k, g :: gs => by simp [mkDs, mkDs_len (gs := gs)]
theorem totD_take : ∀ {gs : List Dd} {i : Nat}, i < gs.length → totD (gs.take (i + 1)) = totD (gs.take i) + (gs.getD i dd0).k.length + 5
  | [], _, h => by simp at h
  | g :: gs, 0, _ => by simp [totD]
  | g :: gs, i + 1, h => by
    have := totD_take (gs := gs) (i := i) (by simpa using h)
    simp only [List.take_succ_cons, totD, List.getD_cons_succ]
    omega
theorem totD_le : ∀ {gs : List Dd} {i : Nat}, totD (gs.take i) ≤ totD gs
  | [], i => by simp [totD]
  | g :: gs, 0 => Nat.zero_le _
  | g :: gs, i + 1 => by
    have := totD_le (gs := gs) (i := i)
    simp only [List.take_succ_cons, totD]
    omega
theorem mkDs_get : ∀ {gs : List Dd} {k i : Nat}, i < gs.length → (mkDs k gs).getD i dd0 = mkDd (k + totD (gs.take i)) (gs.getD i dd0)
  | [], _, _, h => by simp at h
  | g :: gs, k, 0, _ => by simp [mkDs, totD]
  | g :: gs, k, i + 1, h => by
    have := mkDs_get (gs := gs) (k := k + (g.k.length + 5)) (i := i) (by simpa using h)
    simp only [mkDs, List.getD_cons_succ, this, List.take_succ_cons, totD]
    rw [Nat.add_assoc k]
/-- The first are of one list, the others of another. -/
def mxD (M gs : List Dd) (i : Nat) : List Dd := M.take i ++ gs.drop i
section
variable {M gs : List Dd} {i j : Nat}
theorem mxD_len (h : M.length = gs.length) (hi : i ≤ gs.length) : (mxD M gs i).length = gs.length := by simp [mxD]; omega
theorem mxD_lt (h : M.length = gs.length) (hj : j < i) (hi : i ≤ gs.length) : (mxD M gs i).getD j dd0 = M.getD j dd0 := by
  unfold mxD
  rw [List.getD_eq_getElem?_getD, List.getElem?_append_left (by simp; omega), List.getElem?_take, if_pos hj, ← List.getD_eq_getElem?_getD]
theorem mxD_ge (h : M.length = gs.length) (hj : i ≤ j) (hi : i ≤ gs.length) : (mxD M gs i).getD j dd0 = gs.getD j dd0 := by
  unfold mxD
  have e : (M.take i).length = i := by simp; omega
  rw [List.getD_eq_getElem?_getD, List.getElem?_append_right (by omega), e, List.getElem?_drop, show i + (j - i) = j by omega, ← List.getD_eq_getElem?_getD]
theorem mxD_end (h : M.length = gs.length) : mxD M gs gs.length = M := by
  unfold mxD
  rw [List.drop_length, List.append_nil, ← h, List.take_length]
theorem ddRows_set {vs : List Value} {xs bs : List Dd} (hl : xs.length = bs.length) (hi : i < xs.length) (hz : ∀ j, j < xs.length → j ≠ i → xs.getD j dd0 = bs.getD j dd0) {r : List Value} (hr : r = ddRow (bs.getD i dd0) (vs.getD i nilV)) : (ddRows vs xs).set i r = ddRows vs bs := by
  apply List.ext_getElem?
  intro j
  by_cases hj : j < xs.length
  · have h2 : j < bs.length := by omega
    by_cases hji : j = i
    · subst hji
      rw [List.getElem?_set_self (by simpa using hj), hr]
      simp [ddRowAt, h2]
    · rw [List.getElem?_set_ne (Ne.symm hji)]
      have := hz j hj hji
      unfold ddRows
      rw [List.getElem?_map, List.getElem?_map, List.getElem?_range hj, List.getElem?_range h2]
      simp only [Option.map_some, ddRowAt]
      rw [this]
  · rw [List.getElem?_eq_none (by simp; omega), List.getElem?_eq_none (by simp; omega)]
end
theorem mkI_ints {k n : Nat} : mkRows mkInt k 1 n = ints ((List.range n).map fun j => ((k + j : Nat) : Int)) := by simp [mkRows, mkInt, ints]
section
variable {X : CallF} {h : Heap} {v w : Value} {gs : List Dd}
theorem k_eqDeed {d : Dd} {x y : Value} (ha : Rows h 1 x (ints d.k)) (hb : Rows h 1 y (ints d.k)) (hl : d.k.length ≤ lim) : C T X n_laws_eqDeed [.agg ⟨ddRow d x⟩, .agg ⟨ddRow d y⟩] h = some (.bool true, h) := by
  refine C_go t_laws_eqDeed rfl ?_
  unfold F_laws_eqDeed ddRow
  have c := k_eqIntS (X := X) ha hb hl
  simp only [str_eq, c, decide_true, List.prefix_refl, go_sem]
theorem k_eqDeedS (ha : RowsD h v gs) (hb : RowsD h w gs) (hl : gs.length ≤ 1000) (hm : ∀ d ∈ gs, d.k.length ≤ 1000) : C T X n_laws_eqDeedS [v, w] h = some (.bool true, h) := by
  refine C_go t_laws_eqDeedS rfl ?_
  unfold F_laws_eqDeedS
  simp only [ha.ln, hb.ln, go_sem]
  refine w_for gs.length (fun i t loc h' => h' = h ∧ t 0 = v ∧ t 1 = w ∧ t 5 = .int .i64 i) ⟨rfl, rfl, rfl, rfl⟩ ?_
  rintro i t loc h' hi ⟨rfl, t0, t1, t5⟩
  simp only [t0, t5, ha.ln, go_sem]
  refine w_open (by simp only [go_sem]; rfl) ?_ ?_ <;> intro hc
  · have hi1 : i < gs.length := by omega
    have hw : IntKind.i64.wrap ((i : Int) + 1) = ((i + 1 : Nat) : Int) := w64 (by omega) (by omega)
    obtain ⟨x, e1, e2, e3, e4, e6⟩ := ha.el hi1
    obtain ⟨y, f1, f2, f3, f4, f6⟩ := hb.el hi1
    obtain ⟨d, hd⟩ : ∃ d, d = gs.getD i dd0 := ⟨_, rfl⟩
    rw [← hd] at e3 e6 f3 f6
    have hc' := k_eqDeed (X := X) (d := d) e6 f6 (by have := hm d (by rw [hd]; exact getD_mem hi1); unfold lim; omega)
    unfold ddRow at hc' e3 f3
    simp only [t0, t1, t5, e1, e3, f1, f3, hc', hw, List.prefix_refl, go_sem]
    exact hi1
  · simp only [go_sem]
end
section
variable {X : CallF} {h : Heap} {v : Value} {gs : List Dd}
theorem k_markDeedS {lo hi : Nat} (o : OwnD h lo hi y_Deed v gs) (hl : gs.length ≤ 1000) (hm : ∀ g ∈ gs, g.k.length ≤ 1000) {k : Nat} (hk : k ≤ 1000) (ht : totD gs ≤ 1000000000) :
    ∃ h', C T X n_laws_markDeedS [v, .int .i64 (k : Int)] h = some (.int .i64 ((k + totD gs : Nat) : Int), h') ∧ Same lo hi h h' ∧ OwnD h' lo hi y_Deed v (mkDs k gs) := by
  obtain ⟨vs, hvl, o⟩ := o.norm
  obtain ⟨M, hM⟩ : ∃ M, M = mkDs k gs := ⟨_, rfl⟩
  have hML : M.length = gs.length := by rw [hM, mkDs_len]
  rw [← hM]
  refine C_exH t_laws_markDeedS rfl ?_
  unfold F_laws_markDeedS
  simp only [go_sem]
  refine w_for gs.length (fun i t loc h' => t 0 = v ∧ t 1 = .int .i64 ((k + totD (gs.take i) : Nat) : Int) ∧ t 5 = .int .i64 i ∧ Same lo hi h h' ∧ OwnDs h' lo hi y_Deed v (mxD M gs i) vs)
    ⟨rfl, by simp [upd, totD], rfl, Same.refl, o⟩ ?_
  rintro i t loc h' hi' ⟨t0, t1, t5, hs, q⟩
  have hxl := mxD_len hML hi'
  have hln : lnV h' v = some (.int .i64 (gs.length : Int)) := by rw [q.out.ln]; simp [hxl]
  simp only [t0, t5, hln, go_sem]
  refine w_open (by simp only [go_sem]; rfl) ?_ ?_ <;> intro hc
  · have hi1 : i < gs.length := by omega
    have hw : IntKind.i64.wrap ((i : Int) + 1) = ((i + 1 : Nat) : Int) := w64 (by omega) (by omega)
    have htl := totD_le (gs := gs) (i := i)
    have htk := totD_take hi1
    have hgm := hm _ (getD_mem (d := dd0) hi1)
    have hix : i < (mxD M gs i).length := by omega
    have hir : i < (ddRows vs (mxD M gs i)).length := by simp; omega
    have hgi : (mxD M gs i).getD i dd0 = gs.getD i dd0 := mxD_ge hML (Nat.le_refl _) hi'
    obtain ⟨d, hd⟩ : ∃ d, d = gs.getD i dd0 := ⟨_, rfl⟩
    obtain ⟨kv, hkv⟩ : ∃ kv, kv = vs.getD i nilV := ⟨_, rfl⟩
    obtain ⟨a, ha⟩ : ∃ a, a = k + totD (gs.take i) := ⟨_, rfl⟩
    have hrow : (ddRows vs (mxD M gs i))[i] = ddRow d kv := by
      have : (ddRows vs (mxD M gs i))[i] = ddRowAt vs (mxD M gs i) i := by simp
      rw [this]
      unfold ddRowAt
      rw [hgi, ← hd, ← hkv]
    have oi := q.ins i hix
    have so := q.so i hix
    rw [hgi, ← hd, ← hkv] at oi
    rw [← hkv] at so
    rw [← hd] at htk hgm
    rw [← ha] at t1
    have q0 := q.out.tight.self hir
    rw [hrow] at q0
    unfold ddRow at q0
    have ela := q0.el (i := i) (by simpa using hir)
    obtain ⟨ha1, ea, sa, qa⟩ := q0.st2 hir (k := 0) (vs := [.string (mkT a)]) (by simp)
    simp only [putAt, List.take_zero, List.take_succ_cons, List.drop_zero, List.drop_succ_cons, List.nil_append, List.cons_append, List.length_cons, List.length_nil, Nat.zero_add, List.append_nil, List.drop_nil, Nat.reduceAdd] at qa
    have elb := qa.el (i := i) (by simpa using hir)
    obtain ⟨hb1, eb, sb, qb⟩ := qa.st2 hir (k := 1) (vs := [.bool (decide ((((a + 1) % 3 : Nat) : Int) = 0))]) (by simp)
    simp only [putAt, List.take_zero, List.take_succ_cons, List.drop_zero, List.drop_succ_cons, List.nil_append, List.cons_append, List.length_cons, List.length_nil, Nat.zero_add, List.append_nil, List.drop_nil, Nat.reduceAdd] at qb
    have elc := qb.el (i := i) (by simpa using hir)
    obtain ⟨hc1, ec, sc, qc⟩ := qb.st2 hir (k := 2) (vs := [.int .i64 ((a + 2 : Nat) : Int)]) (by simp)
    simp only [putAt, List.take_zero, List.take_succ_cons, List.drop_zero, List.drop_succ_cons, List.nil_append, List.cons_append, List.length_cons, List.length_nil, Nat.zero_add, List.append_nil, List.drop_nil, Nat.reduceAdd] at qc
    have eld := qc.el (i := i) (by simpa using hir)
    have hset : ∀ r : List Value, ((ddRows vs (mxD M gs i)).set i r)[i]'(by simpa using hir) = r := fun r => by simp
    have ex : ldC hc1 (elemP v 6 i 3) 1 = some [kv] := by
      rw [qc.rows.ld (i := i) (off := 3) (n := 1) (by simpa using hir) (by omega), hset]
      rfl
    have sabc := (sa.trans sb).trans sc
    have oic := oi.tight.apart sabc so.symm
    obtain ⟨hd1, ed, sd, od⟩ := k_markIntS (X := X) oic (by rw [ints_len]; unfold lim; omega) (k := a + 3) (by omega)
    rw [ints_len, mkI_ints] at od
    rw [ints_len] at ed
    have qd := qc.apart sd so
    have ele := qd.el (i := i) (by simpa using hir)
    obtain ⟨he1, ee, se, qe⟩ := qd.st2 hir (k := 4) (vs := [.int .i64 ((a + 3 + d.k.length * 1 : Nat) : Int)]) (by simp)
    simp only [putAt, List.take_zero, List.take_succ_cons, List.drop_zero, List.drop_succ_cons, List.nil_append, List.cons_append, List.length_cons, List.length_nil, Nat.zero_add, List.append_nil, List.drop_nil, Nat.reduceAdd] at qe
    have elf := qe.el (i := i) (by simpa using hir)
    obtain ⟨hf1, ef, sf, qf⟩ := qe.st2 hir (k := 5) (vs := [.int .i64 ((a + 4 + d.k.length : Nat) : Int)]) (by simp)
    simp only [putAt, List.take_zero, List.take_succ_cons, List.drop_zero, List.drop_succ_cons, List.nil_append, List.cons_append, List.length_cons, List.length_nil, Nat.zero_add, List.append_nil, List.drop_nil, Nat.reduceAdd] at qf
    have sef := se.trans sf
    have w1 : IntKind.i64.wrap ((a : Int) + 1) = ((a + 1 : Nat) : Int) := w64 (by omega) (by omega)
    have w2 : IntKind.i64.wrap (((a + 1 : Nat) : Int) + 1) = ((a + 2 : Nat) : Int) := by rw [w64 (by omega) (by omega)]; omega
    have w3 : IntKind.i64.wrap (((a + 2 : Nat) : Int) + 1) = ((a + 3 : Nat) : Int) := by rw [w64 (by omega) (by omega)]; omega
    have w4 : IntKind.i64.wrap (((a + 3 + d.k.length * 1 : Nat) : Int) + 1) = ((a + 4 + d.k.length : Nat) : Int) := by rw [w64 (by omega) (by omega)]; omega
    have w5 : IntKind.i64.wrap (((a + 4 + d.k.length : Nat) : Int) + 1) = ((k + totD (gs.take (i + 1)) : Nat) : Int) := by rw [w64 (by omega) (by omega), htk]; omega
    have tm : ((a + 1 : Nat) : Int).tmod 3 = (((a + 1) % 3 : Nat) : Int) := rfl
    have mt := k_markText (X := X) (h := h') (k := a) (by omega)
    simp only [t0, t1, t5, mt, ela.1, ela.2, elb.1, elb.2, elc.1, elc.2, eld.1, eld.2, ele.1, ele.2, elf.1, elf.2, ea, eb, ec, ex, ed, ee, ef, tm, w1, w2, w3, w4, w5, hw, Nat.zero_add, List.prefix_refl, go_sem]
    have hMi : M.getD i dd0 = mkDd a d := by rw [hM, mkDs_get hi1, ← ha, ← hd]
    have hni : (mxD M gs (i + 1)).getD i dd0 = M.getD i dd0 := mxD_lt hML (by omega) (by omega)
    have hnl := mxD_len hML (show i + 1 ≤ gs.length by omega)
    have hother : ∀ j, j < (mxD M gs i).length → j ≠ i → (mxD M gs i).getD j dd0 = (mxD M gs (i + 1)).getD j dd0 := fun j hj hne => by
      by_cases hlt : j < i
      · rw [mxD_lt hML hlt hi', mxD_lt hML (by omega) (by omega)]
      · rw [mxD_ge hML (by omega) hi', mxD_ge hML (by omega) (by omega)]
    have hrs := ddRows_set (vs := vs) (xs := mxD M gs i) (bs := mxD M gs (i + 1)) (i := i) (by omega) hix hother (r := [.string (mkT a), .bool (decide ((((a + 1) % 3 : Nat) : Int) = 0)), .int .i64 ((a + 2 : Nat) : Int), kv, .int .i64 ((a + 3 + d.k.length * 1 : Nat) : Int), .int .i64 ((a + 4 + d.k.length : Nat) : Int)]) (by rw [hni, hMi, ← hkv]; rfl)
    rw [hrs] at qf
    refine ⟨hi1, (((hs.trans (q.out.wider sabc)).trans (oi.wider sd)).trans (q.out.wider sef)), q.out.loose qf, fun j hj => ?_, fun j hj => q.so j (by omega), fun x y hxy hy => q.si x y hxy (by omega)⟩
    have hj' : j < (mxD M gs i).length := by omega
    by_cases hji : j = i
    · subst hji
      rw [hni, hMi, ← hkv]
      exact (oi.loose od).apart sef so.symm
    · have oj := q.ins j hj'
      rw [← hother j hj' hji]
      have hsep : Sep (vs.getD j nilV) kv := by
        rw [hkv]
        rcases Nat.lt_or_ge j i with hlt | hge
        · exact q.si j i hlt hix
        · exact (q.si i j (by omega) hj').symm
      exact ((oj.apart sabc (q.so j hj').symm).apart sd hsep).apart sef (q.so j hj').symm
  · have hil : i = gs.length := by omega
    subst hil
    rw [List.take_length] at t1
    rw [mxD_end hML] at q
    simp only [t1, finish_room hs.len, go_sem]
    exact ⟨hs, vs, q⟩
theorem k_heldDeedS {k : Nat} (ha : RowsD h v (mkDs k gs)) (hl : gs.length ≤ 1000) (hm : ∀ g ∈ gs, g.k.length ≤ 1000) (hk : k ≤ 1000) (ht : totD gs ≤ 1000000000) : C T X n_laws_heldDeedS [v, .int .i64 (k : Int)] h = some (.int .i64 ((k + totD gs : Nat) : Int), h) := by
  refine C_go t_laws_heldDeedS rfl ?_
  unfold F_laws_heldDeedS
  have hln := ha.ln
  rw [mkDs_len] at hln
  simp only [go_sem]
  refine w_for gs.length (fun i t loc h' => h' = h ∧ t 0 = v ∧ t 1 = .int .i64 ((k + totD (gs.take i) : Nat) : Int) ∧ t 5 = .int .i64 i) ⟨rfl, rfl, by simp [upd, totD], rfl⟩ ?_
  rintro i t loc h' hi ⟨rfl, t0, t1, t5⟩
  have hle := totD_le (gs := gs) (i := i)
  simp only [t0, t5, hln, go_sem]
  refine w_open (by simp only [go_sem]; rfl) ?_ ?_ <;> intro hc
  · have hi1 : i < gs.length := by omega
    have hw : IntKind.i64.wrap ((i : Int) + 1) = ((i + 1 : Nat) : Int) := w64 (by omega) (by omega)
    obtain ⟨x, e1, e2, e3, e4, e6⟩ := ha.el (i := i) (by rw [mkDs_len]; exact hi1)
    have htk := totD_take hi1
    have hgm := hm _ (getD_mem (d := dd0) hi1)
    obtain ⟨d, hd⟩ : ∃ d, d = gs.getD i dd0 := ⟨_, rfl⟩
    obtain ⟨a, ha'⟩ : ∃ a, a = k + totD (gs.take i) := ⟨_, rfl⟩
    rw [mkDs_get hi1, ← ha', ← hd] at e4 e6
    rw [← hd] at htk hgm
    rw [← ha'] at t1
    have f0 := e4 0 (by omega)
    have f1 := e4 1 (by omega)
    have f2 := e4 2 (by omega)
    have f3 := e4 3 (by omega)
    have f4 := e4 4 (by omega)
    have f5 := e4 5 (by omega)
    unfold ddRow mkDd at f0 f1 f2 f3 f4 f5
    simp only [List.getD_cons_zero, List.getD_cons_succ] at f0 f1 f2 f3 f4 f5
    unfold mkDd at e6
    simp only at e6
    rw [← mkI_ints] at e6
    have c := k_heldIntS (X := X) (k := a + 3) (n := d.k.length) e6 (by unfold lim; omega) (by omega)
    have hneg : ¬ (((a + 3 + d.k.length * 1 : Nat) : Int) < 0) := by omega
    have w1 : IntKind.i64.wrap ((a : Int) + 1) = ((a + 1 : Nat) : Int) := w64 (by omega) (by omega)
    have w2 : IntKind.i64.wrap (((a + 1 : Nat) : Int) + 1) = ((a + 2 : Nat) : Int) := by rw [w64 (by omega) (by omega)]; omega
    have w3 : IntKind.i64.wrap (((a + 2 : Nat) : Int) + 1) = ((a + 3 : Nat) : Int) := by rw [w64 (by omega) (by omega)]; omega
    have w4 : IntKind.i64.wrap (((a + 3 + d.k.length * 1 : Nat) : Int) + 1) = ((a + 4 + d.k.length : Nat) : Int) := by rw [w64 (by omega) (by omega)]; omega
    have w5 : IntKind.i64.wrap (((a + 4 + d.k.length : Nat) : Int) + 1) = ((k + totD (gs.take (i + 1)) : Nat) : Int) := by rw [w64 (by omega) (by omega), htk]; omega
    have tm : ((a + 1 : Nat) : Int).tmod 3 = (((a + 1) % 3 : Nat) : Int) := rfl
    have mt := k_markText (X := X) (h := h') (k := a) (by omega)
    by_cases z : (((a + 1) % 3 : Nat) : Int) = 0
    · simp only [t0, t1, t5, mt, e1, e2, f0, f1, f2, f3, f4, f5, c, hneg, tm, z, w1, w2, w3, w4, w5, hw, str_eq, decide_true, Nat.zero_add, List.prefix_refl, go_sem]
      exact hi1
    · simp only [t0, t1, t5, mt, e1, e2, f0, f1, f2, f3, f4, f5, c, hneg, tm, z, w1, w2, w3, w4, w5, hw, str_eq, decide_true, decide_false, Nat.zero_add, List.prefix_refl, go_sem]
      exact hi1
  · have hil : i = gs.length := by omega
    subst hil
    rw [List.take_length] at t1
    simp only [t1, go_sem]
end
end Go.Proofs.YthfeahanmbmjhaaGreatDoor.Ab
set_option linter.unusedSimpArgs false
set_option linter.unusedVariables false
set_option linter.unnecessarySimpa false
set_option maxHeartbeats 4000000
namespace Go.Proofs.YthfeahanmbmjhaaGreatDoor.Ab
open Go.RowKit
def DsOk (ds : List Dd) : Prop := ds.length ≤ 40 ∧ ∀ d ∈ ds, d.k.length ≤ 60
theorem deedFin_ok {ws : List ByteArray} {c : Bool} {s n p : Int} {k : List Int} {D : Dd} (h : deedFin ws c s k n p = some D) : D.k.length ≤ 60 := by
  unfold deedFin at h
  split at h
  · cases h
  · split at h
    · rename_i hd
      cases h
      exact hd.2.2.1
    · cases h
theorem deedT_ok {ws : List ByteArray} {D : Dd} (h : deedT ws = some D) : D.k.length ≤ 60 := by
  unfold deedT at h
  split at h
  · split at h
    · split at h
      · split at h
        · exact deedFin_ok h
        · cases h
      · exact deedFin_ok h
    · cases h
  · exact deedFin_ok h
theorem lineStep_ok {st st' : Int × List Dd} {l : ByteArray} (h : DsOk st.2) (e : lineStep st l = some st') : DsOk st'.2 := by
  unfold lineStep at e
  split at e
  · cases e
  · split at e
    · cases e; exact h
    · split at e
      · split at e
        · cases e; exact h
        · cases e
      · split at e
        · cases e
        · rename_i d hd
          split at e
          · cases e
          · cases e
            refine ⟨by simp; omega, fun x hx => ?_⟩
            rcases List.mem_append.1 hx with k | k
            · exact h.2 x k
            · rw [List.mem_singleton.1 k]; exact deedT_ok hd
theorem scrGo_ok : ∀ {ls : List ByteArray} {i : Nat} {st : Int × List Dd}, DsOk st.2 → DsOk (scrGo ls i st).2.1
  | [], i, st, h => by
    unfold scrGo
    split
    · exact ⟨Nat.zero_le _, fun d hd => by cases hd⟩
    · exact h
  | l :: ls, i, st, h => by
    unfold scrGo
    split
    · exact ⟨Nat.zero_le _, fun d hd => by cases hd⟩
    · rename_i st' e
      exact scrGo_ok (lineStep_ok h e)
theorem scrT_ok (s : ByteArray) : DsOk (scrT s).2.1 := by
  unfold scrT
  split
  · exact ⟨Nat.zero_le _, fun d hd => by cases hd⟩
  · exact scrGo_ok ⟨Nat.zero_le _, fun d hd => by cases hd⟩
theorem totD_few : ∀ {gs : List Dd}, (∀ d ∈ gs, d.k.length ≤ 60) → totD gs ≤ 65 * gs.length
  | [], _ => Nat.le_refl _
  | g :: gs, h => by
    have h1 := h g List.mem_cons_self
    have h2 := totD_few (gs := gs) fun d hd => h d (List.mem_cons_of_mem _ hd)
    simp only [totD, List.length_cons]
    omega
section
variable {X : CallF} [LibS X] {h : Heap} {s : ByteArray}
theorem l_ReadScript : C T X n_laws_FnExactReadScript [.string s] h = some (.bool true, h) := by
  refine C_go t_laws_FnExactReadScript rfl ?_
  unfold F_laws_FnExactReadScript
  by_cases hz : (s.size : Int) > 1048576
  · simp only [hz, go_sem]
  have hs : s.size ≤ 1048576 := by omega
  have hk := scrT_ok s
  obtain ⟨w1, h1, c1, z1⟩ := k_spec_ReadScript (X := X) (h := h) hs
  obtain ⟨w2, h2, c2, z2⟩ := k_impl_ReadScript (X := X) (h := h1) hs
  obtain ⟨⟨a, ds, b⟩, hr⟩ : ∃ r, r = scrT s := ⟨_, rfl⟩
  rw [← hr] at hk z1 z2
  obtain ⟨v1, rfl, p1, o1⟩ := z1
  obtain ⟨v2, rfl, p2, o2⟩ := z2
  simp only at o1 o2 c1 c2 hk
  have hl : ds.length ≤ 1000 := by have := hk.1; omega
  have hm : ∀ d ∈ ds, d.k.length ≤ 1000 := fun d hd => by have := hk.2 d hd; omega
  have ht : totD ds ≤ 1000000000 := by have := totD_few hk.2; have := hk.1; omega
  have q2 := p1.trans p2
  have o1_2 := o1.up p2
  have c3 := k_eqDeedS (X := X) o2.rows o1_2.rows hl hm
  obtain ⟨h4, c4, s4, g4⟩ := k_markDeedS (X := X) o2 hl hm (k := 1) (by omega) ht
  have o1_4 := o1_2.same s4 (.inl (Nat.le_refl _))
  have q4 := s4.pre q2 (by have := pre_len p1; omega)
  have c5 := k_heldDeedS (X := X) g4.rows hl hm (by omega) ht
  obtain ⟨w6, h6, c6, z6⟩ := k_impl_ReadScript (X := X) (h := h4) hs
  rw [← hr] at z6
  obtain ⟨v6, rfl, p6, o6⟩ := z6
  simp only at o6 c6
  have o1_6 := o1_4.up p6
  have g6 := g4.up p6
  have q6 := q4.trans p6
  have c7 := k_eqDeedS (X := X) o6.rows o1_6.rows hl hm
  have c8 := k_heldDeedS (X := X) g6.rows hl hm (by omega) ht
  have one : ((1 : Nat) : Int) = 1 := rfl
  rw [one] at c4 c5 c8
  have kn : ¬ ((1 + totD ds : Nat) : Int) < 0 := by omega
  simp only [hz, c1, c2, c3, c4, c5, c6, c7, c8, kn, List.prefix_refl, BEq.rfl, p1, p2, p6, go_sem]
  try exact finish_flat rfl q6
end
def ps_FnExactReadScript : List (Bool × List CK) := [(false, [.str])]
theorem law_FnExactReadScript (h : Heap) (avs : List Value) (ha : All2 (ArgOk h) ps_FnExactReadScript avs) : C T libS n_laws_FnExactReadScript avs h = some (.bool true, h) := by
  obtain ⟨v0, r, rfl, k0, ha⟩ := ha.cons_inv
  obtain rfl := ha.nil_inv
  obtain ⟨s, rfl, _⟩ := k0.cell.str_inv
  exact l_ReadScript
end Go.Proofs.YthfeahanmbmjhaaGreatDoor.Ab
