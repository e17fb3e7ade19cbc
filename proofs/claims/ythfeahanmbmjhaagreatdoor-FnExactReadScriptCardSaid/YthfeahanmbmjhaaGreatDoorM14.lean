/- Joined: K137, K138, K139, K140, P19, P20, K80, K141, K142, K143, K144. No conditions. -/
import Derived.Test.YthfeahanmbmjhaaGreatDoorM13
import Derived.Test.YthfeahanmbmjhaaGreatDoorM12
import Derived.Test.YthfeahanmbmjhaaGreatDoorM4
set_option linter.unusedSimpArgs false
set_option linter.unusedVariables false
set_option linter.unnecessarySimpa false
set_option maxHeartbeats 4000000
namespace Go.Proofs.YthfeahanmbmjhaaGreatDoor.Ab
open Go.RowKit
section
variable {X : CallF} {h : Heap} {v : Value} {ws : List ByteArray}
theorem k_spec_l16Ask (r : Rows h 1 v (texts ws)) (hl : ws.length ≤ 1048576) (hz : ∀ x ∈ ws, x.size ≤ 1048576) : C T X n_spec_l16Ask [v] h = some (askWR ws, h) := by
  refine C_go t_spec_l16Ask rfl ?_
  unfold F_spec_l16Ask
  have ln : lnV h v = some (.int .i64 (ws.length : Nat)) := r.lnm
  by_cases e0 : ws.length = 0
  · have q1 : ¬ (((ws.length : Nat) : Int) = 2) := by omega
    have q2 : (((ws.length : Nat) : Int) = 0) := by omega
    rw [askWR_no (fun k => by omega) (fun k => by have := k.2.2.1; have := manyW_is (ws.getD 0 noT); omega)]
    simp only [ln, q1, q2, go_sem]
  have el0 := tx_n (n := 0) (i := 0) rfl r (by omega)
  obtain ⟨w0, hw0⟩ : ∃ w, w = ws.getD 0 noT := ⟨_, rfl⟩
  rw [← hw0] at el0
  by_cases e2 : ws.length = 2 ∧ w0 = kRaw
  · have el1 := tx_n (n := 1) (i := 1) rfl r (by omega)
    have cu := k_spec_Unhex (X := X) (h := h) (s := ws.getD 1 noT) (hz _ (getD_mem (by omega)))
    have q1 : (((ws.length : Nat) : Int) = 2) := by omega
    rw [askWR_raw ⟨e2.1, by rw [← hw0]; exact e2.2⟩]
    unfold unhV at cu ⊢
    simp only [ln, q1, e2.2, el0.1, el0.2, el1.1, el1.2, str_eq, cu, List.prefix_refl, decide_true, go_sem]
  have e2' : ¬ (ws.length = 2 ∧ ws.getD 0 noT = kRaw) := by rw [← hw0]; exact e2
  have q2 : ¬ (((ws.length : Nat) : Int) = 0) := by omega
  have co := k_spec_l16Word (X := X) (h := h) (w := w0)
  have head : ¬ (((ws.length : Nat) : Int) = 2 ∧ w0 = kRaw) := fun k => e2 ⟨by omega, k.2⟩
  have ws1 : opW (ws.getD 0 noT) = opW w0 := by rw [hw0]
  have ws2 : manyW (ws.getD 0 noT) = manyW w0 := by rw [hw0]
  have hm3 := manyW_is w0
  by_cases ho0 : opW w0 = 0
  · rw [askWR_no e2' (fun k => k.1 (by rw [ws1, ho0]))]
    rw [if_pos ho0] at co
    by_cases q1 : ((ws.length : Nat) : Int) = 2
    · have q3 : ¬ w0 = kRaw := fun k => head ⟨q1, k⟩
      simp only [ln, q1, q3, el0.1, el0.2, str_eq, co, List.prefix_refl, go_sem]
    · simp only [ln, q1, q2, el0.1, el0.2, str_eq, co, List.prefix_refl, go_sem]
  rw [if_neg ho0] at co
  obtain ⟨op, hop⟩ : ∃ n, n = opW w0 := ⟨_, rfl⟩
  obtain ⟨m, hm⟩ : ∃ n : Nat, (n : Int) = manyW w0 := ⟨(manyW w0).toNat, by omega⟩
  rw [← hop, ← hm] at co
  rw [← hop] at ho0 ws1
  rw [← hm] at ws2 hm3
  have hmn : ¬ (m : Int) < 0 := by omega
  have wm : IntKind.i64.wrap ((m : Int) + 1) = (m : Int) + 1 := w64 (by omega) (by omega)
  by_cases hlm : (ws.length : Int) = (m : Int) + 1
  rotate_left
  · rw [askWR_no e2' (fun k => by have := k.2.2.1; rw [ws2] at this; omega)]
    by_cases q1 : ((ws.length : Nat) : Int) = 2
    · have q3 : ¬ w0 = kRaw := fun k => head ⟨q1, k⟩
      have hlm' : ¬ (2 : Int) = (m : Int) + 1 := by omega
      simp only [ln, q1, q3, el0.1, el0.2, str_eq, co, hmn, wm, hlm', List.prefix_refl, go_sem]
    · simp only [ln, q1, q2, el0.1, el0.2, str_eq, co, hmn, wm, hlm, List.prefix_refl, go_sem]
  obtain ⟨h1, e1⟩ : ∃ h1 : Heap, h1 = h ++ [⟨[.int .i64 0, .int .i64 0, .int .i64 0, .int .i64 0, .int .i64 0], 1, y_int, true⟩] := ⟨_, rfl⟩
  have p1 : h <+: h1 := by rw [e1]; exact List.prefix_append _ _
  have o1 : Own h1 h.length h1.length 1 y_int (.slice (some ⟨h.length, 0, none⟩) 5 5) (ints [0, 0, 0, 0, 0]) := by
    rw [e1]; exact (Acc.made (rws := ints [0, 0, 0, 0, 0]) ints_row).own
  have hnl : (nWs ws).length = m := by unfold nWs; rw [List.length_map, List.length_drop]; omega
  have hnd : ∀ j, j < m → (nWs ws).getD j 0 = dcI (ws.getD (1 + j) noT) := fun j hj => by
    unfold nWs
    rw [List.getD_eq_getElem?_getD, List.getElem?_map, List.getElem?_drop, List.getElem?_eq_getElem (by omega), List.getD_eq_getElem?_getD, List.getElem?_eq_getElem (by omega)]
    rfl
  have hz0 : ∀ j, m ≤ j → (nWs ws).getD j 0 = 0 := fun j hj => by rw [List.getD_eq_getElem?_getD, List.getElem?_eq_none (by omega)]; rfl
  by_cases q1 : ((ws.length : Nat) : Int) = 2
  case' pos =>
    have q3 : ¬ w0 = kRaw := fun k => head ⟨q1, k⟩
    have wm2 : IntKind.i64.wrap ((m : Int) + 1) = 2 := by rw [wm]; omega
    simp only [ln, q1, q3, el0.1, el0.2, str_eq, co, hmn, wm2, ← e1, List.prefix_refl, go_sem]
  case' neg =>
    have wm2 : IntKind.i64.wrap ((m : Int) + 1) = (ws.length : Int) := by rw [wm]; omega
    simp only [ln, q1, q2, el0.1, el0.2, str_eq, co, hmn, wm2, ← e1, List.prefix_refl, go_sem]
  all_goals
    refine w_for m (fun i t loc h' => h <+: h' ∧ t 0 = v ∧ t 4 = .int .i64 op ∧ t 5 = .int .i64 (m : Nat) ∧ t 7 = .int .i64 (i : Nat) ∧ (∀ j, j < i → dcB (ws.getD (1 + j) noT) = true) ∧ ∃ (w : Value) (L : List Int), t 6 = w ∧ Own h' h.length h'.length 1 y_int w (ints L) ∧ L.length = 5 ∧ ∀ j, L.getD j 0 = if j < i then (nWs ws).getD j 0 else 0) ?_ ?_
    · refine ⟨p1, rfl, rfl, rfl, rfl, fun j hj => by omega, _, [0, 0, 0, 0, 0], rfl, o1, rfl, fun j => ?_⟩
      rw [if_neg (by omega)]
      match j with
      | 0 | 1 | 2 | 3 | 4 => rfl
      | j + 5 => rfl
    rintro i t loc h2 hi ⟨p2, t0, t4, t5, t7, hall, lv, L, t6, o2, hL5, hLv⟩
    simp only [t5, t7, go_sem]
    refine w_open (by simp only [go_sem]; rfl) ?_ ?_ <;> intro hc
    · have hi1 : i < m := by omega
      have hw : IntKind.i64.wrap ((i : Int) + 1) = ((i + 1 : Nat) : Int) := w64 (by omega) (by omega)
      have hw1 : IntKind.i64.wrap (1 + (i : Int)) = ((1 + i : Nat) : Int) := by rw [w64 (by omega) (by omega)]; omega
      obtain ⟨x, hx⟩ : ∃ x, x = ws.getD (1 + i) noT := ⟨_, rfl⟩
      have hxm : x ∈ ws.drop 1 := by
        rw [hx, show ws.getD (1 + i) noT = (ws.drop 1).getD i noT by rw [List.getD_eq_getElem?_getD, List.getD_eq_getElem?_getD, List.getElem?_drop]]
        exact getD_mem (by rw [List.length_drop]; omega)
      have el := tx_n (n := ((1 + i : Nat) : Int)) (i := 1 + i) rfl (r.up p2) (by omega)
      rw [← hx] at el
      have cr := k_spec_ReadDecimal (X := X) (h := h2) (s := x)
      cases hb : dcB x with
      | false =>
        rw [hb] at cr
        rw [askWR_no e2' (fun k => by have := k.2.1 x hxm; rw [hb] at this; cases this)]
        simp only [t0, t4, t5, t6, t7, hw1, el.1, el.2, cr, go_sem]
        exact finish_flat rfl p2
      | true =>
        rw [hb] at cr
        obtain ⟨h3, s1, s2, s3⟩ := o2.sti (i := i) (by omega) (dcI x)
        have o3 := s3
        rw [← s2.len] at o3
        have ia := (o2.el (i := i) (by rw [ints_len]; omega)).1
        unfold dcI at s1
        simp only [t0, t4, t5, t6, t7, hw, hw1, el.1, el.2, cr, ia, s1, go_sem]
        refine ⟨hi1, s2.pre p2 (Nat.le_refl _), below_succ hall (by rw [← hx]; exact hb), lv, L.set i (dcI x), rfl, o3, by rw [List.length_set]; exact hL5, fun j => ?_⟩
        · rw [getD_set (by omega), hLv j]
          by_cases ej : j = i
          · rw [if_pos ej, if_pos (by omega), ej, hnd i hi1, hx]
          · rw [if_neg ej]
            by_cases ej2 : j < i
            · rw [if_pos ej2, if_pos (by omega)]
            · rw [if_neg ej2, if_neg (by omega)]
    · have hin : i = m := by omega
      have hd : ∀ x ∈ ws.drop 1, dcB x = true := fun x hx => by
        obtain ⟨j, hj, rfl⟩ := mem_getD (d := noT) hx
        rw [List.length_drop] at hj
        have := hall j (by omega)
        rwa [show ws.getD (1 + j) noT = (ws.drop 1).getD j noT by rw [List.getD_eq_getElem?_getD, List.getD_eq_getElem?_getD, List.getElem?_drop]] at this
      have hLn : ∀ j, L.getD j 0 = (nWs ws).getD j 0 := fun j => by
        rw [hLv j]
        by_cases ej : j < i
        · rw [if_pos ej]
        · rw [if_neg ej, hz0 j (by omega)]
      rw [askWR_is e2' ⟨by rw [ws1]; exact ho0, hd, by rw [ws2]; omega⟩, ws1]
      obtain ⟨x0, hx0⟩ : ∃ x, x = (nWs ws).getD 0 0 := ⟨_, rfl⟩
      obtain ⟨x1, hx1⟩ : ∃ x, x = (nWs ws).getD 1 0 := ⟨_, rfl⟩
      obtain ⟨x2, hx2⟩ : ∃ x, x = (nWs ws).getD 2 0 := ⟨_, rfl⟩
      obtain ⟨x3, hx3⟩ : ∃ x, x = (nWs ws).getD 3 0 := ⟨_, rfl⟩
      obtain ⟨x4, hx4⟩ : ∃ x, x = (nWs ws).getD 4 0 := ⟨_, rfl⟩
      have i0 := int_n (n := 0) (i := 0) rfl o2.rows (by omega)
      have i1 := int_n (n := 1) (i := 1) rfl o2.rows (by omega)
      have i2 := int_n (n := 2) (i := 2) rfl o2.rows (by omega)
      have i3 := int_n (n := 3) (i := 3) rfl o2.rows (by omega)
      have i4 := int_n (n := 4) (i := 4) rfl o2.rows (by omega)
      rw [hLn 0, ← hx0] at i0
      rw [hLn 1, ← hx1] at i1
      rw [hLn 2, ← hx2] at i2
      rw [hLn 3, ← hx3] at i3
      rw [hLn 4, ← hx4] at i4
      have ca := k_spec_AskText (X := X) (h := h2) (op := op) (a := x0) (b := x1) (w1 := x2) (w2 := x3) (w3 := x4)
      have hf : nFive ws = [x0, x1, x2, x3, x4] := by unfold nFive; rw [hx0, hx1, hx2, hx3, hx4]
      rw [hf]
      unfold askV at ca
      simp only [t4, t6, i0.1, i0.2, i1.1, i1.2, i2.1, i2.2, i3.1, i3.2, i4.1, i4.2, ca, List.prefix_refl, go_sem]
      exact finish_flat rfl p2
end
end Go.Proofs.YthfeahanmbmjhaaGreatDoor.Ab
set_option linter.unusedSimpArgs false
set_option linter.unusedVariables false
set_option linter.unnecessarySimpa false
set_option maxHeartbeats 4000000
namespace Go.Proofs.YthfeahanmbmjhaaGreatDoor.Ab
open Go.RowKit
abbrev kPower : ByteArray := ⟨⟨[112, 111, 119, 101, 114]⟩⟩
/-- A deed. -/
structure Dd where
  t : ByteArray
  c : Bool
  s : Int
  k : List Int
  n : Int
  p : Int
def dd0 : Dd := ⟨noT, false, 0, [], 0, 0⟩
def ddRow (d : Dd) (kv : Value) : List Value := [.string d.t, .bool d.c, .int .i64 d.s, kv, .int .i64 d.n, .int .i64 d.p]
def DdOk (t : ByteArray) (s : Int) (k : List Int) (p : Int) : Prop := t.size ≤ 40 ∧ (0 ≤ s ∧ s ≤ 1) ∧ k.length ≤ 60 ∧ 0 ≤ p ∧ p ≤ 64
instance {t s k p} : Decidable (DdOk t s k p) := by unfold DdOk; infer_instance
noncomputable def deedFin (ws : List ByteArray) (c : Bool) (s : Int) (k : List Int) (n p : Int) : Option Dd := match askWT ws with
  | none => none
  | some t => if DdOk t s k p then some ⟨t, c, s, k, n, p⟩ else none
def KeepIs (w : ByteArray) : Prop := 48 ≤ byt w 0 ∧ byt w 0 ≤ 57
open Classical in
/-- The deed of a line's words. -/
noncomputable def deedT (ws : List ByteArray) : Option Dd :=
  if ws.getD 0 noT = kPower then
    if 5 ≤ ws.length ∧ ∀ x ∈ (ws.drop 1).take 3, dcB x = true then
      if KeepIs (ws.getD 4 noT) then
        if ∀ x ∈ splitC (ws.getD 4 noT) 44, dcB x = true then deedFin (ws.drop 5) true (dcI (ws.getD 1 noT)) ((splitC (ws.getD 4 noT) 44).map dcI) (dcI (ws.getD 2 noT)) (dcI (ws.getD 3 noT)) else none
      else deedFin (ws.drop 4) true (dcI (ws.getD 1 noT)) [] (dcI (ws.getD 2 noT)) (dcI (ws.getD 3 noT))
    else none
  else deedFin ws false 0 [] 0 0
/-- What a look for a deed tells. -/
def DeedR (h : Heap) (ws : List ByteArray) (w : Value) (hh : Heap) : Prop := ∃ (d : Dd) (kv : Value) (b : Bool), w = .tuple ⟨[.agg ⟨ddRow d kv⟩, .bool b]⟩ ∧ h <+: hh ∧ (b = true ↔ (deedT ws).isSome = true) ∧ ∀ D, deedT ws = some D → d = D ∧ Own hh h.length hh.length 1 y_int kv (ints D.k)
theorem deedR_no {h hh : Heap} {ws : List ByteArray} {t : ByteArray} {c : Bool} {s n q : Int} {kv : Value} (p : h <+: hh) (e : deedT ws = none) : DeedR h ws (finish h (.tuple ⟨[.agg ⟨[.string t, .bool c, .int .i64 s, kv, .int .i64 n, .int .i64 q]⟩, .bool false]⟩, hh)).1 (finish h (.tuple ⟨[.agg ⟨[.string t, .bool c, .int .i64 s, kv, .int .i64 n, .int .i64 q]⟩, .bool false]⟩, hh)).2 := by
  obtain ⟨h2, e2, p2, _⟩ := finish_cases (v := .tuple ⟨[.agg ⟨[.string t, .bool c, .int .i64 s, kv, .int .i64 n, .int .i64 q]⟩, .bool false]⟩) p
  rw [e2]
  exact ⟨⟨t, c, s, [], n, q⟩, kv, false, rfl, p2, by rw [e]; exact ⟨fun k => (by cases k), fun k => (by cases k)⟩, fun D k => by rw [e] at k; cases k⟩
theorem deedR_fin {h hh : Heap} {ws ws' : List ByteArray} {t : ByteArray} {c : Bool} {s n q : Int} {k : List Int} {kv : Value} (p : h <+: hh) (e : deedT ws = deedFin ws' c s k n q) (ht : askWT ws' = some t) (o : Own hh h.length hh.length 1 y_int kv (ints k)) :
    DeedR h ws (finish h (.tuple ⟨[.agg ⟨[.string t, .bool c, .int .i64 s, kv, .int .i64 n, .int .i64 q]⟩, .bool (decide (DdOk t s k q))]⟩, hh)).1 (finish h (.tuple ⟨[.agg ⟨[.string t, .bool c, .int .i64 s, kv, .int .i64 n, .int .i64 q]⟩, .bool (decide (DdOk t s k q))]⟩, hh)).2 := by
  obtain ⟨h2, e2, p2, hc⟩ := finish_cases (v := .tuple ⟨[.agg ⟨[.string t, .bool c, .int .i64 s, kv, .int .i64 n, .int .i64 q]⟩, .bool (decide (DdOk t s k q))]⟩) p
  rw [e2]
  have e' : deedT ws = if DdOk t s k q then some ⟨t, c, s, k, n, q⟩ else none := by rw [e]; unfold deedFin; rw [ht]
  refine ⟨⟨t, c, s, k, n, q⟩, kv, decide (DdOk t s k q), rfl, p2, ?_, fun D hD => ?_⟩
  · rw [e']
    by_cases z : DdOk t s k q
    · simp [z]
    · simp [z]
  · rw [e'] at hD
    by_cases z : DdOk t s k q
    · rw [if_pos z] at hD
      cases hD
      refine ⟨rfl, ?_⟩
      rcases hc with rfl | ⟨hf, rfl⟩
      · exact o
      · refine o.flatP ?_
        rcases o.is with ⟨r, _⟩ | ⟨b, _, _, r, _⟩
        · rw [r]; rfl
        · rw [r] at hf ⊢
          simp [flat, flat1, prim] at hf
    · rw [if_neg z] at hD; cases hD
theorem deedR_no0 {h : Heap} {ws : List ByteArray} {t : ByteArray} {c : Bool} {s n q : Int} {kv : Value} (e : deedT ws = none) : DeedR h ws (.tuple ⟨[.agg ⟨[.string t, .bool c, .int .i64 s, kv, .int .i64 n, .int .i64 q]⟩, .bool false]⟩) h :=
  ⟨⟨t, c, s, [], n, q⟩, kv, false, rfl, List.prefix_refl _, by rw [e]; exact ⟨fun k => (by cases k), fun k => (by cases k)⟩, fun D k => by rw [e] at k; cases k⟩
theorem deedR_fin0 {h : Heap} {ws ws' : List ByteArray} {t : ByteArray} {c : Bool} {s n q : Int} {k : List Int} {kv : Value} (e : deedT ws = deedFin ws' c s k n q) (ht : askWT ws' = some t) (o : Own h h.length h.length 1 y_int kv (ints k)) :
    DeedR h ws (.tuple ⟨[.agg ⟨[.string t, .bool c, .int .i64 s, kv, .int .i64 n, .int .i64 q]⟩, .bool (decide (DdOk t s k q))]⟩) h := by
  have e' : deedT ws = if DdOk t s k q then some ⟨t, c, s, k, n, q⟩ else none := by rw [e]; unfold deedFin; rw [ht]
  refine ⟨⟨t, c, s, k, n, q⟩, kv, decide (DdOk t s k q), rfl, List.prefix_refl _, ?_, fun D hD => ?_⟩
  · rw [e']
    by_cases z : DdOk t s k q
    · simp [z]
    · simp [z]
  · rw [e'] at hD
    by_cases z : DdOk t s k q
    · rw [if_pos z] at hD
      cases hD
      exact ⟨rfl, o⟩
    · rw [if_neg z] at hD; cases hD
section
variable {X : CallF} {h : Heap} {kv : Value} {k : List Int} {t : ByteArray} {c : Bool} {s n p : Int}
theorem k_impl_DeedOk (r : Rows h 1 kv (ints k)) : C T X n_impl_DeedOk [.agg ⟨[.string t, .bool c, .int .i64 s, kv, .int .i64 n, .int .i64 p]⟩] h = some (.bool (decide (DdOk t s k p)), h) := by
  refine C_go t_impl_DeedOk rfl ?_
  unfold F_impl_DeedOk
  have ln : lnV h kv = some (.int .i64 (k.length : Nat)) := ints_ln r
  by_cases a1 : t.size ≤ 40
  rotate_left
  · have e : decide (DdOk t s k p) = false := decide_eq_false fun z => a1 z.1
    have a1' : ¬ (t.size : Int) ≤ 40 := by omega
    rw [e]
    simp only [a1', go_sem]
  have a1' : (t.size : Int) ≤ 40 := by omega
  by_cases a2 : 0 ≤ s ∧ s ≤ 1
  rotate_left
  · have e : decide (DdOk t s k p) = false := decide_eq_false fun z => a2 z.2.1
    have a2' : (decide (0 ≤ s) && decide (s ≤ 1)) = false := by simp; omega
    rw [e]
    simp only [a1', k_impl_in, a2', go_sem]
  have a2' : (decide (0 ≤ s) && decide (s ≤ 1)) = true := by simp; omega
  by_cases a3 : k.length ≤ 60
  rotate_left
  · have e : decide (DdOk t s k p) = false := decide_eq_false fun z => a3 z.2.2.1
    have a3' : ¬ (k.length : Int) ≤ 60 := by omega
    rw [e]
    simp only [a1', k_impl_in, a2', ln, a3', go_sem]
  have a3' : (k.length : Int) ≤ 60 := by omega
  have e : decide (DdOk t s k p) = (decide (0 ≤ p) && decide (p ≤ 64)) := by
    unfold DdOk
    by_cases z : 0 ≤ p ∧ p ≤ 64
    · simp [a1, a2, a3, z]
    · simp [a1, a2, a3]
  rw [e]
  simp only [a1', k_impl_in, a2', ln, a3', go_sem]
theorem k_spec_DeedOk (r : Rows h 1 kv (ints k)) : C T X n_spec_DeedOk [.agg ⟨[.string t, .bool c, .int .i64 s, kv, .int .i64 n, .int .i64 p]⟩] h = some (.bool (decide (DdOk t s k p)), h) := by
  refine C_go t_spec_DeedOk rfl ?_
  unfold F_spec_DeedOk
  have ln : lnV h kv = some (.int .i64 (k.length : Nat)) := ints_ln r
  by_cases a1 : t.size ≤ 40
  rotate_left
  · have e : decide (DdOk t s k p) = false := decide_eq_false fun z => a1 z.1
    have a1' : ¬ (t.size : Int) ≤ 40 := by omega
    rw [e]
    simp only [a1', go_sem]
  have a1' : (t.size : Int) ≤ 40 := by omega
  by_cases a2 : 0 ≤ s ∧ s ≤ 1
  rotate_left
  · have e : decide (DdOk t s k p) = false := decide_eq_false fun z => a2 z.2.1
    have a2' : (decide (0 ≤ s) && decide (s ≤ 1)) = false := by simp; omega
    rw [e]
    simp only [a1', k_spec_l01In, a2', go_sem]
  have a2' : (decide (0 ≤ s) && decide (s ≤ 1)) = true := by simp; omega
  by_cases a3 : k.length ≤ 60
  rotate_left
  · have e : decide (DdOk t s k p) = false := decide_eq_false fun z => a3 z.2.2.1
    have a3' : ¬ (k.length : Int) ≤ 60 := by omega
    rw [e]
    simp only [a1', k_spec_l01In, a2', ln, a3', go_sem]
  have a3' : (k.length : Int) ≤ 60 := by omega
  have e : decide (DdOk t s k p) = (decide (0 ≤ p) && decide (p ≤ 64)) := by
    unfold DdOk
    by_cases z : 0 ≤ p ∧ p ≤ 64
    · simp [a1, a2, a3, z]
    · simp [a1, a2, a3]
  rw [e]
  simp only [a1', k_spec_l01In, a2', ln, a3', go_sem]
end
end Go.Proofs.YthfeahanmbmjhaaGreatDoor.Ab
set_option linter.unusedSimpArgs false
set_option linter.unusedVariables false
set_option linter.unnecessarySimpa false
set_option maxHeartbeats 4000000
namespace Go.Proofs.YthfeahanmbmjhaaGreatDoor.Ab
open Go.RowKit
theorem pcs_size {s : ByteArray} {c : Nat} {x : ByteArray} : ∀ i, x ∈ (pcs s c i).1 → x.size ≤ s.size
  | 0, h => by cases h
  | i + 1, h => by
    by_cases q : byt s i = c
    · rw [pcs_yes q] at h
      rcases List.mem_append.1 h with k | k
      · exact pcs_size i k
      · rw [List.mem_singleton.1 k, ByteArray.size_extract]; omega
    · rw [pcs_no q] at h
      exact pcs_size i h
theorem split_size {s : ByteArray} {c : Nat} {x : ByteArray} (h : x ∈ splitC s c) : x.size ≤ s.size := by
  rcases List.mem_append.1 h with k | k
  · exact pcs_size _ k
  · rw [List.mem_singleton.1 k, ByteArray.size_extract]; omega
theorem wrd_size {s : ByteArray} {x : ByteArray} (h : x ∈ wordsL s) : 0 < x.size ∧ x.size ≤ s.size := by
  unfold wordsL at h
  obtain ⟨h1, h2⟩ := List.mem_filter.1 h
  exact ⟨by simpa using h2, split_size h1⟩
theorem Rows.fromN {h : Heap} {v : Value} {ws : List ByteArray} {i : Nat} {n : Int} (hn : n = (i : Int)) (r : Rows h 1 v (texts ws)) (hi : i ≤ ws.length) : ∃ v1, slLV 1 v (some (.int .i64 n)) none h = some v1 ∧ Rows h 1 v1 (texts (ws.drop i)) := by
  obtain ⟨v1, g1, r1⟩ := r.sub (i := i) (k := ws.length) hi (by rw [List.length_map]; exact Nat.le_refl _) (by omega) (lo := some (.int .i64 n)) (hi := none) (by rw [hn]; rfl) (by rw [List.length_map]; rfl)
  refine ⟨v1, g1, ?_⟩
  have : ((texts ws).drop i).take (ws.length - i) = texts (ws.drop i) := by
    rw [List.take_of_length_le (by rw [List.length_drop, List.length_map]; exact Nat.le_refl _), texts, texts, List.map_drop]
  rw [this] at r1
  exact r1
theorem Rows.midN {h : Heap} {v : Value} {ws : List ByteArray} (r : Rows h 1 v (texts ws)) (hi : 4 ≤ ws.length) : ∃ v1, slLV 1 v (some (.int .i64 1)) (some (.int .i64 4)) h = some v1 ∧ Rows h 1 v1 (texts ((ws.drop 1).take 3)) := by
  obtain ⟨v1, g1, r1⟩ := r.sub (i := 1) (k := 4) (by omega) (by rw [List.length_map]; exact hi) (by omega) (lo := some (.int .i64 1)) (hi := some (.int .i64 4)) rfl rfl
  refine ⟨v1, g1, ?_⟩
  have : ((texts ws).drop 1).take (4 - 1) = texts ((ws.drop 1).take 3) := by rw [texts, texts, List.map_take, List.map_drop]
  rw [this] at r1
  exact r1
theorem mid_get {ws : List ByteArray} (h5 : 5 ≤ ws.length) : (ws.drop 1).take 3 = [ws.getD 1 noT, ws.getD 2 noT, ws.getD 3 noT] := by
  match ws, h5 with
  | a :: b :: c :: d :: e :: l, _ => rfl
theorem drop_getN {ws : List ByteArray} {i : Nat} : (ws.drop i).getD 0 noT = ws.getD i noT := by rw [List.getD_eq_getElem?_getD, List.getD_eq_getElem?_getD, List.getElem?_drop]; rfl
section
variable {X : CallF} {h : Heap} {v : Value} {ws : List ByteArray}
theorem k_impl_deed [LibS X] (r : Rows h 1 v (texts ws)) (h0 : 0 < ws.length) (hl : ws.length ≤ 1048576) (hz : ∀ x ∈ ws, 0 < x.size ∧ x.size ≤ 1000) : ∃ w hh, C T X n_impl_deed [v] h = some (w, hh) ∧ DeedR h ws w hh := by
  refine C_ex t_impl_deed rfl ?_
  unfold F_impl_deed
  have ln : lnV h v = some (.int .i64 (ws.length : Nat)) := r.lnm
  have el0 := tx_n (n := 0) (i := 0) rfl r h0
  obtain ⟨w0, hw0⟩ : ∃ w, w = ws.getD 0 noT := ⟨_, rfl⟩
  rw [← hw0] at el0
  by_cases e0 : w0 = kPower
  rotate_left
  · have hD : deedT ws = deedFin ws false 0 [] 0 0 := by unfold deedT; rw [← hw0, if_neg e0]
    have ct := k_impl_textOf (X := X) r hl (fun x hx => by have := (hz x hx).2; omega)
    unfold askWR at ct
    cases ha : askWT ws with
    | none =>
      rw [ha] at ct
      simp only [el0.1, el0.2, str_eq, e0, ct, Option.getD_none, Option.isSome_none, List.prefix_refl, go_sem]
      exact deedR_no0 (by rw [hD]; unfold deedFin; rw [ha])
    | some t =>
      rw [ha] at ct
      have cd := k_impl_DeedOk (X := X) (h := h) (kv := nilV) (k := []) (t := t) (c := false) (s := 0) (n := 0) (p := 0) Rows.nil
      simp only [el0.1, el0.2, str_eq, e0, ct, cd, Option.getD_some, Option.isSome_some, List.prefix_refl, go_sem]
      exact deedR_fin0 hD ha Own.nil
  by_cases h5 : ws.length < 5
  · have hD : deedT ws = none := by unfold deedT; rw [← hw0, if_pos e0, if_neg (fun k => by omega)]
    have h5' : ((ws.length : Nat) : Int) < 5 := by omega
    simp only [el0.1, el0.2, str_eq, e0, ln, h5', decide_true, go_sem]
    exact deedR_no0 hD
  have h5' : ¬ ((ws.length : Nat) : Int) < 5 := by omega
  obtain ⟨v1, g1, r1⟩ := r.midN (by omega)
  have hm3 := mid_get (ws := ws) (by omega)
  obtain ⟨w, h1, cn, v2, b, rfl, p1, hb, ho⟩ := k_impl_numbers (X := X) r1 (by rw [hm3]; simp) (fun x hx => by have := (hz x (List.mem_of_mem_drop (List.mem_of_mem_take hx))).2; omega)
  cases b with
  | false =>
    have hD : deedT ws = none := by unfold deedT; rw [← hw0, if_pos e0, if_neg (fun k => by have := hb.2 k.2; cases this)]
    simp only [el0.1, el0.2, str_eq, e0, ln, h5', g1, cn, decide_true, List.prefix_refl, go_sem]
    exact deedR_no p1 hD
  | true =>
    have hall := hb.1 rfl
    have o1 := ho rfl
    rw [hm3] at o1
    have i0 := int_n (n := 0) (i := 0) rfl o1.rows (by simp)
    have i1 := int_n (n := 1) (i := 1) rfl o1.rows (by simp)
    have i2 := int_n (n := 2) (i := 2) rfl o1.rows (by simp)
    obtain ⟨x0, hx0⟩ : ∃ x, x = dcI (ws.getD 1 noT) := ⟨_, rfl⟩
    obtain ⟨x1, hx1⟩ : ∃ x, x = dcI (ws.getD 2 noT) := ⟨_, rfl⟩
    obtain ⟨x2, hx2⟩ : ∃ x, x = dcI (ws.getD 3 noT) := ⟨_, rfl⟩
    rw [show (List.map dcI [ws.getD 1 noT, ws.getD 2 noT, ws.getD 3 noT]).getD 0 0 = x0 from hx0.symm] at i0
    rw [show (List.map dcI [ws.getD 1 noT, ws.getD 2 noT, ws.getD 3 noT]).getD 1 0 = x1 from hx1.symm] at i1
    rw [show (List.map dcI [ws.getD 1 noT, ws.getD 2 noT, ws.getD 3 noT]).getD 2 0 = x2 from hx2.symm] at i2
    obtain ⟨v4, g4, r4⟩ := (r.up p1).fromN (n := 4) (i := 4) rfl (by omega)
    have el4 := tx_n (n := 0) (i := 0) rfl r4 (by rw [List.length_drop]; omega)
    rw [drop_getN] at el4
    obtain ⟨w4, hw4⟩ : ∃ w, w = ws.getD 4 noT := ⟨_, rfl⟩
    rw [← hw4] at el4
    have hw4z := hz w4 (by rw [hw4]; exact getD_mem (by omega))
    have ix : ixV (.string w4) (.int .i64 0) = some (.int .u8 (byt w4 0 : Nat)) := ix_byt (s := w4) (i := 0) hw4z.1
    by_cases k1 : KeepIs w4
    · have k1a : (byt w4 0 : Int) ≥ 48 := by have := k1.1; omega
      have k1b : (byt w4 0 : Int) ≤ 57 := by have := k1.2; omega
      obtain ⟨vs, h2, cs, p2, os⟩ := k_Split (X := X) (h := h1) (s := w4) (c := 44) (c8 := 44) (by omega) rfl (by omega)
      have hsl : (splitC w4 44).length ≤ 1001 := by rw [split_len]; have := pcs_few (s := w4) (c := 44) w4.size; omega
      obtain ⟨w, h3, cn3, v3, b3, rfl, p3, hb3, ho3⟩ := k_impl_numbers (X := X) os.rows (by omega) (fun x hx => by have := split_size hx; omega)
      cases b3 with
      | false =>
        have hD : deedT ws = none := by
          unfold deedT
          rw [← hw0, if_pos e0, if_pos ⟨by omega, hall⟩, ← hw4, if_pos k1, if_neg (fun k => by have := hb3.2 k; cases this)]
        simp only [el0.1, el0.2, str_eq, e0, ln, h5', g1, cn, i0.1, i0.2, i1.1, i1.2, i2.1, i2.2, g4, el4.1, el4.2, ix, k1a, k1b, cs, cn3, decide_true, List.prefix_refl, go_sem]
        exact deedR_no (p1.trans (p2.trans p3)) hD
      | true =>
        have hall3 := hb3.1 rfl
        have o3 := ho3 rfl
        have o3' : Own h3 h.length h3.length 1 y_int v3 (ints ((splitC w4 44).map dcI)) := o3.wide (by have := pre_len p1; have := pre_len p2; omega) (Nat.le_refl _)
        have hD : deedT ws = deedFin (ws.drop 5) true x0 ((splitC w4 44).map dcI) x1 x2 := by
          unfold deedT
          rw [← hw0, if_pos e0, if_pos ⟨by omega, hall⟩, ← hw4, if_pos k1, if_pos hall3, hx0, hx1, hx2]
        obtain ⟨v5, g5, r5⟩ := ((r4.up p2).up p3).fromN (n := 1) (i := 1) rfl (by rw [List.length_drop]; omega)
        rw [List.drop_drop] at r5
        have ct := k_impl_textOf (X := X) r5 (by rw [List.length_drop]; omega) (fun x hx => by have := (hz x (List.mem_of_mem_drop hx)).2; omega)
        unfold askWR at ct
        cases ha : askWT (ws.drop 5) with
        | none =>
          rw [ha] at ct
          simp only [el0.1, el0.2, str_eq, e0, ln, h5', g1, cn, i0.1, i0.2, i1.1, i1.2, i2.1, i2.2, g4, el4.1, el4.2, ix, k1a, k1b, cs, cn3, o3.cells, g5, ct, Option.getD_none, Option.isSome_none, decide_true, List.prefix_refl, go_sem]
          exact deedR_no (p1.trans (p2.trans p3)) (by rw [hD]; unfold deedFin; rw [ha])
        | some t =>
          rw [ha] at ct
          have cd := k_impl_DeedOk (X := X) (h := h3) (kv := v3) (k := (splitC w4 44).map dcI) (t := t) (c := true) (s := x0) (n := x1) (p := x2) o3.rows
          simp only [el0.1, el0.2, str_eq, e0, ln, h5', g1, cn, i0.1, i0.2, i1.1, i1.2, i2.1, i2.2, g4, el4.1, el4.2, ix, k1a, k1b, cs, cn3, o3.cells, g5, ct, cd, Option.getD_some, Option.isSome_some, decide_true, List.prefix_refl, go_sem]
          exact deedR_fin (p1.trans (p2.trans p3)) hD ha o3'
    · have hD : deedT ws = deedFin (ws.drop 4) true x0 [] x1 x2 := by
        unfold deedT
        rw [← hw0, if_pos e0, if_pos ⟨by omega, hall⟩, ← hw4, if_neg k1, hx0, hx1, hx2]
      have ct := k_impl_textOf (X := X) r4 (by rw [List.length_drop]; omega) (fun x hx => by have := (hz x (List.mem_of_mem_drop hx)).2; omega)
      unfold askWR at ct
      have cd := fun t => k_impl_DeedOk (X := X) (h := h1) (kv := nilV) (k := []) (t := t) (c := true) (s := x0) (n := x1) (p := x2) Rows.nil
      by_cases k2 : 48 ≤ byt w4 0
      · have k2a : (byt w4 0 : Int) ≥ 48 := by omega
        have k2b : ¬ (byt w4 0 : Int) ≤ 57 := fun z => k1 ⟨k2, by omega⟩
        cases ha : askWT (ws.drop 4) with
        | none =>
          rw [ha] at ct
          simp only [el0.1, el0.2, str_eq, e0, ln, h5', g1, cn, i0.1, i0.2, i1.1, i1.2, i2.1, i2.2, g4, el4.1, el4.2, ix, k2a, k2b, ct, Option.getD_none, Option.isSome_none, decide_true, List.prefix_refl, go_sem]
          exact deedR_no p1 (by rw [hD]; unfold deedFin; rw [ha])
        | some t =>
          rw [ha] at ct
          simp only [el0.1, el0.2, str_eq, e0, ln, h5', g1, cn, i0.1, i0.2, i1.1, i1.2, i2.1, i2.2, g4, el4.1, el4.2, ix, k2a, k2b, ct, cd, Option.getD_some, Option.isSome_some, decide_true, List.prefix_refl, go_sem]
          exact deedR_fin p1 hD ha Own.nil
      · have k2a : ¬ (byt w4 0 : Int) ≥ 48 := by omega
        cases ha : askWT (ws.drop 4) with
        | none =>
          rw [ha] at ct
          simp only [el0.1, el0.2, str_eq, e0, ln, h5', g1, cn, i0.1, i0.2, i1.1, i1.2, i2.1, i2.2, g4, el4.1, el4.2, ix, k2a, ct, Option.getD_none, Option.isSome_none, decide_true, List.prefix_refl, go_sem]
          exact deedR_no p1 (by rw [hD]; unfold deedFin; rw [ha])
        | some t =>
          rw [ha] at ct
          simp only [el0.1, el0.2, str_eq, e0, ln, h5', g1, cn, i0.1, i0.2, i1.1, i1.2, i2.1, i2.2, g4, el4.1, el4.2, ix, k2a, ct, cd, Option.getD_some, Option.isSome_some, decide_true, List.prefix_refl, go_sem]
          exact deedR_fin p1 hD ha Own.nil
end
end Go.Proofs.YthfeahanmbmjhaaGreatDoor.Ab
set_option linter.unusedSimpArgs false
set_option linter.unusedVariables false
set_option linter.unnecessarySimpa false
set_option maxHeartbeats 4000000
namespace Go.Proofs.YthfeahanmbmjhaaGreatDoor.Ab
open Go.RowKit
section
variable {X : CallF} {h : Heap} {v : Value} {ws : List ByteArray}
theorem mid_at {i : Nat} (h5 : 5 ≤ ws.length) (hi : i < 3) : ((ws.drop 1).take 3).getD i noT = ws.getD (i + 1) noT := by
  rw [mid_get h5]
  match i, hi with
  | 0, _ => rfl
  | 1, _ => rfl
  | 2, _ => rfl
theorem k_spec_l16Deed (r : Rows h 1 v (texts ws)) (h0 : 0 < ws.length) (hl : ws.length ≤ 1048576) (hz : ∀ x ∈ ws, 0 < x.size ∧ x.size ≤ 1000) : ∃ w hh, C T X n_spec_l16Deed [v] h = some (w, hh) ∧ DeedR h ws w hh := by
  refine C_ex t_spec_l16Deed rfl ?_
  unfold F_spec_l16Deed
  have ln : lnV h v = some (.int .i64 (ws.length : Nat)) := r.lnm
  have el0 := tx_n (n := 0) (i := 0) rfl r h0
  obtain ⟨w0, hw0⟩ : ∃ w, w = ws.getD 0 noT := ⟨_, rfl⟩
  rw [← hw0] at el0
  by_cases e0 : w0 = kPower
  rotate_left
  · have hD : deedT ws = deedFin ws false 0 [] 0 0 := by unfold deedT; rw [← hw0, if_neg e0]
    have ct := k_spec_l16Ask (X := X) r hl (fun x hx => by have := (hz x hx).2; omega)
    unfold askWR at ct
    cases ha : askWT ws with
    | none =>
      rw [ha] at ct
      simp only [el0.1, el0.2, str_eq, e0, ct, Option.getD_none, Option.isSome_none, List.prefix_refl, go_sem]
      exact deedR_no0 (by rw [hD]; unfold deedFin; rw [ha])
    | some t =>
      rw [ha] at ct
      have cd := k_spec_DeedOk (X := X) (h := h) (kv := nilV) (k := []) (t := t) (c := false) (s := 0) (n := 0) (p := 0) Rows.nil
      simp only [el0.1, el0.2, str_eq, e0, ct, cd, Option.getD_some, Option.isSome_some, List.prefix_refl, go_sem]
      exact deedR_fin0 hD ha Own.nil
  by_cases h5 : ws.length < 5
  · have hD : deedT ws = none := by unfold deedT; rw [← hw0, if_pos e0, if_neg (fun k => by omega)]
    have h5' : ((ws.length : Nat) : Int) < 5 := by omega
    simp only [el0.1, el0.2, str_eq, e0, ln, h5', decide_true, go_sem]
    exact deedR_no0 hD
  have h5' : ¬ ((ws.length : Nat) : Int) < 5 := by omega
  have hm3 := mid_get (ws := ws) (by omega)
  obtain ⟨M, hM⟩ : ∃ M, M = (ws.drop 1).take 3 := ⟨_, rfl⟩
  rw [← hM] at hm3
  have hM3 : M.length = 3 := by rw [hm3]; rfl
  obtain ⟨hn, en⟩ : ∃ hn : Heap, hn = h ++ [⟨[], 1, y_int, true⟩] := ⟨_, rfl⟩
  have pn : h <+: hn := by rw [en]; exact List.prefix_append _ _
  have on : Own hn h.length hn.length 1 y_int (.slice (some ⟨h.length, 0, none⟩) 0 0) (ints ((M.take 0).map dcI)) := by
    rw [en]; exact Acc.new.own
  simp only [el0.1, el0.2, str_eq, e0, ln, h5', zeros, fillAt, ← en, decide_true, go_sem]
  refine w_for 3 (fun i t loc h' => h <+: h' ∧ t 0 = v ∧ t 6 = .int .i64 ((i + 1 : Nat) : Int) ∧ loc 4 = some [.string ⟨⟨[]⟩⟩, .bool false, .int .i64 0, .slice none 0 0, .int .i64 0, .int .i64 0] ∧ loc 2 = some [.string ⟨⟨[]⟩⟩, .bool false, .int .i64 0, .slice none 0 0, .int .i64 0, .int .i64 0] ∧ (∀ j, j < i → dcB (M.getD j noT) = true) ∧ ∃ w, t 5 = w ∧ Own h' h.length h'.length 1 y_int w (ints ((M.take i).map dcI))) ?_ ?_
  · exact ⟨pn, rfl, rfl, rfl, rfl, fun j hj => by omega, _, rfl, on⟩
  rintro i t loc h1 hi ⟨p1, t0, t6, l4, l2, hall, vn, t5, o1⟩
  simp only [t0, t6, go_sem]
  refine w_open (by simp only [go_sem]; rfl) ?_ ?_ <;> intro hc
  · have hi1 : i < 3 := by omega
    have hw : IntKind.i64.wrap (((i + 1 : Nat) : Int) + 1) = ((i + 1 + 1 : Nat) : Int) := by rw [w64 (by omega) (by omega)]; omega
    have el := tx_n (n := ((i + 1 : Nat) : Int)) (i := i + 1) rfl (r.up p1) (by omega)
    obtain ⟨x, hx⟩ : ∃ x, x = M.getD i noT := ⟨_, rfl⟩
    have hx2 : ws.getD (i + 1) noT = x := by rw [hx, hM]; exact (mid_at (by omega) hi1).symm
    rw [hx2] at el
    have hxm : x ∈ (ws.drop 1).take 3 := by rw [← hM, hx]; exact getD_mem (by omega)
    have ht : M.take (i + 1) = M.take i ++ [x] := by rw [hx]; exact take_getD (by omega)
    have cr := k_spec_ReadDecimal (X := X) (h := h1) (s := x)
    cases hb : dcB x with
    | false =>
      have hD : deedT ws = none := by unfold deedT; rw [← hw0, if_pos e0, if_neg (fun k => by have := k.2 x hxm; rw [hb] at this; cases this)]
      rw [hb] at cr
      simp only [t0, t5, t6, l4, l2, el.1, el.2, cr, go_sem]
      exact deedR_no p1 hD
    | true =>
      rw [hb] at cr
      obtain ⟨v2, h3, c2, q1, q2, o3⟩ := o1.push1 (pre_len p1) [.int .i64 (dcN x : Nat)] rfl (by rw [ints_len, List.length_map, List.length_take]; unfold lim; omega)
      rw [Nat.max_eq_right q1] at o3
      simp only [t0, t5, t6, l4, l2, el.1, el.2, cr, zeros, fillAt, c2, hw, go_sem]
      refine ⟨by omega, pre_push p1 (Nat.le_refl _) q1 q2, below_succ hall (by rw [← hx]; exact hb), v2, rfl, ?_⟩
      rw [ht, List.map_append]
      have e : ints (List.map dcI (M.take i) ++ List.map dcI [x]) = ints (List.map dcI (M.take i)) ++ [[.int .i64 (dcN x : Nat)]] := by simp [ints, dcI]
      rw [e]
      exact o3
  have hi3 : i = 3 := by omega
  rw [hi3, show M.take 3 = M by rw [← hM3, List.take_length], hm3] at o1
  rw [hi3] at hall
  have hall' : ∀ x ∈ (ws.drop 1).take 3, dcB x = true := fun x hx => by
    rw [← hM] at hx
    obtain ⟨j, hj, rfl⟩ := mem_getD (d := noT) hx
    exact hall j (by omega)
  have i0 := int_n (n := 0) (i := 0) rfl o1.rows (by simp)
  have i1 := int_n (n := 1) (i := 1) rfl o1.rows (by simp)
  have i2 := int_n (n := 2) (i := 2) rfl o1.rows (by simp)
  obtain ⟨x0, hx0⟩ : ∃ x, x = dcI (ws.getD 1 noT) := ⟨_, rfl⟩
  obtain ⟨x1, hx1⟩ : ∃ x, x = dcI (ws.getD 2 noT) := ⟨_, rfl⟩
  obtain ⟨x2, hx2⟩ : ∃ x, x = dcI (ws.getD 3 noT) := ⟨_, rfl⟩
  rw [show (List.map dcI [ws.getD 1 noT, ws.getD 2 noT, ws.getD 3 noT]).getD 0 0 = x0 from hx0.symm] at i0
  rw [show (List.map dcI [ws.getD 1 noT, ws.getD 2 noT, ws.getD 3 noT]).getD 1 0 = x1 from hx1.symm] at i1
  rw [show (List.map dcI [ws.getD 1 noT, ws.getD 2 noT, ws.getD 3 noT]).getD 2 0 = x2 from hx2.symm] at i2
  obtain ⟨v4, g4, r4⟩ := (r.up p1).fromN (n := 4) (i := 4) rfl (by omega)
  have el4 := tx_n (n := 0) (i := 0) rfl r4 (by rw [List.length_drop]; omega)
  rw [drop_getN] at el4
  obtain ⟨w4, hw4⟩ : ∃ w, w = ws.getD 4 noT := ⟨_, rfl⟩
  rw [← hw4] at el4
  have hw4z := hz w4 (by rw [hw4]; exact getD_mem (by omega))
  have ix : ixV (.string w4) (.int .i64 0) = some (.int .u8 (byt w4 0 : Nat)) := ix_byt (s := w4) (i := 0) hw4z.1
  by_cases k1 : KeepIs w4
  · have k1a : (byt w4 0 : Int) ≥ 48 := by have := k1.1; omega
    have k1b : (byt w4 0 : Int) ≤ 57 := by have := k1.2; omega
    obtain ⟨w, h3, cn3, v3, b3, rfl, p3, hb3, ho3⟩ := k_spec_l16Commas (X := X) (h := h1) (s := w4) (by omega)
    cases b3 with
    | false =>
      have hD : deedT ws = none := by
        unfold deedT
        rw [← hw0, if_pos e0, if_pos ⟨by omega, hall'⟩, ← hw4, if_pos k1, if_neg (fun k => by have := hb3.2 k; cases this)]
      simp only [t0, t5, l4, l2, i0.1, i0.2, i1.1, i1.2, i2.1, i2.2, g4, el4.1, el4.2, ix, k1a, k1b, cn3, List.prefix_refl, go_sem]
      exact deedR_no (p1.trans p3) hD
    | true =>
      have hall3 := hb3.1 rfl
      have o3 := ho3 rfl
      have o3' : Own h3 h.length h3.length 1 y_int v3 (ints ((splitC w4 44).map dcI)) := o3.wide (pre_len p1) (Nat.le_refl _)
      have hD : deedT ws = deedFin (ws.drop 5) true x0 ((splitC w4 44).map dcI) x1 x2 := by
        unfold deedT
        rw [← hw0, if_pos e0, if_pos ⟨by omega, hall'⟩, ← hw4, if_pos k1, if_pos hall3, hx0, hx1, hx2]
      obtain ⟨v5, g5, r5⟩ := (r4.up p3).fromN (n := 1) (i := 1) rfl (by rw [List.length_drop]; omega)
      rw [List.drop_drop] at r5
      have ct := k_spec_l16Ask (X := X) r5 (by rw [List.length_drop]; omega) (fun x hx => by have := (hz x (List.mem_of_mem_drop hx)).2; omega)
      unfold askWR at ct
      cases ha : askWT (ws.drop 5) with
      | none =>
        rw [ha] at ct
        simp only [t0, t5, l4, l2, i0.1, i0.2, i1.1, i1.2, i2.1, i2.2, g4, el4.1, el4.2, ix, k1a, k1b, cn3, o3.cells, g5, ct, Option.getD_none, Option.isSome_none, List.prefix_refl, go_sem]
        exact deedR_no (p1.trans p3) (by rw [hD]; unfold deedFin; rw [ha])
      | some t =>
        rw [ha] at ct
        have cd := k_spec_DeedOk (X := X) (h := h3) (kv := v3) (k := (splitC w4 44).map dcI) (t := t) (c := true) (s := x0) (n := x1) (p := x2) o3.rows
        simp only [t0, t5, l4, l2, i0.1, i0.2, i1.1, i1.2, i2.1, i2.2, g4, el4.1, el4.2, ix, k1a, k1b, cn3, o3.cells, g5, ct, cd, Option.getD_some, Option.isSome_some, List.prefix_refl, go_sem]
        exact deedR_fin (p1.trans p3) hD ha o3'
  · have hD : deedT ws = deedFin (ws.drop 4) true x0 [] x1 x2 := by
      unfold deedT
      rw [← hw0, if_pos e0, if_pos ⟨by omega, hall'⟩, ← hw4, if_neg k1, hx0, hx1, hx2]
    have ct := k_spec_l16Ask (X := X) r4 (by rw [List.length_drop]; omega) (fun x hx => by have := (hz x (List.mem_of_mem_drop hx)).2; omega)
    unfold askWR at ct
    have cd := fun t => k_spec_DeedOk (X := X) (h := h1) (kv := nilV) (k := []) (t := t) (c := true) (s := x0) (n := x1) (p := x2) Rows.nil
    by_cases k2 : 48 ≤ byt w4 0
    · have k2a : (byt w4 0 : Int) ≥ 48 := by omega
      have k2b : ¬ (byt w4 0 : Int) ≤ 57 := fun z => k1 ⟨k2, by omega⟩
      cases ha : askWT (ws.drop 4) with
      | none =>
        rw [ha] at ct
        simp only [t0, t5, l4, l2, i0.1, i0.2, i1.1, i1.2, i2.1, i2.2, g4, el4.1, el4.2, ix, k2a, k2b, ct, Option.getD_none, Option.isSome_none, List.prefix_refl, go_sem]
        exact deedR_no p1 (by rw [hD]; unfold deedFin; rw [ha])
      | some t =>
        rw [ha] at ct
        simp only [t0, t5, l4, l2, i0.1, i0.2, i1.1, i1.2, i2.1, i2.2, g4, el4.1, el4.2, ix, k2a, k2b, ct, cd, Option.getD_some, Option.isSome_some, List.prefix_refl, go_sem]
        exact deedR_fin p1 hD ha Own.nil
    · have k2a : ¬ (byt w4 0 : Int) ≥ 48 := by omega
      cases ha : askWT (ws.drop 4) with
      | none =>
        rw [ha] at ct
        simp only [t0, t5, l4, l2, i0.1, i0.2, i1.1, i1.2, i2.1, i2.2, g4, el4.1, el4.2, ix, k2a, ct, Option.getD_none, Option.isSome_none, List.prefix_refl, go_sem]
        exact deedR_no p1 (by rw [hD]; unfold deedFin; rw [ha])
      | some t =>
        rw [ha] at ct
        simp only [t0, t5, l4, l2, i0.1, i0.2, i1.1, i1.2, i2.1, i2.2, g4, el4.1, el4.2, ix, k2a, ct, cd, Option.getD_some, Option.isSome_some, List.prefix_refl, go_sem]
        exact deedR_fin p1 hD ha Own.nil
end
end Go.Proofs.YthfeahanmbmjhaaGreatDoor.Ab
set_option linter.unusedSimpArgs false
set_option linter.unusedVariables false
set_option linter.unnecessarySimpa false
set_option maxHeartbeats 4000000
namespace Go.Proofs.YthfeahanmbmjhaaGreatDoor.Ab
open Go.RowKit
/-- All that was read, well, in bytes. -/
def RdB (s : ByteArray) (p q : Nat × Bool) (l : List Int) : Prop := p.2 = false ∧ q.2 = false ∧ p.1 ≤ q.1 ∧ q.1 ≤ s.size ∧ segN s p.1 q.1 = l
section
variable {s x : ByteArray} {p q r : Nat × Bool} {l k : List Int} {m : List Pr}
theorem RdB.nil (h : p.2 = false) (hp : p.1 ≤ s.size) : RdB s p p [] := ⟨h, h, Nat.le_refl _, hp, segN_nil⟩
theorem RdB.trans (a : RdB s p q l) (b : RdB s q r k) : RdB s p r (l ++ k) := by
  obtain ⟨a1, a2, a3, a4, a5⟩ := a
  obtain ⟨b1, b2, b3, b4, b5⟩ := b
  exact ⟨a1, b2, by omega, b4, by rw [segN_append a3 b3, a5, b5]⟩
end
end Go.Proofs.YthfeahanmbmjhaaGreatDoor.Ab
set_option linter.unusedSimpArgs false
set_option linter.unusedVariables false
set_option linter.unnecessarySimpa false
set_option maxHeartbeats 4000000
namespace Go.Proofs.YthfeahanmbmjhaaGreatDoor.Ab
open Go.RowKit
def xr (a b : Int) : Int := IntKind.u32.wrap ((BitVec.ofInt 32 a ^^^ BitVec.ofInt 32 b).toNat : Int)
def U32 (x : Int) : Prop := 0 ≤ x ∧ x < 4294967296
theorem xr_rng {a b : Int} : U32 (xr a b) := by
  unfold xr U32
  rw [IntKind.wrap_u32]
  omega
theorem and1 {a : Int} (h : 0 ≤ a) : IntKind.u32.wrap ((BitVec.ofInt 32 a &&& BitVec.ofInt 32 1).toNat : Int) = a % 2 := by
  obtain ⟨n, rfl⟩ := Int.eq_ofNat_of_zero_le h
  rw [IntKind.wrap_u32]
  have e1 : BitVec.ofInt 32 (n : Int) = BitVec.ofNat 32 n := BitVec.ofInt_natCast ..
  rw [e1, show BitVec.ofInt 32 1 = BitVec.ofNat 32 1 from rfl, BitVec.toNat_and, BitVec.toNat_ofNat, BitVec.toNat_ofNat, show 1 % 2 ^ 32 = 1 from rfl, Nat.and_one_is_mod]
  omega
/-- One bit, eight bits, a text's bytes. -/
def bitS (x : Int) : Int := if x % 2 = 1 then xr (x / 2) 3558460437 else x / 2
def bitN (x : Int) : Nat → Int
  | 0 => x
  | n + 1 => bitS (bitN x n)
def sumB (s : ByteArray) (x : Int) : Nat → Int
  | 0 => x
  | i + 1 => bitN (xr (sumB s x i) (byt s i : Nat)) 8
theorem bitS_rng {x : Int} (h : U32 x) : U32 (bitS x) := by
  unfold bitS
  split
  · exact xr_rng
  · unfold U32 at *; omega
theorem bitN_rng {x : Int} (h : U32 x) : ∀ n, U32 (bitN x n)
  | 0 => h
  | n + 1 => bitS_rng (bitN_rng h n)
theorem sumB_rng {s : ByteArray} {x : Int} (h : U32 x) : ∀ n, U32 (sumB s x n)
  | 0 => h
  | _ + 1 => bitN_rng xr_rng 8
def sumOf (s : ByteArray) : Int := sumB s 4294967295 s.size
theorem sumOf_rng {s : ByteArray} : U32 (sumOf s) := sumB_rng ⟨by omega, by omega⟩ _
def fourL (x : Int) : List Int := [x / 16777216, x / 65536 % 256, x / 256 % 256, x % 256]
/-- A text and its sum. -/
def sealT (s : ByteArray) : ByteArray := s ++ strOfNums (fourL (sumOf s))
theorem four_size {x : Int} : (strOfNums (fourL x)).size = 4 := by
  rw [← ByteArray.size_data, ← Array.length_toList, strOfNums_data, List.length_map]
  rfl
end Go.Proofs.YthfeahanmbmjhaaGreatDoor.Ab
set_option linter.unusedSimpArgs false
set_option linter.unusedVariables false
set_option linter.unnecessarySimpa false
set_option maxHeartbeats 4000000
namespace Go.Proofs.YthfeahanmbmjhaaGreatDoor.Ab
open Go.RowKit
section
variable {X : CallF} {h : Heap} {s : ByteArray} {x : Int}
theorem xor_xr {a b : Int} : xorI .u32 a b = xr a b := rfl
theorem and_1 {a : Int} (h : 0 ≤ a) : andI .u32 a 1 = a % 2 := and1 h
theorem fdiv_2 {a : Int} : a.fdiv (2 ^ min 1 32) = a / 2 := Int.fdiv_eq_ediv_of_nonneg a (by decide)
theorem wu32 {a : Int} (h0 : 0 ≤ a) (h1 : a < 4294967296) : IntKind.u32.wrap a = a := by rw [IntKind.wrap_u32]; omega
theorem k_impl_SumMore (hx : U32 x) (hs : s.size ≤ lim) : C T X n_impl_SumMore [.int .u32 x, .string s] h = some (.int .u32 (sumB s x s.size), h) := by
  unfold lim at hs
  refine C_go t_impl_SumMore rfl ?_
  unfold F_impl_SumMore
  simp only [go_sem]
  refine w_for s.size (fun i t loc h' => h' = h ∧ t 1 = .string s ∧ t 8 = .int .i64 (s.size : Nat) ∧ t 9 = .int .i64 (i : Nat) ∧ t 0 = .int .u32 (sumB s x i)) ⟨rfl, rfl, rfl, rfl, rfl⟩ ?_
  rintro i t loc h' hi ⟨rfl, t1, t8, t9, t0⟩
  simp only [t8, t9, go_sem]
  refine w_open (by simp only [go_sem]; rfl) ?_ ?_ <;> intro hc
  · have hi1 : i < s.size := by omega
    have hw : IntKind.i64.wrap ((i : Int) + 1) = ((i + 1 : Nat) : Int) := w64 (by omega) (by omega)
    have hix := ix_byt hi1
    have hbl := byt_lt (s := s) (i := i)
    have hwb : IntKind.u32.wrap (byt s i : Int) = byt s i := wu32 (by omega) (by omega)
    obtain ⟨y, hy⟩ : ∃ y, y = xr (sumB s x i) (byt s i) := ⟨_, rfl⟩
    have hyr : U32 y := by rw [hy]; exact xr_rng
    have he : sumB s x (i + 1) = bitN y 8 := by rw [hy]; rfl
    simp only [t0, t1, hix, hwb, xor_xr, ← hy, go_sem]
    refine w_for 8 (fun k u lc g => g = h' ∧ u 1 = .string s ∧ u 8 = .int .i64 (s.size : Nat) ∧ u 9 = .int .i64 (i : Nat) ∧ u 0 = .int .u32 (bitN y k) ∧ u 18 = .int .i64 (k : Nat)) ⟨rfl, rfl, rfl, rfl, rfl, rfl⟩ ?_
    rintro k u lc g hk ⟨rfl, u1, u8, u9, u0, u18⟩
    simp only [u18, go_sem]
    have hwk : k < 8 → IntKind.i64.wrap ((k : Int) + 1) = ((k + 1 : Nat) : Int) := fun _ => w64 (by omega) (by omega)
    by_cases hc' : (k : Int) < 8
    · have hr := bitN_rng hyr k
      by_cases hb : bitN y k % 2 = 1
      · have e : bitN y (k + 1) = xr (bitN y k / 2) 3558460437 := by show bitS _ = _; unfold bitS; rw [if_pos hb]
        simp only [hc', u0, u1, u8, u9, u18, and_1 hr.1, fdiv_2, hb, xor_xr, hwk (by omega), go_sem]
        exact ⟨by omega, e.symm ▸ rfl⟩
      · have e : bitN y (k + 1) = bitN y k / 2 := by show bitS _ = _; unfold bitS; rw [if_neg hb]
        simp only [hc', u0, u1, u8, u9, u18, and_1 hr.1, fdiv_2, hb, xor_xr, hwk (by omega), go_sem]
        exact ⟨by omega, e.symm ▸ rfl⟩
    · have : k = 8 := by omega
      subst this
      simp only [hc', u0, u1, u8, u9, hw, go_sem]
      exact ⟨hi1, he ▸ rfl⟩
  · have : i = s.size := by omega
    subst this
    simp only [t0, go_sem]
theorem k_spec_SumMore (hx : U32 x) (hs : s.size ≤ lim) : C T X n_spec_SumMore [.int .u32 x, .string s] h = some (.int .u32 (sumB s x s.size), h) := by
  unfold lim at hs
  refine C_go t_spec_SumMore rfl ?_
  unfold F_spec_SumMore
  simp only [go_sem]
  refine w_for s.size (fun i t loc h' => h' = h ∧ t 1 = .string s ∧ t 5 = .int .i64 (i : Nat) ∧ t 0 = .int .u32 (sumB s x i)) ⟨rfl, rfl, rfl, rfl⟩ ?_
  rintro i t loc h' hi ⟨rfl, t1, t5, t0⟩
  simp only [t1, t5, go_sem]
  refine w_open (by simp only [go_sem]; rfl) ?_ ?_ <;> intro hc
  · have hi1 : i < s.size := by omega
    have hw : IntKind.i64.wrap ((i : Int) + 1) = ((i + 1 : Nat) : Int) := w64 (by omega) (by omega)
    have hix := ix_byt hi1
    have hbl := byt_lt (s := s) (i := i)
    have hwb : IntKind.u32.wrap (byt s i : Int) = byt s i := wu32 (by omega) (by omega)
    obtain ⟨y, hy⟩ : ∃ y, y = xr (sumB s x i) (byt s i) := ⟨_, rfl⟩
    have hyr : U32 y := by rw [hy]; exact xr_rng
    have he : sumB s x (i + 1) = bitN y 8 := by rw [hy]; rfl
    simp only [t0, t1, t5, hix, hwb, xor_xr, ← hy, go_sem]
    refine w_for 8 (fun k u lc g => g = h' ∧ u 1 = .string s ∧ u 5 = .int .i64 (i : Nat) ∧ u 0 = .int .u32 (bitN y k) ∧ u 6 = .int .i64 (k : Nat)) ⟨rfl, rfl, rfl, rfl, rfl⟩ ?_
    rintro k u lc g hk ⟨rfl, u1, u5, u0, u6⟩
    simp only [u6, go_sem]
    have hwk : k < 8 → IntKind.i64.wrap ((k : Int) + 1) = ((k + 1 : Nat) : Int) := fun _ => w64 (by omega) (by omega)
    have hr := bitN_rng hyr k
    have hr' := hr
    unfold U32 at hr'
    have hm : (bitN y k).tmod 2 = bitN y k % 2 := Int.tmod_eq_emod_of_nonneg hr'.1
    have hd : (bitN y k).tdiv 2 = bitN y k / 2 := Int.tdiv_eq_ediv_of_nonneg hr'.1
    have hwd : IntKind.u32.wrap (bitN y k / 2) = bitN y k / 2 := wu32 (by omega) (by omega)
    by_cases hc' : (k : Int) < 8
    · by_cases hb : bitN y k % 2 = 1
      · have e : bitN y (k + 1) = xr (bitN y k / 2) 3558460437 := by show bitS _ = _; unfold bitS; rw [if_pos hb]
        simp only [hc', u0, u1, u5, u6, hm, hd, hwd, hb, xor_xr, hwk (by omega), go_sem]
        exact ⟨by omega, e.symm ▸ rfl⟩
      · have e : bitN y (k + 1) = bitN y k / 2 := by show bitS _ = _; unfold bitS; rw [if_neg hb]
        simp only [hc', u0, u1, u5, u6, hm, hd, hwd, hb, xor_xr, hwk (by omega), go_sem]
        exact ⟨by omega, e.symm ▸ rfl⟩
    · have : k = 8 := by omega
      subst this
      simp only [hc', u0, u1, u5, u6, hw, go_sem]
      exact ⟨hi1, he ▸ rfl⟩
  · have : i = s.size := by omega
    subst this
    simp only [t0, go_sem]
theorem k_impl_SumOf (hs : s.size ≤ lim) : C T X n_impl_SumOf [.string s] h = some (.int .u32 (sumOf s), h) := by
  have c := k_impl_SumMore (X := X) (h := h) (x := 4294967295) (s := s) ⟨by omega, by omega⟩ hs
  refine C_go t_impl_SumOf rfl ?_
  unfold F_impl_SumOf
  simp only [c, List.prefix_refl, go_sem]
  rfl
theorem k_spec_SumOf (hs : s.size ≤ lim) : C T X n_spec_SumOf [.string s] h = some (.int .u32 (sumOf s), h) := by
  have c := k_spec_SumMore (X := X) (h := h) (x := 4294967295) (s := s) ⟨by omega, by omega⟩ hs
  refine C_go t_spec_SumOf rfl ?_
  unfold F_spec_SumOf
  simp only [c, List.prefix_refl, go_sem]
  rfl
theorem sh24 {a : Int} (h : U32 a) : a.fdiv (2 ^ min 24 32) % 256 = a / 16777216 := by
  have e : a.fdiv (2 ^ min 24 32) = a / 16777216 := Int.fdiv_eq_ediv_of_nonneg a (by decide)
  unfold U32 at h
  rw [e]
  omega
theorem sh16 {a : Int} : a.fdiv (2 ^ min 16 32) % 256 = a / 65536 % 256 := by
  have e : a.fdiv (2 ^ min 16 32) = a / 65536 := Int.fdiv_eq_ediv_of_nonneg a (by decide)
  rw [e]
theorem sh8 {a : Int} : a.fdiv (2 ^ min 8 32) % 256 = a / 256 % 256 := by
  have e : a.fdiv (2 ^ min 8 32) = a / 256 := Int.fdiv_eq_ediv_of_nonneg a (by decide)
  rw [e]
theorem sh0 {a : Int} : IntKind.u8.wrap a = a % 256 := IntKind.wrap_u8 ..
theorem str4 {a b c d : Int} : strLV 4 (some [.int .u8 a, .int .u8 b, .int .u8 c, .int .u8 d]) = some (.string (strOfNums [a, b, c, d])) := rfl
theorem k_spec_l02Four (hx : U32 x) : C T X n_spec_l02Four [.int .u32 x] h = some (.string (strOfNums (fourL x)), h) := by
  refine C_go t_spec_l02Four rfl ?_
  unfold F_spec_l02Four
  simp only [sh24 hx, sh16, sh8, sh0, str4, go_sem]
  rfl
def sealV (s : ByteArray) : Value := if s.size ≤ 8000 then .tuple ⟨[.string (sealT s), .bool true]⟩ else .tuple ⟨[.string noT, .bool false]⟩
theorem k_impl_Sealed (hs : s.size ≤ lim) : C T X n_impl_Sealed [.string s] h = some (sealV s, h) := by
  have c := k_impl_SumOf (X := X) (h := h) hs
  have hr := sumOf_rng (s := s)
  unfold lim at hs
  refine C_go t_impl_Sealed rfl ?_
  unfold F_impl_Sealed sealV
  by_cases hc : s.size ≤ 8000
  · have hc' : ¬ (s.size : Int) > 8000 := by omega
    have hz : s.size + (strOfNums (fourL (sumOf s))).size ≤ 9223372036854775807 := by rw [four_size]; omega
    rw [if_pos hc]
    unfold fourL at hz
    simp only [hc', c, sh24 hr, sh16, sh8, sh0, str4, hz, List.prefix_refl, go_sem]
    try rfl
  · have hc' : (s.size : Int) > 8000 := by omega
    rw [if_neg hc]
    simp only [hc', go_sem]
    try rfl
theorem k_spec_Sealed (hs : s.size ≤ lim) : C T X n_spec_Sealed [.string s] h = some (sealV s, h) := by
  have c := k_spec_SumOf (X := X) (h := h) hs
  have c2 := k_spec_l02Four (X := X) (h := h) (sumOf_rng (s := s))
  unfold lim at hs
  refine C_go t_spec_Sealed rfl ?_
  unfold F_spec_Sealed sealV
  by_cases hc : s.size ≤ 8000
  · have hc' : ¬ (s.size : Int) > 8000 := by omega
    have hz : s.size + (strOfNums (fourL (sumOf s))).size ≤ 9223372036854775807 := by rw [four_size]; omega
    rw [if_pos hc]
    simp only [hc', c, c2, hz, List.prefix_refl, go_sem]
    try rfl
  · have hc' : (s.size : Int) > 8000 := by omega
    rw [if_neg hc]
    simp only [hc', go_sem]
    try rfl
end
end Go.Proofs.YthfeahanmbmjhaaGreatDoor.Ab
set_option linter.unusedSimpArgs false
set_option linter.unusedVariables false
set_option linter.unnecessarySimpa false
set_option maxHeartbeats 4000000
namespace Go.Proofs.YthfeahanmbmjhaaGreatDoor.Ab
open Go.RowKit
/-- What a new store tells: whether there is one. -/
def StoreR (h : Heap) (n : Int) (w : Value) (hh : Heap) : Prop := ∃ a b c d e : Value, w = .tuple ⟨[.agg ⟨[a, b, c, d, e]⟩, .bool (decide (4 ≤ n ∧ n ≤ 400))]⟩ ∧ h <+: hh
def noDev : Value := .tuple ⟨[.agg ⟨[nilV, nilV]⟩, .bool false]⟩
section
variable {X : CallF} {h : Heap} {n : Int}
theorem k_impl_DeviceNew {n : Nat} (hn : 1 ≤ n ∧ n ≤ 400) : C T X n_impl_DeviceNew [.int .i64 (n : Nat)] h = some (.tuple ⟨[.agg ⟨[.slice (some ⟨h.length, 0, none⟩) n n, nilV]⟩, .bool true]⟩, h ++ [⟨zeros [.string ⟨⟨[]⟩⟩] n, 1, y_string, true⟩]) := by
  refine C_go t_impl_DeviceNew rfl ?_
  unfold F_impl_DeviceNew
  have hi : (decide ((1 : Int) ≤ (n : Int)) && decide ((n : Int) ≤ 400)) = true := by simp; omega
  have hmk := mkW_ok (h := h) (sz := 1) (ty := y_string) (z := [.string ⟨⟨[]⟩⟩]) (n := n) (by unfold lim; omega)
  simp only [k_impl_in, hi, hmk, go_sem]
  exact finish_deep rfl
theorem k_spec_DeviceNew {n : Nat} (hn : 1 ≤ n ∧ n ≤ 400) : C T X n_spec_DeviceNew [.int .i64 (n : Nat)] h = some (.tuple ⟨[.agg ⟨[.slice (some ⟨h.length, 0, none⟩) n n, nilV]⟩, .bool true]⟩, h ++ [⟨zeros [.string ⟨⟨[]⟩⟩] n, 1, y_string, true⟩]) := by
  refine C_go t_spec_DeviceNew rfl ?_
  unfold F_spec_DeviceNew
  have hi : (decide ((1 : Int) ≤ (n : Int)) && decide ((n : Int) ≤ 400)) = true := by simp; omega
  have hmk := mkW_ok (h := h) (sz := 1) (ty := y_string) (z := [.string ⟨⟨[]⟩⟩]) (n := n) (by unfold lim; omega)
  simp only [k_spec_l01In, hi, hmk, go_sem]
  exact finish_deep rfl
theorem k_spec_DeviceNo (hn : ¬ (1 ≤ n ∧ n ≤ 400)) : C T X n_spec_DeviceNew [.int .i64 n] h = some (noDev, h) := by
  refine C_go t_spec_DeviceNew rfl ?_
  unfold F_spec_DeviceNew noDev
  have hi : (decide ((1 : Int) ≤ n) && decide (n ≤ 400)) = false := by simp; omega
  simp only [k_spec_l01In, hi, go_sem]
theorem dev_own {n : Nat} : Own (h ++ [⟨zeros [.string ⟨⟨[]⟩⟩] n, 1, y_string, true⟩]) h.length (List.length (h ++ ([⟨zeros [.string ⟨⟨[]⟩⟩] n, 1, y_string, true⟩] : Heap))) 1 y_string (.slice (some ⟨h.length, 0, none⟩) n n) (texts (List.replicate n noT)) := by
  rw [zeros_texts]
  have := (Acc.made (h := h) (ty := y_string) (rws := texts (List.replicate n noT)) (map_row txR_len)).own
  rw [List.length_map, List.length_replicate] at this
  exact this
theorem k_spec_l06Big {k : Nat} (hk : k ≤ 8) : ∃ s : ByteArray, s.size = k ∧ C T X n_spec_l06Big [.int .i64 0, .int .i64 (k : Nat)] h = some (.string s, h) := by
  have : ∃ w hh, C T X n_spec_l06Big [.int .i64 0, .int .i64 (k : Nat)] h = some (w, hh) ∧ ∃ s : ByteArray, s.size = k ∧ w = .string s ∧ hh = h := by
    refine C_ex t_spec_l06Big rfl ?_
    unfold F_spec_l06Big
    simp only [go_sem]
    refine w_for k (fun i t loc h' => h' = h ∧ t 0 = .int .i64 0 ∧ t 1 = .int .i64 (k : Nat) ∧ t 6 = .int .i64 (i : Nat) ∧ ∃ s : ByteArray, t 5 = .string s ∧ s.size = i) ⟨rfl, rfl, rfl, rfl, _, rfl, rfl⟩ ?_
    rintro i t loc h1 hi ⟨rfl, t0, t1, t6, s, t5, hs⟩
    simp only [t1, t6, go_sem]
    refine w_open (by simp only [go_sem]; rfl) ?_ ?_ <;> intro hc
    · have hi1 : i < k := by omega
      have hw : IntKind.i64.wrap ((i : Int) + 1) = ((i + 1 : Nat) : Int) := w64 (by omega) (by omega)
      have st : strLV 1 (some [.int .u8 0]) = some (.string (strOfNums [0])) := rfl
      have hz : (strOfNums [0]).size + s.size ≤ 9223372036854775807 := by rw [strOfNums_size]; simp only [List.length_cons, List.length_nil]; omega
      have hm : IntKind.u8.wrap (Int.tmod 0 256) = 0 := by decide
      have hd : Int.tdiv 0 256 = 0 := by decide
      simp only [t0, t1, t5, t6, hm, hd, st, hz, hw, go_sem]
      exact ⟨by omega, by decide, _, rfl, by rw [ByteArray.size_append, strOfNums_size]; simp only [List.length_cons, List.length_nil]; omega⟩
    · have : i = k := by omega
      simp only [t5, go_sem]
      exact ⟨s, by omega, rfl⟩
  obtain ⟨w, hh, c, s, h1, rfl, rfl⟩ := this
  exact ⟨s, h1, c⟩
theorem k_impl_RootText : ∃ s : ByteArray, C T X n_impl_RootText [.agg ⟨[.int .i64 0, .int .i64 (-1)]⟩] h = some (.tuple ⟨[.string s, .bool true]⟩, h) := by
  obtain ⟨s, hs⟩ : ∃ s : ByteArray, s = ⟨⟨[82]⟩⟩ ++ strOfNums [0, 0, 0, 0, 0, 0] := ⟨_, rfl⟩
  have hz : s.size ≤ 8000 := by rw [hs]; decide
  refine ⟨sealT s, ?_⟩
  refine C_go t_impl_RootText rfl ?_
  unfold F_impl_RootText
  have c := k_impl_Sealed (X := X) (h := h) (s := s) (by unfold lim; omega)
  unfold sealV at c
  rw [if_pos hz] at c
  have st : strLV 6 (some [.int .u8 0, .int .u8 0, .int .u8 0, .int .u8 0, .int .u8 0, .int .u8 0]) = some (.string (strOfNums [0, 0, 0, 0, 0, 0])) := rfl
  have hz2 : (⟨[82]⟩ : Array UInt8).size + (strOfNums [0, 0, 0, 0, 0, 0]).size ≤ 9223372036854775807 := by decide
  have f1 : IntKind.u8.wrap (Int.fdiv 0 (2 ^ min 24 64)) = 0 := by decide
  have f2 : IntKind.u8.wrap (Int.fdiv 0 (2 ^ min 16 64)) = 0 := by decide
  have f3 : IntKind.u8.wrap (Int.fdiv 0 (2 ^ min 8 64)) = 0 := by decide
  have f4 : IntKind.u8.wrap 0 = 0 := by decide
  have f5 : IntKind.i64.wrap (-1 + 1) = 0 := by decide
  simp only [k_impl_in, f1, f2, f3, f4, f5, st, hz2, ← hs, c, List.prefix_refl, go_sem]
theorem k_spec_RootText : ∃ s : ByteArray, C T X n_spec_RootText [.agg ⟨[.int .i64 0, .int .i64 (-1)]⟩] h = some (.tuple ⟨[.string s, .bool true]⟩, h) := by
  obtain ⟨s4, z4, c4⟩ := k_spec_l06Big (X := X) (h := h) (k := 4) (by omega)
  obtain ⟨s2, z2, c2⟩ := k_spec_l06Big (X := X) (h := h) (k := 2) (by omega)
  obtain ⟨s, hs⟩ : ∃ s : ByteArray, s = (⟨⟨[82]⟩⟩ : ByteArray) ++ s4 ++ s2 := ⟨_, rfl⟩
  have e1 : (⟨⟨[82]⟩⟩ : ByteArray).size = 1 := rfl
  have hz : s.size ≤ 8000 := by rw [hs, ByteArray.size_append, ByteArray.size_append, e1]; omega
  refine ⟨sealT s, ?_⟩
  refine C_go t_spec_RootText rfl ?_
  unfold F_spec_RootText
  have c := k_spec_Sealed (X := X) (h := h) (s := s) (by unfold lim; omega)
  unfold sealV at c
  rw [if_pos hz] at c
  have hz2 : (⟨[82]⟩ : Array UInt8).size + s4.size ≤ 9223372036854775807 := by have : (⟨[82]⟩ : Array UInt8).size = 1 := rfl; omega
  have hz3 : (⟨[82]⟩ : Array UInt8).size + s4.size + s2.size ≤ 9223372036854775807 := by have : (⟨[82]⟩ : Array UInt8).size = 1 := rfl; omega
  have f5 : IntKind.i64.wrap (-1 + 1) = 0 := by decide
  have c4' : C T X n_spec_l06Big [.int .i64 0, .int .i64 4] h = some (.string s4, h) := c4
  have c2' : C T X n_spec_l06Big [.int .i64 0, .int .i64 2] h = some (.string s2, h) := c2
  simp only [k_spec_l01In, f5, c4', c2', hz2, hz3, ← hs, c, List.prefix_refl, go_sem]
theorem k_impl_FormatStore : ∃ w hh, C T X n_impl_FormatStore [.int .i64 n] h = some (w, hh) ∧ StoreR h n w hh := by
  refine C_ex t_impl_FormatStore rfl ?_
  unfold F_impl_FormatStore
  by_cases hn : 4 ≤ n ∧ n ≤ 400
  rotate_left
  · have hi : (decide ((4 : Int) ≤ n) && decide (n ≤ 400)) = false := by simp; omega
    simp only [k_impl_in, hi, go_sem]
    exact ⟨_, _, _, _, _, by rw [decide_eq_false hn], List.prefix_refl _⟩
  have hi : (decide ((4 : Int) ≤ n) && decide (n ≤ 400)) = true := by simp; omega
  obtain ⟨m, rfl⟩ := Int.eq_ofNat_of_zero_le (by omega : 0 ≤ n)
  have cd := k_impl_DeviceNew (X := X) (h := h) (n := m) (by omega)
  obtain ⟨h1, e1⟩ : ∃ h1 : Heap, h1 = h ++ [⟨zeros [.string ⟨⟨[]⟩⟩] m, 1, y_string, true⟩] := ⟨_, rfl⟩
  have o1 := dev_own (h := h) (n := m)
  rw [← e1] at cd o1
  have p1 : h <+: h1 := by rw [e1]; exact List.prefix_append _ _
  obtain ⟨s, cr⟩ := k_impl_RootText (X := X) (h := h1)
  have ia : iaV h1 1 (.slice (some ⟨h.length, 0, none⟩) m m) (.int .i64 0) = some (elemP (.slice (some ⟨h.length, 0, none⟩) m m) 1 0 0) := (tx_n (n := 0) (i := 0) rfl o1.rows (by rw [List.length_replicate]; omega)).1
  obtain ⟨h2, s1, s2, s3⟩ := o1.stx (i := 0) (by rw [List.length_replicate]; omega) s
  simp only [k_impl_in, hi, cd, cr, ia, s1, List.prefix_refl, go_sem]
  obtain ⟨h3, e3, p3, _⟩ := finish_cases (v := .tuple ⟨[.agg ⟨[.slice (some ⟨h.length, 0, none⟩) m m, .slice none 0 0, .slice none 0 0, .int .i64 0, .int .i64 (-1)]⟩, .bool true]⟩) (s2.pre p1 (Nat.le_refl _))
  rw [e3]
  exact ⟨_, _, _, _, _, by rw [decide_eq_true hn], p3⟩
theorem k_spec_FormatStore : ∃ w hh, C T X n_spec_FormatStore [.int .i64 n] h = some (w, hh) ∧ StoreR h n w hh := by
  refine C_ex t_spec_FormatStore rfl ?_
  unfold F_spec_FormatStore
  by_cases hd : 1 ≤ n ∧ n ≤ 400
  rotate_left
  · have cd := k_spec_DeviceNo (X := X) (h := h) hd
    unfold noDev at cd
    simp only [cd, List.prefix_refl, go_sem]
    exact ⟨_, _, _, _, _, by rw [decide_eq_false (fun k => by omega)], List.prefix_refl _⟩
  obtain ⟨m, rfl⟩ := Int.eq_ofNat_of_zero_le (by omega : 0 ≤ n)
  have cd := k_spec_DeviceNew (X := X) (h := h) (n := m) (by omega)
  obtain ⟨h1, e1⟩ : ∃ h1 : Heap, h1 = h ++ [⟨zeros [.string ⟨⟨[]⟩⟩] m, 1, y_string, true⟩] := ⟨_, rfl⟩
  have o1 := dev_own (h := h) (n := m)
  rw [← e1] at cd o1
  have p1 : h <+: h1 := by rw [e1]; exact List.prefix_append _ _
  by_cases hn : (m : Int) < 4
  · simp only [cd, hn, List.prefix_refl, go_sem]
    obtain ⟨h3, e3, p3, _⟩ := finish_cases (v := .tuple ⟨[.agg ⟨[.slice none 0 0, .slice none 0 0, .slice none 0 0, .int .i64 0, .int .i64 0]⟩, .bool false]⟩) p1
    rw [e3]
    exact ⟨_, _, _, _, _, by rw [decide_eq_false (fun k => by omega)], p3⟩
  obtain ⟨s, cr⟩ := k_spec_RootText (X := X) (h := h1)
  have ia : iaV h1 1 (.slice (some ⟨h.length, 0, none⟩) m m) (.int .i64 0) = some (elemP (.slice (some ⟨h.length, 0, none⟩) m m) 1 0 0) := (tx_n (n := 0) (i := 0) rfl o1.rows (by rw [List.length_replicate]; omega)).1
  obtain ⟨h2, s1, s2, s3⟩ := o1.stx (i := 0) (by rw [List.length_replicate]; omega) s
  simp only [cd, hn, cr, ia, s1, List.prefix_refl, go_sem]
  obtain ⟨h3, e3, p3, _⟩ := finish_cases (v := .tuple ⟨[.agg ⟨[.slice (some ⟨h.length, 0, none⟩) m m, .slice none 0 0, .slice none 0 0, .int .i64 0, .int .i64 (-1)]⟩, .bool true]⟩) (s2.pre p1 (Nat.le_refl _))
  rw [e3]
  exact ⟨_, _, _, _, _, by rw [decide_eq_true (by omega)], p3⟩
end
end Go.Proofs.YthfeahanmbmjhaaGreatDoor.Ab
set_option linter.unusedSimpArgs false
set_option linter.unusedVariables false
set_option linter.unnecessarySimpa false
set_option maxHeartbeats 4000000
namespace Go.Proofs.YthfeahanmbmjhaaGreatDoor.Ab
open Go.RowKit
def ddRowAt (vs : List Value) (gs : List Dd) (i : Nat) : List Value := ddRow (gs.getD i dd0) (vs.getD i nilV)
abbrev ddRows (vs : List Value) (gs : List Dd) : List (List Value) := (List.range gs.length).map (ddRowAt vs gs)
def RowsD (h : Heap) (v : Value) (gs : List Dd) : Prop := ∃ vs, Rows h 6 v (ddRows vs gs) ∧ ∀ i, i < gs.length → Rows h 1 (vs.getD i nilV) (ints (gs.getD i dd0).k)
structure OwnDs (h : Heap) (lo hi : Nat) (ty : TypeId) (v : Value) (gs : List Dd) (vs : List Value) : Prop where
  out : Own h lo hi 6 ty v (ddRows vs gs)
  ins : ∀ i, i < gs.length → Own h lo hi 1 y_int (vs.getD i nilV) (ints (gs.getD i dd0).k)
  so : ∀ i, i < gs.length → Sep v (vs.getD i nilV)
  si : ∀ i j, i < j → j < gs.length → Sep (vs.getD i nilV) (vs.getD j nilV)
def OwnD (h : Heap) (lo hi : Nat) (ty : TypeId) (v : Value) (gs : List Dd) : Prop := ∃ vs, OwnDs h lo hi ty v gs vs
section
variable {h h' : Heap} {lo hi lo' hi' : Nat} {ty : TypeId} {v : Value} {gs : List Dd}
theorem RowsD.up (o : RowsD h v gs) (hp : h <+: h') : RowsD h' v gs := by
  obtain ⟨vs, h1, h2⟩ := o
  exact ⟨vs, h1.up hp, fun i hi => (h2 i hi).up hp⟩
theorem RowsD.ln (o : RowsD h v gs) : lnV h v = some (.int .i64 gs.length) := by
  obtain ⟨vs, h1, h2⟩ := o
  rw [h1.ln, List.length_map, List.length_range]
theorem RowsD.el (o : RowsD h v gs) {i : Nat} (hi : i < gs.length) : ∃ x, iaV h 6 v (.int .i64 (i : Int)) = some (elemP v 6 i 0) ∧ (∀ o k, faV h (elemP v 6 i o) k = some (elemP v 6 i (o + k))) ∧ ldC h (elemP v 6 i 0) 6 = some (ddRow (gs.getD i dd0) x) ∧
    (∀ o, o < 6 → ldC h (elemP v 6 i o) 1 = some [(ddRow (gs.getD i dd0) x).getD o undef]) ∧ Rows h 1 x (ints (gs.getD i dd0).k) := by
  obtain ⟨vs, h1, h2⟩ := o
  have hr : i < (List.range gs.length).length := by simpa using hi
  have e := h1.el (f := ddRowAt vs gs) 0 hr
  have c := fun o ho => h1.cell (f := ddRowAt vs gs) 0 hr (o := o) ho
  rw [range_getD hi] at e c
  exact ⟨vs.getD i nilV, e.1, e.2.1, e.2.2, c, h2 i hi⟩
theorem OwnD.rows (o : OwnD h lo hi ty v gs) : RowsD h v gs := by
  obtain ⟨vs, h1, h2, _, _⟩ := o
  exact ⟨vs, h1.rows, fun i hi => (h2 i hi).rows⟩
theorem OwnD.up (o : OwnD h lo hi ty v gs) (hp : h <+: h') : OwnD h' lo hi ty v gs := by
  obtain ⟨vs, h1, h2, h3, h4⟩ := o
  exact ⟨vs, h1.up hp, fun i hi => (h2 i hi).up hp, h3, h4⟩
theorem OwnD.wide (o : OwnD h lo hi ty v gs) (k1 : lo' ≤ lo) (k2 : hi ≤ hi') : OwnD h lo' hi' ty v gs := by
  obtain ⟨vs, h1, h2, h3, h4⟩ := o
  exact ⟨vs, h1.wide k1 k2, fun i hi => (h2 i hi).wide k1 k2, h3, h4⟩
theorem OwnD.same (o : OwnD h lo hi ty v gs) (a : Same lo' hi' h h') (hd : hi ≤ lo' ∨ hi' ≤ lo) : OwnD h' lo hi ty v gs := by
  obtain ⟨vs, h1, h2, h3, h4⟩ := o
  exact ⟨vs, h1.same a hd, fun i hi => (h2 i hi).same a hd, h3, h4⟩
end
section
variable {h h' : Heap} {lo hi lo2 hi2 : Nat} {ty : TypeId} {v w : Value} {gs : List Dd} {d : Dd}
theorem OwnD.norm (o : OwnD h lo hi ty v gs) : ∃ vs : List Value, vs.length = gs.length ∧ OwnDs h lo hi ty v gs vs := by
  obtain ⟨vs, h1, h2, h3, h4⟩ := o
  have e : ∀ i, i < gs.length → ((List.range gs.length).map fun j => vs.getD j nilV).getD i nilV = vs.getD i nilV := fun i hi => by simp [hi]
  refine ⟨(List.range gs.length).map fun j => vs.getD j nilV, by simp, ?_, fun i hi => by rw [e i hi]; exact h2 i hi, fun i hi => by rw [e i hi]; exact h3 i hi, fun i j hij hj => by rw [e i (by omega), e j hj]; exact h4 i j hij hj⟩
  have : ddRows ((List.range gs.length).map fun j => vs.getD j nilV) gs = ddRows vs gs := by
    unfold ddRows
    apply List.map_congr_left
    intro i hi
    have hi' : i < gs.length := by simpa using hi
    unfold ddRowAt
    rw [e i hi']
  rw [this]
  exact h1
theorem ddRows_push {vs : List Value} (hv : vs.length = gs.length) : ddRows (vs ++ [w]) (gs ++ [d]) = ddRows vs gs ++ [ddRow d w] := by
  unfold ddRows
  rw [List.length_append, List.length_singleton, List.range_succ, List.map_append]
  congr 1
  · apply List.map_congr_left
    intro i hi
    have hi' : i < gs.length := by simpa using hi
    unfold ddRowAt
    have e1 : (vs ++ [w]).getD i nilV = vs.getD i nilV := by simp [List.getElem?_append_left (show i < vs.length by omega)]
    have e2 : (gs ++ [d]).getD i dd0 = gs.getD i dd0 := by simp [List.getElem?_append_left hi']
    rw [e1, e2]
  · unfold ddRowAt
    have e1 : (vs ++ [w]).getD gs.length nilV = w := by rw [← hv]; simp
    have e2 : (gs ++ [d]).getD gs.length dd0 = d := by simp
    simp only [List.map_cons, List.map_nil]
    rw [e1, e2]
theorem OwnD.push (o : OwnD h lo hi ty v gs) (hlo : lo ≤ h.length) (hhi : hi ≤ h.length) (q : Own h lo2 hi2 1 y_int w (ints d.k)) (hll : lo ≤ lo2) (hd : hi ≤ lo2) (hd2 : hi2 ≤ h.length) (hl : gs.length < lim) :
    ∃ v' h', appLW h 6 ty 1 v (some (ddRow d w)) = some (v', h') ∧ h.length ≤ h'.length ∧ (∀ b, b < lo → h'[b]? = h[b]?) ∧ OwnD h' lo h'.length ty v' (gs ++ [d]) := by
  obtain ⟨vs, hvl, h2, h3, h4, h5⟩ := o.norm
  have hwsepv : Sep v w := h2.sep q (.inl hd)
  have hws : ∀ i, i < gs.length → Sep (vs.getD i nilV) w := fun i hi => (h3 i hi).sep q (.inl hd)
  obtain ⟨v', h', e, g, b, c, o'⟩ := push_is h2 hlo [ddRow d w] (fun r hr => by rw [List.mem_singleton.1 hr]; rfl) (by simp) (by simp; omega)
  simp only [List.flatten_cons, List.flatten_nil, List.append_nil, List.length_cons, List.length_nil, Nat.zero_add] at e
  have same : ∀ {x : Value} {rr : List (List Value)} {p r : Nat}, Own h p r 1 y_int x rr → r ≤ h.length → Sep v x → Own h' p r 1 y_int x rr := by
    intro x rr p r ox hr hs
    refine ⟨ox.len, ?_⟩
    rcases ox.is with hn | ⟨c, l1, l2, rfl, hc⟩
    · exact .inl hn
    · exact .inr ⟨c, l1, l2, rfl, by rw [b c (by omega) (by simp only [Sep, tlo, thi] at hs ⊢; omega)]; exact hc⟩
  have hv'sep : ∀ {x : Value}, Sep v x → (x = nilV ∨ thi x ≤ h.length) → Sep v' x := by
    intro x hs hx
    rcases c with ⟨rfl, c1, c2, c3⟩ | ⟨_, _, c2, c3⟩
    · rcases hx with rfl | hx
      · exact sep_nil
      · exact .inr (by omega)
    · unfold Sep at hs ⊢; omega
  have hwin : w = nilV ∨ thi w ≤ h.length := by
    rcases q.within with h | ⟨_, h, _⟩
    · exact .inl h
    · exact .inr (by omega)
  have hlv : lo ≤ tlo v' := by
    rcases c with ⟨_, c1, _⟩ | ⟨hv, _, c2, _⟩
    · omega
    · rcases h2.within with k | k
      · exact absurd k hv
      · omega
  have hnz : thi v' ≤ h'.length ∧ tlo v' < thi v' := by
    rcases c with ⟨_, c1, c2, c3⟩ | ⟨hv, c1, c2, c3⟩
    · omega
    · rcases h2.within with k | k
      · exact absurd k hv
      · omega
  refine ⟨v', h', e, g, fun x hx => b x (by omega) ?_, vs ++ [w], ?_, fun i hi' => ?_, fun i hi' => ?_, fun i j hij hj => ?_⟩
  · rcases h2.within with rfl | ⟨k1, k2, _⟩
    · exact .inr (Nat.zero_le _)
    · exact .inl (by omega)
  · rw [ddRows_push hvl]
    exact o'.wide (by omega) hnz.1
  · by_cases hil : i < gs.length
    · have e1 : (vs ++ [w]).getD i nilV = vs.getD i nilV := by simp [List.getElem?_append_left (show i < vs.length by omega)]
      have e2 : (gs ++ [d]).getD i dd0 = gs.getD i dd0 := by simp [List.getElem?_append_left hil]
      rw [e1, e2]
      exact (same (h3 i hil) hhi (h4 i hil)).wide (Nat.le_refl _) (by omega)
    · have hil : i = gs.length := by simp at hi'; omega
      subst hil
      have e1 : (vs ++ [w]).getD gs.length nilV = w := by rw [← hvl]; simp
      have e2 : (gs ++ [d]).getD gs.length dd0 = d := by simp
      rw [e1, e2]
      exact (same q hd2 hwsepv).wide hll (by omega)
  · by_cases hil : i < gs.length
    · have e1 : (vs ++ [w]).getD i nilV = vs.getD i nilV := by simp [List.getElem?_append_left (show i < vs.length by omega)]
      rw [e1]
      refine hv'sep (h4 i hil) ?_
      rcases (h3 i hil).within with h | ⟨_, h, _⟩
      · exact .inl h
      · exact .inr (by omega)
    · have hil : i = gs.length := by simp at hi'; omega
      subst hil
      have e1 : (vs ++ [w]).getD gs.length nilV = w := by rw [← hvl]; simp
      rw [e1]
      exact hv'sep hwsepv hwin
  · have hil : i < gs.length := by simp at hj; omega
    have e1 : (vs ++ [w]).getD i nilV = vs.getD i nilV := by simp [List.getElem?_append_left (show i < vs.length by omega)]
    rw [e1]
    by_cases hjl : j < gs.length
    · have e2 : (vs ++ [w]).getD j nilV = vs.getD j nilV := by simp [List.getElem?_append_left (show j < vs.length by omega)]
      rw [e2]
      exact h5 i j hij hjl
    · have hjl : j = gs.length := by simp at hj; omega
      subst hjl
      have e2 : (vs ++ [w]).getD gs.length nilV = w := by rw [← hvl]; simp
      rw [e2]
      exact hws i hil
theorem OwnD.nil : OwnD h lo hi ty nilV [] := ⟨[], Own.nil, fun i hi => (by simp at hi), fun i hi => (by simp at hi), fun i j _ hi => (by simp at hi)⟩
theorem OwnD.cells' (o : OwnD h lo hi ty v gs) : cellsOf v = some [v] := by obtain ⟨vs, o, _⟩ := o; exact o.cells
end
end Go.Proofs.YthfeahanmbmjhaaGreatDoor.Ab
set_option linter.unusedSimpArgs false
set_option linter.unusedVariables false
set_option linter.unnecessarySimpa false
set_option maxHeartbeats 4000000
namespace Go.Proofs.YthfeahanmbmjhaaGreatDoor.Ab
open Go.RowKit
abbrev kHall : ByteArray := ⟨⟨[104, 97, 108, 108]⟩⟩
def HallIs (ws : List ByteArray) : Prop := ws.length = 2 ∧ ws.getD 0 noT = kHall ∧ dcB (ws.getD 1 noT) = true ∧ 4 ≤ dcI (ws.getD 1 noT) ∧ dcI (ws.getD 1 noT) ≤ 400
open Classical in
/-- One more line: none where it is at fault. -/
noncomputable def lineStep (st : Int × List Dd) (line : ByteArray) : Option (Int × List Dd) :=
  if ¬ LineOk line then none
  else if wordsL line = [] ∨ byt ((wordsL line).getD 0 noT) 0 = 35 then some st
  else if st.1 = 0 then (if HallIs (wordsL line) then some (dcI ((wordsL line).getD 1 noT), st.2) else none)
  else match deedT (wordsL line) with
    | none => none
    | some d => if 40 ≤ st.2.length then none else some (st.1, st.2 ++ [d])
noncomputable def scrGo : List ByteArray → Nat → Int × List Dd → Int × List Dd × Int
  | [], _, st => if st.1 = 0 then (0, [], 1) else (st.1, st.2, 0)
  | l :: ls, i, st => match lineStep st l with
    | none => (0, [], ((i + 1 : Nat) : Int))
    | some st' => scrGo ls (i + 1) st'
/-- What a script is. -/
noncomputable def scrT (s : ByteArray) : Int × List Dd × Int := if 6000 < s.size ∨ 60 < (linesL s).length then (0, [], -1) else scrGo (linesL s) 0 (0, [])
theorem scrGo_some {ls : List ByteArray} {i : Nat} {st st' : Int × List Dd} (hi : i < ls.length) (h : lineStep st (ls.getD i noT) = some st') : scrGo (ls.drop i) i st = scrGo (ls.drop (i + 1)) (i + 1) st' := by
  rw [drop_getD (d := noT) hi, scrGo, h]
theorem scrGo_none {ls : List ByteArray} {i : Nat} {st : Int × List Dd} (hi : i < ls.length) (h : lineStep st (ls.getD i noT) = none) : scrGo (ls.drop i) i st = (0, [], ((i + 1 : Nat) : Int)) := by
  rw [drop_getD (d := noT) hi, scrGo, h]
theorem scrGo_end {ls : List ByteArray} {st : Int × List Dd} : scrGo (ls.drop ls.length) ls.length st = if st.1 = 0 then (0, [], 1) else (st.1, st.2, 0) := by rw [List.drop_length]; rfl
/-- What a read script tells. -/
def ScrR (h : Heap) (r : Int × List Dd × Int) (w : Value) (hh : Heap) : Prop := ∃ v : Value, w = .tuple ⟨[.int .i64 r.1, v, .int .i64 r.2.2]⟩ ∧ h <+: hh ∧ OwnD hh h.length hh.length y_Deed v r.2.1
theorem OwnD.zero {h : Heap} {lo hi : Nat} {ty : TypeId} {v : Value} (o : Own h lo hi 6 ty v []) : OwnD h lo hi ty v [] := ⟨[], o, fun i hi => (by simp at hi), fun i hi => (by simp at hi), fun i j _ hi => (by simp at hi)⟩
theorem OwnD.cells {h : Heap} {lo hi : Nat} {ty : TypeId} {v : Value} {gs : List Dd} (o : OwnD h lo hi ty v gs) : cellsOf v = some [v] ∧ live v = true := by
  obtain ⟨vs, o1, _⟩ := o
  exact ⟨o1.cells, o1.live⟩
theorem scrR_fin {h hh : Heap} {r : Int × List Dd × Int} {a b : Int} {v : Value} {ds : List Dd} (p : h <+: hh) (e : r = (a, ds, b)) (o : OwnD hh h.length hh.length y_Deed v ds) : ScrR h r (finish h (.tuple ⟨[.int .i64 a, v, .int .i64 b]⟩, hh)).1 (finish h (.tuple ⟨[.int .i64 a, v, .int .i64 b]⟩, hh)).2 := by
  obtain ⟨h2, e2, p2, hc⟩ := finish_cases (v := .tuple ⟨[.int .i64 a, v, .int .i64 b]⟩) p
  rw [e2, e]
  refine ⟨v, rfl, p2, ?_⟩
  rcases hc with rfl | ⟨hf, rfl⟩
  · exact o
  · obtain ⟨vs, o1, o3⟩ := o
    rcases o1.is with ⟨q1, q2⟩ | ⟨b, _, _, q, _⟩
    · have : ds = [] := by
        have := congrArg List.length q2
        rw [List.length_map, List.length_range] at this
        exact List.length_eq_zero_iff.1 this
      rw [q1, this]
      exact OwnD.nil
    · rw [q] at hf
      simp [flat, flat1, prim] at hf
section
variable {X : CallF} {h : Heap} {v : Value} {ws : List ByteArray}
open Classical in
theorem k_impl_hall [LibS X] (r : Rows h 1 v (texts ws)) (hz : ∀ x ∈ ws, x.size ≤ 1000) : ∃ w hh, C T X n_impl_hall [v] h = some (w, hh) ∧ ∃ n, w = .tuple ⟨[.int .i64 n, .bool (decide (HallIs ws))]⟩ ∧ h <+: hh ∧ (HallIs ws → n = dcI (ws.getD 1 noT)) := by
  refine C_ex t_impl_hall rfl ?_
  unfold F_impl_hall
  have ln : lnV h v = some (.int .i64 (ws.length : Nat)) := r.lnm
  by_cases h2 : ws.length = 2
  rotate_left
  · have h2' : ¬ ((ws.length : Nat) : Int) = 2 := by omega
    simp only [ln, h2', go_sem]
    have : ¬ HallIs ws := fun k => h2 k.1
    exact ⟨0, by rw [decide_eq_false this], List.prefix_refl _, fun k => absurd k this⟩
  have h2' : ((ws.length : Nat) : Int) = 2 := by omega
  have el0 := tx_n (n := 0) (i := 0) rfl r (by omega)
  have el1 := tx_n (n := 1) (i := 1) rfl r (by omega)
  by_cases e0 : ws.getD 0 noT = kHall
  rotate_left
  · simp only [ln, h2', el0.1, el0.2, str_eq, e0, go_sem]
    have : ¬ HallIs ws := fun k => e0 k.2.1
    exact ⟨0, by rw [decide_eq_false this], List.prefix_refl _, fun k => absurd k this⟩
  have cr := k_impl_ReadDecimal (X := X) (h := h) (s := ws.getD 1 noT) (by have := hz _ (getD_mem (d := noT) (show 1 < ws.length by omega)); omega)
  obtain ⟨n, hn⟩ : ∃ n, n = dcI (ws.getD 1 noT) := ⟨_, rfl⟩
  have hn' : (dcN (ws.getD 1 noT) : Int) = n := by rw [hn]; rfl
  rw [hn'] at cr
  obtain ⟨w, h1, cf, a, b, c, d, e, rfl, p1⟩ := k_impl_FormatStore (X := X) (h := h) (n := n)
  have hk : HallIs ws ↔ dcB (ws.getD 1 noT) = true ∧ (4 ≤ n ∧ n ≤ 400) := by rw [hn]; exact ⟨fun k => ⟨k.2.2.1, k.2.2.2⟩, fun k => ⟨h2, e0, k.1, k.2⟩⟩
  cases hb : dcB (ws.getD 1 noT) with
  | false =>
    rw [hb] at cr hk
    have hno : ¬ HallIs ws := fun k => by have := (hk.1 k).1; cases this
    simp only [ln, h2', el0.1, el0.2, el1.1, el1.2, str_eq, e0, cr, cf, List.prefix_refl, decide_true, go_sem]
    obtain ⟨h3, e3, p3, _⟩ := finish_cases (v := .tuple ⟨[.int .i64 n, .bool false]⟩) p1
    rw [e3]
    exact ⟨n, by rw [decide_eq_false hno], p3, fun k => absurd k hno⟩
  | true =>
    rw [hb] at cr hk
    have he : decide (HallIs ws) = decide (4 ≤ n ∧ n ≤ 400) := decide_eq_decide.2 (by rw [hk]; exact ⟨fun k => k.2, fun k => ⟨rfl, k⟩⟩)
    simp only [ln, h2', el0.1, el0.2, el1.1, el1.2, str_eq, e0, cr, cf, List.prefix_refl, decide_true, go_sem]
    obtain ⟨h3, e3, p3, _⟩ := finish_cases (v := .tuple ⟨[.int .i64 n, .bool (decide (4 ≤ n ∧ n ≤ 400))]⟩) p1
    rw [e3]
    exact ⟨n, by rw [he], p3, fun k => hn⟩
end
end Go.Proofs.YthfeahanmbmjhaaGreatDoor.Ab
set_option linter.unusedSimpArgs false
set_option linter.unusedVariables false
set_option linter.unnecessarySimpa false
set_option maxHeartbeats 4000000
namespace Go.Proofs.YthfeahanmbmjhaaGreatDoor.Ab
open Go.RowKit
section
variable {st : Int × List Dd} {l : ByteArray}
theorem step_bad (h : ¬ LineOk l) : lineStep st l = none := by unfold lineStep; rw [if_pos h]
theorem step_skip (h : LineOk l) (k : wordsL l = [] ∨ byt ((wordsL l).getD 0 noT) 0 = 35) : lineStep st l = some st := by unfold lineStep; rw [if_neg (fun z => z h), if_pos k]
theorem step_hall (h : LineOk l) (k : ¬ (wordsL l = [] ∨ byt ((wordsL l).getD 0 noT) 0 = 35)) (h0 : st.1 = 0) (hh : HallIs (wordsL l)) : lineStep st l = some (dcI ((wordsL l).getD 1 noT), st.2) := by
  unfold lineStep; rw [if_neg (fun z => z h), if_neg k, if_pos h0, if_pos hh]
theorem step_hall_no (h : LineOk l) (k : ¬ (wordsL l = [] ∨ byt ((wordsL l).getD 0 noT) 0 = 35)) (h0 : st.1 = 0) (hh : ¬ HallIs (wordsL l)) : lineStep st l = none := by
  unfold lineStep; rw [if_neg (fun z => z h), if_neg k, if_pos h0, if_neg hh]
theorem step_deed {d : Dd} (h : LineOk l) (k : ¬ (wordsL l = [] ∨ byt ((wordsL l).getD 0 noT) 0 = 35)) (h0 : ¬ st.1 = 0) (hd : deedT (wordsL l) = some d) (hl : ¬ 40 ≤ st.2.length) : lineStep st l = some (st.1, st.2 ++ [d]) := by
  unfold lineStep; rw [if_neg (fun z => z h), if_neg k, if_neg h0, hd]
  simp only [if_neg hl]
theorem step_deed_no (h : LineOk l) (k : ¬ (wordsL l = [] ∨ byt ((wordsL l).getD 0 noT) 0 = 35)) (h0 : ¬ st.1 = 0) (hd : deedT (wordsL l) = none) : lineStep st l = none := by
  unfold lineStep; rw [if_neg (fun z => z h), if_neg k, if_neg h0, hd]
theorem step_deed_many {d : Dd} (h : LineOk l) (k : ¬ (wordsL l = [] ∨ byt ((wordsL l).getD 0 noT) 0 = 35)) (h0 : ¬ st.1 = 0) (hd : deedT (wordsL l) = some d) (hl : 40 ≤ st.2.length) : lineStep st l = none := by
  unfold lineStep; rw [if_neg (fun z => z h), if_neg k, if_neg h0, hd]
  simp only [if_pos hl]
theorem line_size {s x : ByteArray} (h : x ∈ linesL s) : x.size ≤ s.size := by
  unfold linesL at h
  split at h
  · exact split_size h
  · exact pcs_size _ h
end
section
variable {X : CallF} {h : Heap} {s : ByteArray}
theorem k_impl_ReadScript [LibS X] (hs : s.size ≤ 1048576) : ∃ w hh, C T X n_impl_ReadScript [.string s] h = some (w, hh) ∧ ScrR h (scrT s) w hh := by
  refine C_ex t_impl_ReadScript rfl ?_
  unfold F_impl_ReadScript
  obtain ⟨v1, h1, c1, p1, r1⟩ := k_impl_linesOf (X := X) (h := h) hs
  obtain ⟨L, hL⟩ : ∃ L, L = linesL s := ⟨_, rfl⟩
  rw [← hL] at r1
  have ln1 : lnV h1 v1 = some (.int .i64 (L.length : Nat)) := r1.lnm
  by_cases a1 : 6000 < s.size
  · have a1' : (s.size : Int) > 6000 := by omega
    simp only [c1, a1', go_sem]
    exact scrR_fin p1 (by unfold scrT; rw [if_pos (.inl a1)]) OwnD.nil
  have a1' : ¬ (s.size : Int) > 6000 := by omega
  by_cases a2 : 60 < L.length
  · have a2' : (L.length : Int) > 60 := by omega
    simp only [c1, a1', ln1, a2', go_sem]
    exact scrR_fin p1 (by unfold scrT; rw [if_pos (.inr (by rw [← hL]; exact a2))]) OwnD.nil
  have a2' : ¬ (L.length : Int) > 60 := by omega
  have hT : scrGo (L.drop 0) 0 (0, []) = scrT s := by unfold scrT; rw [if_neg (by rw [← hL]; omega), ← hL]; rfl
  simp only [c1, a1', ln1, a2', go_sem]
  refine w_for L.length (fun i t loc h' => h1 <+: h' ∧ t 26 = v1 ∧ t 27 = .int .i64 (L.length : Nat) ∧ t 28 = .int .i64 (i : Nat) ∧ ∃ (sec : Int) (vd : Value) (ds : List Dd), t 6 = .int .i64 sec ∧ t 7 = vd ∧ ds.length ≤ 40 ∧ OwnD h' h1.length h'.length y_Deed vd ds ∧ scrGo (L.drop i) i (sec, ds) = scrT s) ⟨List.prefix_refl _, rfl, rfl, rfl, 0, _, [], rfl, rfl, by simp, OwnD.nil, hT⟩ ?_
  rintro i t loc h2 hi ⟨p2, t26, t27, t28, sec, vd, ds, t6, t7, hds, o, hgo⟩
  simp only [t27, t28, go_sem]
  refine w_open (by simp only [go_sem]; rfl) ?_ ?_ <;> intro hc
  · have hi1 : i < L.length := by omega
    have hw : IntKind.i64.wrap ((i : Int) + 1) = ((i + 1 : Nat) : Int) := w64 (by omega) (by omega)
    have hwf : IntKind.i64.wrap ((i : Int) + 1) = ((i + 1 : Nat) : Int) := hw
    have el := tx_n (n := (i : Int)) (i := i) rfl (r1.up p2) hi1
    obtain ⟨x, hx⟩ : ∃ x, x = L.getD i noT := ⟨_, rfl⟩
    have hxs : x.size ≤ s.size := by
      have : x ∈ linesL s := by rw [hx, ← hL]; exact getD_mem hi1
      exact line_size this
    rw [← hx] at el
    obtain ⟨w, h3, c3, v3, b3, rfl, p3, hb3, ho3⟩ := k_impl_PartsOf (X := X) (h := h2) (s := x) (by omega)
    have q3 : h <+: h3 := p1.trans (p2.trans p3)
    cases b3 with
    | false =>
      have hno : ¬ LineOk x := fun k => by have := hb3.2 k; cases this
      have hr : scrT s = (0, [], ((i + 1 : Nat) : Int)) := by rw [← hgo]; exact scrGo_none hi1 (by rw [← hx]; exact step_bad hno)
      simp only [t6, t7, t26, t27, t28, el.1, el.2, c3, hwf, go_sem]
      exact scrR_fin q3 hr OwnD.nil
    | true =>
      have hok := hb3.1 rfl
      have r3 := ho3 hok
      obtain ⟨ws, hws⟩ : ∃ ws, ws = wordsL x := ⟨_, rfl⟩
      rw [← hws] at r3
      have hwl : ws.length ≤ 8 := by rw [hws]; exact hok.2.2
      have hwz : ∀ y ∈ ws, 0 < y.size ∧ y.size ≤ 1000 := fun y hy => by
        rw [hws] at hy
        have := wrd_size hy
        have := hok.1
        omega
      have ln3 : lnV h3 v3 = some (.int .i64 (ws.length : Nat)) := r3.lnm
      have o3 := o.up p3
      have skip : (wordsL x = [] ∨ byt ((wordsL x).getD 0 noT) 0 = 35) → scrGo (L.drop (i + 1)) (i + 1) (sec, ds) = scrT s := fun k => by
        rw [← scrGo_some hi1 (by rw [← hx]; exact step_skip hok k), hgo]
      by_cases e0 : ws.length = 0
      · have e0' : ((ws.length : Nat) : Int) = 0 := by omega
        simp only [t6, t7, t26, t27, t28, el.1, el.2, c3, ln3, e0', hw, go_sem]
        exact ⟨hi1, p2.trans p3, sec, vd, ds, rfl, rfl, hds, o3.wide (Nat.le_refl _) (pre_len p3), skip (.inl (by rw [← hws]; exact List.length_eq_zero_iff.1 e0))⟩
      have e0' : ¬ ((ws.length : Nat) : Int) = 0 := by omega
      have el0 := tx_n (n := 0) (i := 0) rfl r3 (by omega)
      obtain ⟨w0, hw0⟩ : ∃ w, w = ws.getD 0 noT := ⟨_, rfl⟩
      rw [← hw0] at el0
      have hw0z := hwz w0 (by rw [hw0]; exact getD_mem (by omega))
      have ix : ixV (.string w0) (.int .i64 0) = some (.int .u8 (byt w0 0 : Nat)) := ix_byt (s := w0) (i := 0) hw0z.1
      by_cases e1 : byt w0 0 = 35
      · have e1' : (byt w0 0 : Int) = 35 := by omega
        simp only [t6, t7, t26, t27, t28, el.1, el.2, c3, ln3, e0', el0.1, el0.2, ix, e1', hw, go_sem]
        exact ⟨hi1, p2.trans p3, sec, vd, ds, rfl, rfl, hds, o3.wide (Nat.le_refl _) (pre_len p3), skip (.inr (by rw [← hws, ← hw0]; exact e1))⟩
      have e1' : ¬ (byt w0 0 : Int) = 35 := by omega
      have hk : ¬ (wordsL x = [] ∨ byt ((wordsL x).getD 0 noT) 0 = 35) := by
        rw [← hws, ← hw0]
        rintro (k | k)
        · exact e0 (by rw [k]; rfl)
        · exact e1 k
      by_cases e2 : sec = 0
      · obtain ⟨w, h4, c4, n, rfl, p4, hn⟩ := k_impl_hall (X := X) r3 (fun y hy => (hwz y hy).2)
        by_cases e3 : HallIs ws
        · have o4 := o3.up p4
          have hn' := hn e3
          simp only [e3, decide_true] at c4
          simp only [t6, t7, t26, t27, t28, el.1, el.2, c3, ln3, e0', el0.1, el0.2, ix, e1', e2, c4, hw, go_sem]
          refine ⟨hi1, p2.trans (p3.trans p4), n, vd, ds, rfl, rfl, hds, o4.wide (Nat.le_refl _) (by have := pre_len p3; have := pre_len p4; omega), ?_⟩
          rw [← hgo, scrGo_some hi1 (by rw [← hx]; exact step_hall hok hk e2 (by rw [← hws]; exact e3)), ← hws, hn']
        · simp only [e3, decide_false] at c4
          have hr : scrT s = (0, [], ((i + 1 : Nat) : Int)) := by rw [← hgo]; exact scrGo_none hi1 (by rw [← hx]; exact step_hall_no hok hk e2 (by rw [← hws]; exact e3))
          simp only [t6, t7, t26, t27, t28, el.1, el.2, c3, ln3, e0', el0.1, el0.2, ix, e1', e2, c4, hwf, go_sem]
          exact scrR_fin (q3.trans p4) hr OwnD.nil
      obtain ⟨w, h4, c4, d, kv, b4, rfl, p4, hb4, ho4⟩ := k_impl_deed (X := X) r3 (by omega) (by omega) hwz
      unfold ddRow at c4
      cases hD : deedT ws with
      | none =>
        have hb : b4 = false := by
          cases b4 with
          | false => rfl
          | true => have := hb4.1 rfl; rw [hD] at this; cases this
        rw [hb] at c4
        have hr : scrT s = (0, [], ((i + 1 : Nat) : Int)) := by rw [← hgo]; exact scrGo_none hi1 (by rw [← hx]; exact step_deed_no hok hk e2 (by rw [← hws]; exact hD))
        simp only [t6, t7, t26, t27, t28, el.1, el.2, c3, ln3, e0', el0.1, el0.2, ix, e1', e2, c4, hwf, go_sem]
        exact scrR_fin (q3.trans p4) hr OwnD.nil
      | some D =>
        have hb : b4 = true := hb4.2 (by rw [hD]; rfl)
        obtain ⟨rfl, ok⟩ := ho4 D hD
        rw [hb] at c4
        have o4 := o3.up p4
        have lnd : lnV h4 vd = some (.int .i64 (ds.length : Nat)) := o4.rows.ln
        have cd := o4.cells
        by_cases e4 : 40 ≤ ds.length
        · have e4' : (ds.length : Int) ≥ 40 := by omega
          have hr : scrT s = (0, [], ((i + 1 : Nat) : Int)) := by rw [← hgo]; exact scrGo_none hi1 (by rw [← hx]; exact step_deed_many hok hk e2 (by rw [← hws]; exact hD) e4)
          simp only [t6, t7, t26, t27, t28, el.1, el.2, c3, ln3, e0', el0.1, el0.2, ix, e1', e2, c4, lnd, e4', hwf, go_sem]
          exact scrR_fin (q3.trans p4) hr OwnD.nil
        · have e4' : ¬ (ds.length : Int) ≥ 40 := by omega
          have l2 := pre_len p2
          have l3 := pre_len p3
          have l4 := pre_len p4
          obtain ⟨v5, h5, c5, g5, b5, o5⟩ := o4.push (by omega) (by omega) ok (by omega) (by omega) (Nat.le_refl _) (by unfold lim; omega)
          unfold ddRow at c5
          simp only [t6, t7, t26, t27, t28, el.1, el.2, c3, ln3, e0', el0.1, el0.2, ix, e1', e2, c4, lnd, e4', c5, hw, go_sem]
          refine ⟨hi1, pre_of_get (by omega) (fun b hb => by rw [b5 b hb]; exact get_of_pre (p2.trans (p3.trans p4)) hb), sec, v5, ds ++ [d], rfl, rfl, by simp; omega, o5, ?_⟩
          rw [← hgo, scrGo_some hi1 (by rw [← hx]; exact step_deed hok hk e2 (by rw [← hws]; exact hD) e4)]
  · have hin : i = L.length := by omega
    rw [hin, scrGo_end] at hgo
    by_cases e2 : sec = 0
    · rw [if_pos e2] at hgo
      simp only [t6, t7, e2, go_sem]
      exact scrR_fin (p1.trans p2) hgo.symm OwnD.nil
    · rw [if_neg e2] at hgo
      simp only [t6, t7, e2, o.cells.2, go_sem]
      exact scrR_fin (p1.trans p2) hgo.symm (o.wide (pre_len p1) (Nat.le_refl _))
end
end Go.Proofs.YthfeahanmbmjhaaGreatDoor.Ab
