/- Joined: K32, H8, R9, H9, H11, K50, K51. No conditions. -/
import Derived.Test.YtjgacjidaeahdaaGreatDoorM15
import Derived.Test.YtjgacjidaeahdaaGreatDoorM16
import Derived.Test.YtjgacjidaeahdaaGreatDoorM12
set_option linter.unusedSimpArgs false
set_option linter.unusedVariables false
set_option linter.unnecessarySimpa false
set_option maxHeartbeats 4000000
namespace Go.Proofs.YtjgacjidaeahdaaGreatDoor.Ab
open Go.RowKit
theorem catV_two {s : ByteArray} {l m : List Int} : catV s (l ++ m) = catV (catV s l) m := by simp [catV, List.foldl_append]
theorem catV_to {a : ByteArray} {l m : List Int} : catV a l ++ catV noT m = catV a (l ++ m) := by rw [catV_from, catV_two]
def numsE (es : List E) : List Int := es.flatMap fun e => [e.a, e.b, e.w1, e.w2, e.w3]
def numsC (m : List Cp) : List Int := m.flatMap fun c => [c.a, c.b]
def numsG (gs : List Gp) : List Int := gs.flatMap fun g => (g.ms.length : Int) :: (g.ms ++ [g.z])
def certN (size : Int) (es : List E) (m : List Cp) (ys : List Int) (gs : List Gp) : List Int :=
  size :: (es.length : Int) :: (numsE es ++ ((m.length : Int) :: (numsC m ++ (ys ++ ((gs.length : Int) :: numsG gs)))))
def certT (size : Int) (es : List E) (m : List Cp) (ys : List Int) (gs : List Gp) : ByteArray := catV noT (certN size es m ys gs)
theorem take_snocD {α : Type} {d : α} {l : List α} {i : Nat} (hi : i < l.length) : l.take (i + 1) = l.take i ++ [l.getD i d] := by
  rw [List.take_add_one, List.getElem?_eq_getElem hi, List.getD_eq_getElem?_getD, List.getElem?_eq_getElem hi]
  rfl
theorem numsE_snoc {es : List E} {i : Nat} (hi : i < es.length) : numsE (es.take (i + 1)) = numsE (es.take i) ++ [(es.getD i e0).a, (es.getD i e0).b, (es.getD i e0).w1, (es.getD i e0).w2, (es.getD i e0).w3] := by
  rw [take_snocD (d := e0) hi]; unfold numsE; rw [List.flatMap_append]; rfl
theorem numsC_snoc {m : List Cp} {i : Nat} (hi : i < m.length) : numsC (m.take (i + 1)) = numsC (m.take i) ++ [(m.getD i c0).a, (m.getD i c0).b] := by
  rw [take_snocD (d := c0) hi]; unfold numsC; rw [List.flatMap_append]; rfl
theorem numsG_snoc {gs : List Gp} {i : Nat} (hi : i < gs.length) : numsG (gs.take (i + 1)) = numsG (gs.take i) ++ (((gs.getD i g0).ms.length : Int) :: ((gs.getD i g0).ms ++ [(gs.getD i g0).z])) := by
  rw [take_snocD (d := g0) hi]; unfold numsG; rw [List.flatMap_append]; simp
def certV (size : Int) (ev mv yv gv : Value) : Value := .agg ⟨[.int .i64 size, ev, mv, yv, gv]⟩
section
variable {X : CallF} {h : Heap} {ev yv gv mv : Value} {ys : List Int} {gs : List Gp} {es : List E} {m : List Cp} {size : Int}
theorem numsE_len : (numsE es).length = 5 * es.length := by
  unfold numsE
  induction es with
  | nil => rfl
  | cons e es ih => rw [List.flatMap_cons, List.length_append, ih, List.length_cons]; simp; omega
theorem numsC_len : (numsC m).length = 2 * m.length := by
  unfold numsC
  induction m with
  | nil => rfl
  | cons e m ih => rw [List.flatMap_cons, List.length_append, ih, List.length_cons]; simp; omega
theorem numsG_len (hb : ∀ g ∈ gs, g.ms.length ≤ 1048576) : (numsG gs).length ≤ 1048578 * gs.length := by
  unfold numsG
  induction gs with
  | nil => exact Nat.le_refl _
  | cons e gs ih =>
    have := ih fun g hg => hb g (List.mem_cons_of_mem _ hg)
    have := hb e List.mem_cons_self
    rw [List.flatMap_cons, List.length_append, List.length_cons]
    simp only [List.length_cons, List.length_append, List.length_nil]
    omega
theorem fitV {l m : List Int} (h : l.length + m.length ≤ 100000000000000) : (catV noT l).size + (catV noT m).size ≤ 9223372036854775807 := by
  have h1 := catV_size (s := noT) (l := l)
  have h2 := catV_size (s := noT) (l := m)
  have h3 : noT.size = 0 := rfl
  omega
theorem gok_every {size : Int} {es : List E} (g : GOk size es) : ∀ e ∈ es, EOk size e := fun e he => by
  obtain ⟨i, hi, rfl⟩ := mem_getD (d := e0) he
  exact (g.2 i hi).1
theorem var1 {n : Int} (h0 : 0 ≤ n) (h1 : n ≤ 1000000000) : C T X n_spec_l01Var [.int .i64 n] h = some (.string (catV noT [n]), h) := by
  have e : catV noT [n] = vt n := by
    show noT ++ vt n = vt n
    exact ByteArray.empty_append
  rw [e]
  exact k_spec_l01Var' h0 h1
open Classical in
theorem k_spec_CertText (he : Rows h 5 ev (edges es)) (hm : Rows h 2 mv (cps m)) (hy : Rows h 1 yv (ints ys)) (hg : RowsG h gv gs) (hl : es.length ≤ lim) (hml : m.length ≤ 1048576) (hb : PfBnd ys gs) :
    C T X n_spec_CertText [certV size ev mv yv gv] h = some (.tuple ⟨[.string (if CertOk size es m ys gs then certT size es m ys gs else noT), .bool (decide (CertOk size es m ys gs))]⟩, h) := by
  have hc := k_spec_Certifies (X := X) (size := size) he hm hy hg hl hml hb
  refine C_go t_spec_CertText rfl ?_
  unfold F_spec_CertText certV
  unfold graphV proofV at hc
  by_cases g : CertOk size es m ys gs
  rotate_left
  · rw [if_neg g]
    simp only [hc, g, go_sem]
  rw [if_pos g]
  have hgo := g.1.1.1
  have hsz := hgo.1
  have hE := gok_every hgo
  have hel := gok_len hgo
  unfold lim at hl
  have vs := var1 (X := X) (h := h) (n := size) (by omega) (by omega)
  have vn := var1 (X := X) (h := h) (n := (es.length : Int)) (by omega) (by omega)
  have ft := fitV (l := [size]) (m := [(es.length : Int)]) (by simp)
  simp only [hc, g, he.lnm, vs, vn, catV_to, ft, List.prefix_refl, List.cons_append, List.nil_append, go_sem]
  obtain ⟨A, hA⟩ : ∃ A : List Int, A = [size, (es.length : Int)] := ⟨_, rfl⟩
  rw [← hA]
  have hAl : A.length = 2 := by rw [hA]; rfl
  refine w_for es.length (fun i t loc h' => h' = h ∧ loc 1 = some [.int .i64 size, ev, mv, yv, gv] ∧ t 5 = .int .i64 i ∧ t 4 = .string (catV noT (A ++ numsE (es.take i)))) ⟨rfl, rfl, rfl, by rw [List.take_zero]; unfold numsE; rw [List.flatMap_nil, List.append_nil]; rfl⟩ ?_
  rintro i t loc h' hi ⟨rfl, l1, t5, t4⟩
  simp only [l1, t5, he.lnm, go_sem]
  refine w_open (by simp only [go_sem]; rfl) ?_ ?_ <;> intro hc
  · have hi1 : i < es.length := by omega
    have hw : IntKind.i64.wrap ((i : Int) + 1) = ((i + 1 : Nat) : Int) := w64 (by omega) (by omega)
    have el := edge_el he hi1
    have q := hE _ (getD_mem (d := e0) hi1)
    obtain ⟨e, hee⟩ : ∃ e, e = es.getD i e0 := ⟨_, rfl⟩
    have sn := numsE_snoc hi1
    rw [← hee] at el q sn
    unfold EOk at q
    have v1 := var1 (X := X) (h := h') (n := e.a) (by omega) (by omega)
    have v2 := var1 (X := X) (h := h') (n := e.b) (by omega) (by omega)
    have v3 := var1 (X := X) (h := h') (n := e.w1) (by omega) (by omega)
    have v4 := var1 (X := X) (h := h') (n := e.w2) (by omega) (by omega)
    have v5 := var1 (X := X) (h := h') (n := e.w3) (by omega) (by omega)
    obtain ⟨L, hL⟩ : ∃ L : List Int, L = A ++ numsE (es.take i) := ⟨_, rfl⟩
    have hLl : L.length ≤ 100000 := by rw [hL, List.length_append, numsE_len, List.length_take]; omega
    rw [← hL] at t4
    have f1 := fitV (l := L) (m := [e.a]) (by simp; omega)
    have f2 := fitV (l := L ++ [e.a]) (m := [e.b]) (by simp; omega)
    have f3 := fitV (l := L ++ [e.a, e.b]) (m := [e.w1]) (by simp; omega)
    have f4 := fitV (l := L ++ [e.a, e.b, e.w1]) (m := [e.w2]) (by simp; omega)
    have f5 := fitV (l := L ++ [e.a, e.b, e.w1, e.w2]) (m := [e.w3]) (by simp; omega)
    simp only [l1, t4, t5, el.1, el.2.2.1, v1, v2, v3, v4, v5, f1, f2, f3, f4, f5, catV_to, List.append_assoc, List.cons_append, List.nil_append, List.prefix_refl, hw, go_sem]
    exact ⟨hi1, by rw [sn, hL, List.append_assoc]⟩
  have hin : i = es.length := by omega
  subst hin
  rw [List.take_length] at t4
  obtain ⟨A1, hA1⟩ : ∃ A1 : List Int, A1 = A ++ numsE es := ⟨_, rfl⟩
  rw [← hA1] at t4
  have hA1l : A1.length = 2 + 5 * es.length := by rw [hA1, List.length_append, numsE_len, hAl]
  have hmk := mok_len g.2.1
  have vm := var1 (X := X) (h := h') (n := (m.length : Int)) (by omega) (by omega)
  have ft := fitV (l := A1) (m := [(m.length : Int)]) (by simp; omega)
  simp only [l1, t4, hm.lnm, vm, catV_to, ft, go_sem]
  obtain ⟨A2, hA2⟩ : ∃ A2 : List Int, A2 = A1 ++ [(m.length : Int)] := ⟨_, rfl⟩
  rw [← hA2]
  have hA2l : A2.length = 3 + 5 * es.length := by rw [hA2, List.length_append, hA1l]; simp; omega
  obtain ⟨h, hh⟩ : ∃ h, h = h' := ⟨_, rfl⟩
  rw [← hh] at he hm hy hg ⊢
  clear t4 t5 l1 vm vs vn
  refine w_for m.length (fun i t loc h' => h' = h ∧ loc 1 = some [.int .i64 size, ev, mv, yv, gv] ∧ t 7 = .int .i64 i ∧ t 4 = .string (catV noT (A2 ++ numsC (m.take i)))) ⟨rfl, rfl, rfl, by rw [List.take_zero]; unfold numsC; rw [List.flatMap_nil, List.append_nil]; rfl⟩ ?_
  rintro i t loc h' hi ⟨rfl, l1, t7, t4⟩
  simp only [l1, t7, hm.lnm, go_sem]
  refine w_open (by simp only [go_sem]; rfl) ?_ ?_ <;> intro hc
  · have hi1 : i < m.length := by omega
    have hw : IntKind.i64.wrap ((i : Int) + 1) = ((i + 1 : Nat) : Int) := w64 (by omega) (by omega)
    have el := cp_el hm hi1
    have q := g.2.1.2 i hi1
    have sn := numsC_snoc hi1
    obtain ⟨e, hee⟩ : ∃ e, e = m.getD i c0 := ⟨_, rfl⟩
    unfold CpOk at q
    rw [← hee] at el q sn
    have qr : 0 ≤ e.a ∧ e.a ≤ 9 ∧ 0 ≤ e.b ∧ e.b ≤ 9 := by
      rcases firstIx_cases (p := Join e.a e.b) e0 es with ⟨c1, _⟩ | ⟨j, _, c2, c3, _⟩
      · have := q.2.1
        unfold edgeIx at this
        omega
      · have := hE _ (getD_mem (d := e0) c2)
        unfold EOk at this
        unfold Join at c3
        omega
    have v1 := var1 (X := X) (h := h') (n := e.a) (by omega) (by omega)
    have v2 := var1 (X := X) (h := h') (n := e.b) (by omega) (by omega)
    obtain ⟨L, hL⟩ : ∃ L : List Int, L = A2 ++ numsC (m.take i) := ⟨_, rfl⟩
    have hLl : L.length ≤ 10000000 := by rw [hL, List.length_append, numsC_len, List.length_take]; omega
    rw [← hL] at t4
    have f1 := fitV (l := L) (m := [e.a]) (by simp; omega)
    have f2 := fitV (l := L ++ [e.a]) (m := [e.b]) (by simp; omega)
    simp only [l1, t4, t7, el.1, el.2.1, el.2.2.2.1, el.2.2.2.2, v1, v2, f1, f2, catV_to, List.append_assoc, List.cons_append, List.nil_append, List.prefix_refl, hw, go_sem]
    exact ⟨hi1, by rw [sn, hL, List.append_assoc]⟩
  have hin : i = m.length := by omega
  subst hin
  rw [List.take_length] at t4
  obtain ⟨A3, hA3⟩ : ∃ A3 : List Int, A3 = A2 ++ numsC m := ⟨_, rfl⟩
  rw [← hA3] at t4
  have hA3l : A3.length = 3 + 5 * es.length + 2 * m.length := by rw [hA3, List.length_append, hA2l, numsC_len]
  simp only [l1, t4, go_sem]
  obtain ⟨h, hh⟩ : ∃ h, h = h' := ⟨_, rfl⟩
  rw [← hh] at he hm hy hg ⊢
  clear t4 t7 l1
  have hyl := g.1.1.2.1
  refine w_for ys.length (fun i t loc h' => h' = h ∧ loc 1 = some [.int .i64 size, ev, mv, yv, gv] ∧ t 8 = .int .i64 i ∧ t 4 = .string (catV noT (A3 ++ ys.take i))) ⟨rfl, rfl, rfl, by rw [List.take_zero, List.append_nil]; rfl⟩ ?_
  rintro i t loc h' hi ⟨rfl, l1, t8, t4⟩
  simp only [l1, t8, ints_ln hy, go_sem]
  refine w_open (by simp only [go_sem]; rfl) ?_ ?_ <;> intro hc
  · have hi1 : i < ys.length := by omega
    have hw : IntKind.i64.wrap ((i : Int) + 1) = ((i + 1 : Nat) : Int) := w64 (by omega) (by omega)
    have el := int_el hy hi1
    have q := g.1.2.1 i hi1
    have v1 := var1 (X := X) (h := h') (n := ys.getD i 0) (by omega) (by omega)
    have f1 := fitV (l := A3 ++ ys.take i) (m := [ys.getD i 0]) (by rw [List.length_append, List.length_take]; simp; omega)
    simp only [l1, t4, t8, el.1, el.2, v1, f1, catV_to, hw, go_sem]
    exact ⟨hi1, by rw [take_snocD (d := 0) hi1, List.append_assoc]⟩
  have hin : i = ys.length := by omega
  subst hin
  rw [List.take_length] at t4
  have hgl8 := g.1.1.2.2
  have vg := var1 (X := X) (h := h') (n := (gs.length : Int)) (by omega) (by omega)
  have ft := fitV (l := A3 ++ ys) (m := [(gs.length : Int)]) (by rw [List.length_append]; simp; omega)
  simp only [l1, t4, hg.ln, vg, catV_to, ft, go_sem]
  obtain ⟨A4, hA4⟩ : ∃ A4 : List Int, A4 = A3 ++ ys ++ [(gs.length : Int)] := ⟨_, rfl⟩
  rw [← hA4]
  have hA4l : A4.length = 4 + 5 * es.length + 2 * m.length + ys.length := by rw [hA4, List.length_append, List.length_append, hA3l]; simp; omega
  obtain ⟨h, hh⟩ : ∃ h, h = h' := ⟨_, rfl⟩
  rw [← hh] at he hm hy hg ⊢
  clear t4 t8 l1 vg
  refine w_for gs.length (fun i t loc h' => h' = h ∧ loc 1 = some [.int .i64 size, ev, mv, yv, gv] ∧ t 9 = .int .i64 i ∧ t 4 = .string (catV noT (A4 ++ numsG (gs.take i)))) ⟨rfl, rfl, rfl, by rw [List.take_zero]; unfold numsG; rw [List.flatMap_nil, List.append_nil]; rfl⟩ ?_
  rintro i t loc h' hi ⟨rfl, l1, t9, t4⟩
  simp only [l1, t9, hg.ln, go_sem]
  refine w_open (by simp only [go_sem]; rfl) ?_ ?_ <;> intro hc
  · have hi1 : i < gs.length := by omega
    have hw : IntKind.i64.wrap ((i : Int) + 1) = ((i + 1 : Nat) : Int) := w64 (by omega) (by omega)
    obtain ⟨x, el1, el2, el3, el4, el5, hx⟩ := hg.el hi1
    have q := (g.1.2.2.1 i hi1).1
    have hgl := numsG_len (gs := gs.take i) fun g q => hb.2.2 g (List.mem_of_mem_take q)
    rw [List.length_take] at hgl
    have hgm := hb.2.2 _ (getD_mem (d := g0) hi1)
    have sn := numsG_snoc hi1
    obtain ⟨g1, hg1⟩ : ∃ g1, g1 = gs.getD i g0 := ⟨_, rfl⟩
    rw [← hg1] at el3 hx q hgm sn
    unfold GrOk at q
    have v1 := var1 (X := X) (h := h') (n := (g1.ms.length : Int)) (by omega) (by omega)
    obtain ⟨L, hL⟩ : ∃ L : List Int, L = A4 ++ numsG (gs.take i) := ⟨_, rfl⟩
    have hLl : L.length ≤ 100000000 := by rw [hL, List.length_append]; omega
    rw [← hL] at t4
    have f1 := fitV (l := L) (m := [(g1.ms.length : Int)]) (by simp; omega)
    simp only [l1, t4, t9, el1, el3, ints_ln hx, v1, f1, catV_to, zeros, fillAt, go_sem]
    obtain ⟨B, hB⟩ : ∃ B : List Int, B = L ++ [(g1.ms.length : Int)] := ⟨_, rfl⟩
    have hBl : B.length ≤ 100000001 := by rw [hB, List.length_append]; simp; omega
    rw [← hB]
    obtain ⟨h, hh⟩ : ∃ h, h = h' := ⟨_, rfl⟩
    rw [← hh] at he hm hy hg hx ⊢
    refine w_for g1.ms.length (fun j t loc h' => h' = h ∧ loc 1 = some [.int .i64 size, ev, mv, yv, gv] ∧ loc 10 = some [x, .int .i64 g1.z] ∧ t 9 = .int .i64 i ∧ t 11 = .int .i64 j ∧ t 4 = .string (catV noT (B ++ g1.ms.take j))) ⟨rfl, rfl, rfl, rfl, rfl, by rw [List.take_zero, List.append_nil]; rfl⟩ ?_
    rintro j t loc h' hj ⟨rfl, l1, l10, t9, t11, t4⟩
    simp only [l1, l10, t9, t11, ints_ln hx, go_sem]
    refine w_open (by simp only [go_sem]; rfl) ?_ ?_ <;> intro hc
    · have hj1 : j < g1.ms.length := by omega
      have hw : IntKind.i64.wrap ((j : Int) + 1) = ((j + 1 : Nat) : Int) := w64 (by omega) (by omega)
      have elj := int_el hx hj1
      have qj := q.2 j hj1
      have v1 := var1 (X := X) (h := h') (n := g1.ms.getD j 0) (by omega) (by omega)
      have f1 := fitV (l := B ++ g1.ms.take j) (m := [g1.ms.getD j 0]) (by rw [List.length_append, List.length_take]; simp; omega)
      simp only [l1, l10, t4, t9, t11, elj.1, elj.2, v1, f1, catV_to, hw, go_sem]
      exact ⟨hj1, by rw [take_snocD (d := 0) hj1, List.append_assoc]⟩
    · have hjn : j = g1.ms.length := by omega
      subst hjn
      rw [List.take_length] at t4
      have v1 := var1 (X := X) (h := h') (n := g1.z) (by omega) (by omega)
      have f1 := fitV (l := B ++ g1.ms) (m := [g1.z]) (by rw [List.length_append]; simp; omega)
      simp only [l1, l10, t4, t9, v1, f1, catV_to, hw, go_sem]
      exact ⟨hi1, by rw [sn, hB, hL]; simp⟩
  · have hin : i = gs.length := by omega
    subst hin
    rw [List.take_length] at t4
    simp only [t4, go_sem]
    have e : A4 ++ numsG gs = certN size es m ys gs := by
      rw [hA4, hA3, hA2, hA1, hA]
      simp [certN]
    rw [e]
    rfl
end
end Go.Proofs.YtjgacjidaeahdaaGreatDoor.Ab
set_option linter.unusedSimpArgs false
set_option linter.unusedVariables false
set_option linter.unnecessarySimpa false
set_option maxHeartbeats 4000000
namespace Go.Proofs.YtjgacjidaeahdaaGreatDoor.Ab
open Go.RowKit
section
variable {X : CallF} {h : Heap} {ev ev' mv mv' yv yv' gv gv' : Value} {es : List E} {m : List Cp} {gs : List Gp} {ys : List Int} {n size : Int}
theorem OwnG.cells {lo hi : Nat} {ty : TypeId} (o : OwnG h lo hi ty gv gs) : cellsOf gv = some [gv] := by obtain ⟨vs, o, _⟩ := o; exact o.cells
theorem k_eqCert (ha : Rows h 5 ev (edges es)) (hb : Rows h 5 ev' (edges es)) (hm : Rows h 2 mv (cps m)) (hm' : Rows h 2 mv' (cps m)) (hy : Rows h 1 yv (ints ys)) (hy' : Rows h 1 yv' (ints ys)) (hg : RowsG h gv gs) (hg' : RowsG h gv' gs) (hel : es.length ≤ 1048576) (hml : m.length ≤ 1048576) (hp : PfBnd ys gs) :
    C T X n_laws_eqCert [certV size ev mv yv gv, certV size ev' mv' yv' gv'] h = some (.bool true, h) := by
  have c1 := k_eqGraph (X := X) (size := size) ha hb (by unfold lim; omega)
  have c2 := k_eqCoupleS (X := X) hm hm' (by unfold lim; omega)
  have c3 := k_eqProof (X := X) hy hy' hg hg' hp
  refine C_go t_laws_eqCert rfl ?_
  unfold F_laws_eqCert certV
  unfold graphV at c1
  unfold proofV at c3
  simp only [c1, c2, c3, go_sem]
end
end Go.Proofs.YtjgacjidaeahdaaGreatDoor.Ab
set_option linter.unusedSimpArgs false
set_option linter.unusedVariables false
set_option linter.unnecessarySimpa false
set_option maxHeartbeats 4000000
namespace Go.Proofs.YtjgacjidaeahdaaGreatDoor.Ab
open Go.RowKit
section
variable {h h' : Heap} {lo hi lo2 hi2 : Nat} {ty : TypeId} {v w : Value} {gs : List Gp} {l : List Int} {z : Int}
theorem OwnG.norm (o : OwnG h lo hi ty v gs) : ∃ vs : List Value, vs.length = gs.length ∧ OwnGs h lo hi ty v gs vs := by
  obtain ⟨vs, h1, h2, h3, h4⟩ := o
  have e : ∀ i, i < gs.length → ((List.range gs.length).map fun j => vs.getD j nilV).getD i nilV = vs.getD i nilV := fun i hi => by simp [hi]
  refine ⟨(List.range gs.length).map fun j => vs.getD j nilV, by simp, ?_, fun i hi => by rw [e i hi]; exact h2 i hi, fun i hi => by rw [e i hi]; exact h3 i hi, fun i j hij hj => by rw [e i (by omega), e j hj]; exact h4 i j hij hj⟩
  have : gRows ((List.range gs.length).map fun j => vs.getD j nilV) gs = gRows vs gs := by
    unfold gRows
    apply List.map_congr_left
    intro i hi
    have hi' : i < gs.length := by simpa using hi
    unfold gRow
    rw [e i hi']
  rw [this]
  exact h1
theorem gRows_push {vs : List Value} (hv : vs.length = gs.length) : gRows (vs ++ [w]) (gs ++ [⟨l, z⟩]) = gRows vs gs ++ [[w, .int .i64 z]] := by
  unfold gRows
  rw [List.length_append, List.length_singleton, List.range_succ, List.map_append]
  congr 1
  · apply List.map_congr_left
    intro i hi
    have hi' : i < gs.length := by simpa using hi
    unfold gRow
    have e1 : (vs ++ [w]).getD i nilV = vs.getD i nilV := by simp [List.getElem?_append_left (show i < vs.length by omega)]
    have e2 : (gs ++ [(⟨l, z⟩ : Gp)]).getD i g0 = gs.getD i g0 := by simp [List.getElem?_append_left hi']
    rw [e1, e2]
  · unfold gRow
    have e1 : (vs ++ [w]).getD gs.length nilV = w := by rw [← hv]; simp
    have e2 : (gs ++ [(⟨l, z⟩ : Gp)]).getD gs.length g0 = ⟨l, z⟩ := by simp
    simp only [List.map_cons, List.map_nil]
    rw [e1, e2]
theorem OwnG.push (o : OwnG h lo hi ty v gs) (hlo : lo ≤ h.length) (hhi : hi ≤ h.length) (q : Own h lo2 hi2 1 y_int w (ints l)) (hll : lo ≤ lo2) (hd : hi ≤ lo2) (hd2 : hi2 ≤ h.length) (hl : gs.length < lim) :
    ∃ v' h', appLW h 2 ty 1 v (some [w, .int .i64 z]) = some (v', h') ∧ h.length ≤ h'.length ∧ (∀ b, b < lo → h'[b]? = h[b]?) ∧ OwnG h' lo h'.length ty v' (gs ++ [⟨l, z⟩]) := by
  obtain ⟨vs, hvl, h2, h3, h4, h5⟩ := o.norm
  have hwsepv : Sep v w := h2.sep q (.inl hd)
  have hws : ∀ i, i < gs.length → Sep (vs.getD i nilV) w := fun i hi => (h3 i hi).sep q (.inl hd)
  obtain ⟨v', h', e, g, b, c, o'⟩ := push_is h2 hlo [[w, .int .i64 z]] (fun r hr => by rw [List.mem_singleton.1 hr]; rfl) (by simp) (by simp; omega)
  simp only [List.flatten_cons, List.flatten_nil, List.append_nil, List.length_cons, List.length_nil, Nat.zero_add] at e
  have same : ∀ {x : Value} {rr : List (List Value)} {p r : Nat}, Own h p r 1 y_int x rr → r ≤ h.length → Sep v x → Own h' p r 1 y_int x rr := by
    intro x rr p r ox hr hs
    refine ⟨ox.len, ?_⟩
    rcases ox.is with hn | ⟨c, l1, l2, rfl, hc⟩
    · exact .inl hn
    · exact .inr ⟨c, l1, l2, rfl, by rw [b c (by omega) (by simp only [Sep, tlo, thi] at hs ⊢; omega)]; exact hc⟩
  have hv'sep : ∀ {x : Value}, Sep v x → (x = nilV ∨ thi x ≤ h.length) → Sep v' x := by
    intro x hs hx
    rcases c with ⟨rfl, c1, c2, c3⟩ | ⟨_, _, c2, c3⟩
    · rcases hx with rfl | hx
      · exact sep_nil
      · exact .inr (by omega)
    · unfold Sep at hs ⊢; omega
  have hwin : w = nilV ∨ thi w ≤ h.length := by
    rcases q.within with h | ⟨_, h, _⟩
    · exact .inl h
    · exact .inr (by omega)
  have hlv : lo ≤ tlo v' := by
    rcases c with ⟨_, c1, _⟩ | ⟨hv, _, c2, _⟩
    · omega
    · rcases h2.within with k | k
      · exact absurd k hv
      · omega
  have hnz : thi v' ≤ h'.length ∧ tlo v' < thi v' := by
    rcases c with ⟨_, c1, c2, c3⟩ | ⟨hv, c1, c2, c3⟩
    · omega
    · rcases h2.within with k | k
      · exact absurd k hv
      · omega
  refine ⟨v', h', e, g, fun x hx => b x (by omega) ?_, vs ++ [w], ?_, fun i hi' => ?_, fun i hi' => ?_, fun i j hij hj => ?_⟩
  · rcases h2.within with rfl | ⟨k1, k2, _⟩
    · exact .inr (Nat.zero_le _)
    · exact .inl (by omega)
  · rw [gRows_push hvl]
    exact o'.wide (by omega) hnz.1
  · by_cases hil : i < gs.length
    · have e1 : (vs ++ [w]).getD i nilV = vs.getD i nilV := by simp [List.getElem?_append_left (show i < vs.length by omega)]
      have e2 : (gs ++ [(⟨l, z⟩ : Gp)]).getD i g0 = gs.getD i g0 := by simp [List.getElem?_append_left hil]
      rw [e1, e2]
      exact (same (h3 i hil) hhi (h4 i hil)).wide (Nat.le_refl _) (by omega)
    · have hil : i = gs.length := by simp at hi'; omega
      subst hil
      have e1 : (vs ++ [w]).getD gs.length nilV = w := by rw [← hvl]; simp
      have e2 : (gs ++ [(⟨l, z⟩ : Gp)]).getD gs.length g0 = ⟨l, z⟩ := by simp
      rw [e1, e2]
      exact (same q hd2 hwsepv).wide hll (by omega)
  · by_cases hil : i < gs.length
    · have e1 : (vs ++ [w]).getD i nilV = vs.getD i nilV := by simp [List.getElem?_append_left (show i < vs.length by omega)]
      rw [e1]
      refine hv'sep (h4 i hil) ?_
      rcases (h3 i hil).within with h | ⟨_, h, _⟩
      · exact .inl h
      · exact .inr (by omega)
    · have hil : i = gs.length := by simp at hi'; omega
      subst hil
      have e1 : (vs ++ [w]).getD gs.length nilV = w := by rw [← hvl]; simp
      rw [e1]
      exact hv'sep hwsepv hwin
  · have hil : i < gs.length := by simp at hj; omega
    have e1 : (vs ++ [w]).getD i nilV = vs.getD i nilV := by simp [List.getElem?_append_left (show i < vs.length by omega)]
    rw [e1]
    by_cases hjl : j < gs.length
    · have e2 : (vs ++ [w]).getD j nilV = vs.getD j nilV := by simp [List.getElem?_append_left (show j < vs.length by omega)]
      rw [e2]
      exact h5 i j hij hjl
    · have hjl : j = gs.length := by simp at hj; omega
      subst hjl
      have e2 : (vs ++ [w]).getD gs.length nilV = w := by rw [← hvl]; simp
      rw [e2]
      exact hws i hil
theorem OwnG.nil : OwnG h lo hi ty nilV [] := ⟨[], Own.nil, fun i hi => (by simp at hi), fun i hi => (by simp at hi), fun i j _ hi => (by simp at hi)⟩
theorem OwnG.cells' (o : OwnG h lo hi ty v gs) : cellsOf v = some [v] := by obtain ⟨vs, o, _⟩ := o; exact o.cells
end
end Go.Proofs.YtjgacjidaeahdaaGreatDoor.Ab
set_option linter.unusedSimpArgs false
set_option linter.unusedVariables false
set_option linter.unnecessarySimpa false
set_option maxHeartbeats 4000000
namespace Go.Proofs.YtjgacjidaeahdaaGreatDoor.Ab
open Go.RowKit
/-- Marks in groups. -/
def mkG (k : Nat) : List Gp → List Gp
  | [] => []
  | g :: gs => ⟨(List.range g.ms.length).map fun j => ((k + j : Nat) : Int), ((k + g.ms.length : Nat) : Int)⟩ :: mkG (k + g.ms.length + 1) gs
def totG : List Gp → Nat
  | [] => 0
  | g :: gs => g.ms.length + 1 + totG gs
theorem mkG_len : ∀ {k : Nat} {gs : List Gp}, (mkG k gs).length = gs.length
  | _, [] => rfl
  | k, g :: gs => by simp [mkG, mkG_len (gs := gs)]
theorem totG_take : ∀ {gs : List Gp} {i : Nat}, i < gs.length → totG (gs.take (i + 1)) = totG (gs.take i) + (gs.getD i g0).ms.length + 1
  | [], _, h => by simp at h
  | g :: gs, 0, _ => by simp [totG]
  | g :: gs, i + 1, h => by
    have := totG_take (gs := gs) (i := i) (by simpa using h)
    simp only [List.take_succ_cons, totG, List.getD_cons_succ]
    omega
theorem totG_le : ∀ {gs : List Gp} {i : Nat}, totG (gs.take i) ≤ totG gs
  | [], i => by simp [totG]
  | g :: gs, 0 => Nat.zero_le _
  | g :: gs, i + 1 => by
    have := totG_le (gs := gs) (i := i)
    simp only [List.take_succ_cons, totG]
    omega
theorem mkG_get : ∀ {gs : List Gp} {k i : Nat}, i < gs.length → (mkG k gs).getD i g0 = ⟨(List.range (gs.getD i g0).ms.length).map fun j => ((k + totG (gs.take i) + j : Nat) : Int), ((k + totG (gs.take i) + (gs.getD i g0).ms.length : Nat) : Int)⟩
  | [], _, _, h => by simp at h
  | g :: gs, k, 0, _ => by simp [mkG, totG]
  | g :: gs, k, i + 1, h => by
    have := mkG_get (gs := gs) (k := k + g.ms.length + 1) (i := i) (by simpa using h)
    simp only [mkG, List.getD_cons_succ, this, List.take_succ_cons, totG]
    have e : k + g.ms.length + 1 + totG (gs.take i) = k + (g.ms.length + 1 + totG (gs.take i)) := by omega
    rw [e]
/-- The first are of one list, the others of another. -/
def mxG (M gs : List Gp) (i : Nat) : List Gp := M.take i ++ gs.drop i
section
variable {M gs : List Gp} {i j : Nat}
theorem mxG_len (h : M.length = gs.length) (hi : i ≤ gs.length) : (mxG M gs i).length = gs.length := by simp [mxG]; omega
theorem mxG_lt (h : M.length = gs.length) (hj : j < i) (hi : i ≤ gs.length) : (mxG M gs i).getD j g0 = M.getD j g0 := by
  unfold mxG
  rw [List.getD_eq_getElem?_getD, List.getElem?_append_left (by simp; omega), List.getElem?_take, if_pos hj, ← List.getD_eq_getElem?_getD]
theorem mxG_ge (h : M.length = gs.length) (hj : i ≤ j) (hi : i ≤ gs.length) : (mxG M gs i).getD j g0 = gs.getD j g0 := by
  unfold mxG
  have e : (M.take i).length = i := by simp; omega
  rw [List.getD_eq_getElem?_getD, List.getElem?_append_right (by omega), e, List.getElem?_drop, show i + (j - i) = j by omega, ← List.getD_eq_getElem?_getD]
theorem mxG_end (h : M.length = gs.length) : mxG M gs gs.length = M := by
  unfold mxG
  rw [List.drop_length, List.append_nil, ← h, List.take_length]
theorem gRows_set {vs : List Value} {xs bs : List Gp} (hl : xs.length = bs.length) (hi : i < xs.length) (hz : ∀ j, j < xs.length → j ≠ i → (xs.getD j g0).z = (bs.getD j g0).z) {r : List Value} (hr : r = [vs.getD i nilV, .int .i64 (bs.getD i g0).z]) : (gRows vs xs).set i r = gRows vs bs := by
  apply List.ext_getElem?
  intro j
  by_cases hj : j < xs.length
  · have h2 : j < bs.length := by omega
    by_cases hji : j = i
    · subst hji
      rw [List.getElem?_set_self (by simpa using hj), hr]
      simp [gRow, h2]
    · rw [List.getElem?_set_ne (Ne.symm hji)]
      have := hz j hj hji
      unfold gRows
      rw [List.getElem?_map, List.getElem?_map, List.getElem?_range hj, List.getElem?_range h2]
      simp only [Option.map_some, gRow]
      rw [this]
  · rw [List.getElem?_eq_none (by simp; omega), List.getElem?_eq_none (by simp; omega)]
end
section
variable {X : CallF} {h : Heap} {ev mv yv gv v : Value} {es : List E} {m : List Cp} {gs : List Gp} {ys : List Int} {size : Int}
theorem mkInt_ints' {k n : Nat} : mkRows mkInt k 1 n = ints ((List.range n).map fun j => ((k + j : Nat) : Int)) := by simp [mkRows, mkInt, ints]
theorem k_markGroupS {lo hi : Nat} (o : OwnG h lo hi y_Group v gs) (hl : gs.length ≤ 1048576) (hm : ∀ g ∈ gs, g.ms.length ≤ 1048576) {k : Nat} (hk : k ≤ 1099511627776) (ht : totG gs ≤ 1152921504606846976) :
    ∃ h', C T X n_laws_markGroupS [v, .int .i64 (k : Int)] h = some (.int .i64 ((k + totG gs : Nat) : Int), h') ∧ Same lo hi h h' ∧ OwnG h' lo hi y_Group v (mkG k gs) := by
  obtain ⟨vs, hvl, o⟩ := o.norm
  obtain ⟨M, hM⟩ : ∃ M, M = mkG k gs := ⟨_, rfl⟩
  have hML : M.length = gs.length := by rw [hM, mkG_len]
  rw [← hM]
  refine C_exH t_laws_markGroupS rfl ?_
  unfold F_laws_markGroupS
  simp only [go_sem]
  refine w_for gs.length (fun i t loc h' => t 0 = v ∧ t 1 = .int .i64 ((k + totG (gs.take i) : Nat) : Int) ∧ t 5 = .int .i64 i ∧ Same lo hi h h' ∧ OwnGs h' lo hi y_Group v (mxG M gs i) vs)
    ⟨rfl, by simp [upd, totG], rfl, Same.refl, o⟩ ?_
  rintro i t loc h' hi' ⟨t0, t1, t5, hs, q⟩
  have hxl := mxG_len hML hi'
  have hln : lnV h' v = some (.int .i64 (gs.length : Int)) := by rw [q.out.ln]; simp [hxl]
  simp only [t0, t5, hln, go_sem]
  refine w_open (by simp only [go_sem]; rfl) ?_ ?_ <;> intro hc
  · have hi1 : i < gs.length := by omega
    have hw : IntKind.i64.wrap ((i : Int) + 1) = ((i + 1 : Nat) : Int) := w64 (by omega) (by omega)
    have htl := totG_le (gs := gs) (i := i)
    have htk := totG_take hi1
    have hgm := hm _ (getD_mem (d := g0) hi1)
    have hix : i < (mxG M gs i).length := by omega
    have hir : i < (gRows vs (mxG M gs i)).length := by simp; omega
    have hgi : (mxG M gs i).getD i g0 = gs.getD i g0 := mxG_ge hML (Nat.le_refl _) hi'
    obtain ⟨x, e1, e2, e3, e4, e5, e6⟩ := (show RowsG h' v (mxG M gs i) from ⟨vs, q.out.rows, fun j hj => (q.ins j hj).rows⟩).el hix
    -- the members' slice is the one that is known
    have hrow : (gRows vs (mxG M gs i))[i] = [vs.getD i nilV, .int .i64 (gs.getD i g0).z] := by
      have : (gRows vs (mxG M gs i))[i] = gRow vs (mxG M gs i) i := by simp
      rw [this]
      unfold gRow
      rw [hgi]
    have ex : ldC h' (elemP v 2 i 0) 1 = some [vs.getD i nilV] := by
      have := q.out.rows.ld (i := i) (off := 0) (n := 1) hir (by omega)
      rw [this, hrow]
      rfl
    have oi := q.ins i hix
    rw [hgi] at oi
    obtain ⟨h6, c, s, o6⟩ := k_markIntS (X := X) oi.tight (by rw [ints_len]; unfold lim; omega) (k := k + totG (gs.take i)) (by omega)
    rw [ints_len, mkInt_ints'] at o6
    rw [ints_len] at c
    have q6 := q.out.apart s (q.so i hix)
    have el6 := q6.el hir
    obtain ⟨h7, c7, s7, o7⟩ := q6.tight.st hir (k := 1) (vs := [.int .i64 ((k + totG (gs.take i) + (gs.getD i g0).ms.length * 1 : Nat) : Int)]) (by simp)
    have hw1 : IntKind.i64.wrap (((k + totG (gs.take i) + (gs.getD i g0).ms.length * 1 : Nat) : Int) + 1) = ((k + totG (gs.take (i + 1)) : Nat) : Int) := by
      rw [w64 (by omega) (by omega), htk]
      omega
    simp only [t0, t1, t5, e1, e2, ex, c, el6.1, el6.2, c7, hw, hw1, go_sem]
    have hMi : M.getD i g0 = ⟨(List.range (gs.getD i g0).ms.length).map fun j => ((k + totG (gs.take i) + j : Nat) : Int), ((k + totG (gs.take i) + (gs.getD i g0).ms.length : Nat) : Int)⟩ := by rw [hM]; exact mkG_get hi1
    have hni : (mxG M gs (i + 1)).getD i g0 = M.getD i g0 := mxG_lt hML (by omega) (by omega)
    have hnl := mxG_len hML (show i + 1 ≤ gs.length by omega)
    have hset : (gRows vs (mxG M gs i)).set i (putAt (gRows vs (mxG M gs i))[i] 1 [.int .i64 ((k + totG (gs.take i) + (gs.getD i g0).ms.length * 1 : Nat) : Int)]) = gRows vs (mxG M gs (i + 1)) := by
      refine gRows_set (by omega) hix (fun j hj hne => ?_) ?_
      · by_cases hlt : j < i
        · rw [mxG_lt hML hlt hi', mxG_lt hML (by omega) (by omega)]
        · rw [mxG_ge hML (by omega) hi', mxG_ge hML (by omega) (by omega)]
      · rw [hrow, hni, hMi]
        simp [putAt]
    rw [hset] at o7
    refine ⟨hi1, (hs.trans (oi.wider s)).trans (q6.wider s7), q6.loose o7, fun j hj => ?_, fun j hj => q.so j (by omega), fun a b hab hb => q.si a b hab (by omega)⟩
    have hj' : j < (mxG M gs i).length := by omega
    have s7' : Same (tlo v) (thi v) h6 h7 := s7
    by_cases hji : j = i
    · subst hji
      rw [hni, hMi]
      exact (oi.loose o6).apart s7' (q.so j hj').symm
    · have oj := q.ins j hj'
      have hsame : (mxG M gs (i + 1)).getD j g0 = (mxG M gs i).getD j g0 := by
        by_cases hlt : j < i
        · rw [mxG_lt hML hlt hi', mxG_lt hML (by omega) (by omega)]
        · rw [mxG_ge hML (by omega) hi', mxG_ge hML (by omega) (by omega)]
      rw [hsame]
      have hsep : Sep (vs.getD j nilV) (vs.getD i nilV) := by
        rcases Nat.lt_or_ge j i with hlt | hge
        · exact q.si j i hlt hix
        · exact (q.si i j (by omega) hj').symm
      exact (oj.apart s hsep).apart s7' (q.so j hj').symm
  · have hil : i = gs.length := by omega
    subst hil
    rw [List.take_length] at t1
    rw [mxG_end hML] at q
    simp only [t1, finish_room hs.len, go_sem]
    exact ⟨hs, vs, q⟩
theorem k_heldGroupS {k : Nat} (ha : RowsG h v (mkG k gs)) (hl : gs.length ≤ 1048576) (hm : ∀ g ∈ gs, g.ms.length ≤ 1048576) (hk : k ≤ 1099511627776) (ht : totG gs ≤ 1152921504606846976) : C T X n_laws_heldGroupS [v, .int .i64 (k : Int)] h = some (.int .i64 ((k + totG gs : Nat) : Int), h) := by
  refine C_go t_laws_heldGroupS rfl ?_
  unfold F_laws_heldGroupS
  have hln := ha.ln
  rw [mkG_len] at hln
  simp only [go_sem]
  refine w_for gs.length (fun i t loc h' => h' = h ∧ t 0 = v ∧ t 1 = .int .i64 ((k + totG (gs.take i) : Nat) : Int) ∧ t 5 = .int .i64 i) ⟨rfl, rfl, by simp [upd, totG], rfl⟩ ?_
  rintro i t loc h' hi ⟨rfl, t0, t1, t5⟩
  have hle := totG_le (gs := gs) (i := i)
  simp only [t0, t5, hln, go_sem]
  refine w_open (by simp only [go_sem]; rfl) ?_ ?_ <;> intro hc
  · have hi1 : i < gs.length := by omega
    have hw : IntKind.i64.wrap ((i : Int) + 1) = ((i + 1 : Nat) : Int) := w64 (by omega) (by omega)
    obtain ⟨x, e1, e2, e3, e4, e5, e6⟩ := ha.el (i := i) (by rw [mkG_len]; exact hi1)
    rw [mkG_get hi1] at e5 e6
    rw [← mkInt_ints'] at e6
    have hgm := hm _ (getD_mem (d := g0) hi1)
    have c := k_heldIntS (X := X) e6 (by unfold lim; omega) (by omega)
    have htk := totG_take hi1
    have hneg : ¬ (((k + totG (gs.take i) + (gs.getD i g0).ms.length * 1 : Nat) : Int) < 0) := by omega
    rw [Nat.mul_one] at c hneg
    have hw1 : IntKind.i64.wrap (((k + totG (gs.take i) + (gs.getD i g0).ms.length : Nat) : Int) + 1) = ((k + totG (gs.take (i + 1)) : Nat) : Int) := by
      rw [w64 (by omega) (by omega), htk]
      omega
    simp only [t0, t1, t5, e1, e2, e4, e5, c, hneg, hw, hw1, go_sem]
    exact hi1
  · have hil : i = gs.length := by omega
    subst hil
    rw [List.take_length] at t1
    simp only [t1, go_sem]
/-- All marks of a certificate. -/
def certM (es : List E) (m : List Cp) (ys : List Int) (gs : List Gp) : Nat := es.length * 5 + m.length * 2 + ys.length + totG gs
/-- The marks are there. -/
def CertHeld (h : Heap) (ev mv yv gv : Value) (es : List E) (m : List Cp) (ys : List Int) (gs : List Gp) : Prop :=
  Rows h 5 ev (mkRows mkEdge 1 5 es.length) ∧ Rows h 2 mv (mkRows mkCouple (1 + es.length * 5) 2 m.length) ∧ Rows h 1 yv (mkRows mkInt (1 + es.length * 5 + m.length * 2) 1 ys.length) ∧ RowsG h gv (mkG (1 + es.length * 5 + m.length * 2 + ys.length * 1) gs)
theorem CertHeld.up {h' : Heap} (a : CertHeld h ev mv yv gv es m ys gs) (hp : h <+: h') : CertHeld h' ev mv yv gv es m ys gs := ⟨a.1.up hp, a.2.1.up hp, a.2.2.1.up hp, a.2.2.2.up hp⟩
/-- Every bound that the laws need. -/
def CertBnd (es : List E) (m : List Cp) (ys : List Int) (gs : List Gp) : Prop := es.length ≤ 1048576 ∧ m.length ≤ 1048576 ∧ PfBnd ys gs ∧ totG gs ≤ 1152921504606846976
end
end Go.Proofs.YtjgacjidaeahdaaGreatDoor.Ab
set_option linter.unusedSimpArgs false
set_option linter.unusedVariables false
set_option linter.unnecessarySimpa false
set_option maxHeartbeats 4000000
namespace Go.Proofs.YtjgacjidaeahdaaGreatDoor.Ab
open Go.RowKit
section
variable {X : CallF} {h : Heap} {ev mv yv gv v : Value} {es : List E} {m : List Cp} {gs : List Gp} {ys : List Int} {size : Int}
/-- The marks are there. -/
def CertHeldK (k : Nat) (h : Heap) (ev mv yv gv : Value) (es : List E) (m : List Cp) (ys : List Int) (gs : List Gp) : Prop :=
  Rows h 5 ev (mkRows mkEdge k 5 es.length) ∧ Rows h 2 mv (mkRows mkCouple (k + es.length * 5) 2 m.length) ∧ Rows h 1 yv (mkRows mkInt (k + es.length * 5 + m.length * 2) 1 ys.length) ∧ RowsG h gv (mkG (k + es.length * 5 + m.length * 2 + ys.length * 1) gs)
theorem CertHeldK.up {k : Nat} {h' : Heap} (a : CertHeldK k h ev mv yv gv es m ys gs) (hp : h <+: h') : CertHeldK k h' ev mv yv gv es m ys gs := ⟨a.1.up hp, a.2.1.up hp, a.2.2.1.up hp, a.2.2.2.up hp⟩
theorem k_markCertK {k i1 i2 i3 i4 i5 : Nat} (oe : Own h i1 i2 5 y_Edge ev (edges es)) (om : Own h i2 i3 2 y_Couple mv (cps m)) (oy : Own h i3 i4 1 y_int yv (ints ys)) (og : OwnG h i4 i5 y_Group gv gs) (hi : i1 ≤ i2 ∧ i2 ≤ i3 ∧ i3 ≤ i4 ∧ i4 ≤ i5) (hb : CertBnd es m ys gs) (hk : k ≤ 1000) :
    ∃ h', C T X n_laws_markCert [certV size ev mv yv gv, .int .i64 (k : Int)] h = some (.int .i64 ((k + certM es m ys gs : Nat) : Int), h') ∧ Same i1 i5 h h' ∧ CertHeldK k h' ev mv yv gv es m ys gs := by
  obtain ⟨b1, b2, b3, b4⟩ := hb
  obtain ⟨h1, c1, s1, q1⟩ := k_markEdgeS (X := X) oe (by simp; unfold lim; omega) (k := k) (by omega)
  have om1 := om.same s1 (.inr (Nat.le_refl _))
  have oy1 := oy.same s1 (.inr (by omega))
  have og1 := og.same s1 (.inr (by omega))
  obtain ⟨h2, c2, s2, q2⟩ := k_markCoupleS (X := X) om1 (by simp; unfold lim; omega) (k := k + es.length * 5) (by omega)
  have oe2 := q1.same s2 (.inl (Nat.le_refl _))
  have oy2 := oy1.same s2 (.inr (Nat.le_refl _))
  have og2 := og1.same s2 (.inr (by omega))
  obtain ⟨h3, c3, s3, q3⟩ := k_markIntS (X := X) oy2 (by rw [ints_len]; have := b3.1; unfold lim; omega) (k := k + es.length * 5 + m.length * 2) (by omega)
  have oe3 := oe2.same s3 (.inl (by omega))
  have om3 := q2.same s3 (.inl (Nat.le_refl _))
  have og3 := og2.same s3 (.inr (Nat.le_refl _))
  obtain ⟨h4, c4, s4, q4⟩ := k_markGroupS (X := X) og3 b3.2.1 b3.2.2 (k := k + es.length * 5 + m.length * 2 + ys.length * 1) (by have := b3.1; omega) b4
  have oe4 := oe3.same s4 (.inl (by omega))
  have om4 := om3.same s4 (.inl (by omega))
  have oy4 := q3.same s4 (.inl (Nat.le_refl _))
  rw [List.length_map] at c1 oe4 c2 om4
  rw [ints_len] at c3 oy4
  have g1 : C T X n_laws_markGraph [graphV size ev, .int .i64 (k : Int)] h = some (.int .i64 ((k + es.length * 5 : Nat) : Int), h1) := by
    refine C_go t_laws_markGraph rfl ?_
    unfold F_laws_markGraph graphV
    simp only [c1, finish_room s1.len, go_sem]
  have g3 : C T X n_laws_markProof [proofV yv gv, .int .i64 ((k + es.length * 5 + m.length * 2 : Nat) : Int)] h2 = some (.int .i64 ((k + es.length * 5 + m.length * 2 + ys.length * 1 + totG gs : Nat) : Int), h4) := by
    refine C_go t_laws_markProof rfl ?_
    unfold F_laws_markProof proofV
    simp only [c3, c4, finish_room (s3.len ▸ s4.len : h4.length = h2.length), go_sem]
  refine ⟨h4, C_go t_laws_markCert rfl ?_, ?_, ⟨oe4.rows, om4.rows, oy4.rows, q4.rows⟩⟩
  · unfold F_laws_markCert certV
    unfold graphV at g1
    unfold proofV at g3
    have hl : h4.length = h.length := by rw [s4.len, s3.len, s2.len, s1.len]
    have e : k + certM es m ys gs = k + es.length * 5 + m.length * 2 + ys.length * 1 + totG gs := by unfold certM; omega
    rw [e]
    simp only [g1, c2, g3, finish_room hl, go_sem]
  · exact (((s1.wide (Nat.le_refl _) (by omega)).trans (s2.wide (by omega) (by omega))).trans (s3.wide (by omega) (by omega))).trans (s4.wide (by omega) (Nat.le_refl _))
theorem k_heldCertK {k : Nat} (a : CertHeldK k h ev mv yv gv es m ys gs) (hb : CertBnd es m ys gs) (hk : k ≤ 1000) : C T X n_laws_heldCert [certV size ev mv yv gv, .int .i64 (k : Int)] h = some (.int .i64 ((k + certM es m ys gs : Nat) : Int), h) := by
  obtain ⟨b1, b2, b3, b4⟩ := hb
  obtain ⟨a1, a2, a3, a4⟩ := a
  have b31 := b3.1
  have c1 := k_heldEdgeS (X := X) a1 (by unfold lim; omega) (by omega)
  have c2 := k_heldCoupleS (X := X) a2 (by unfold lim; omega) (by omega)
  have c3 := k_heldIntS (X := X) a3 (by unfold lim; omega) (by omega)
  have c4 := k_heldGroupS (X := X) a4 b3.2.1 b3.2.2 (by omega) b4
  have n1 : ¬ ((k + es.length * 5 : Nat) : Int) < 0 := by omega
  have n2 : ¬ ((k + es.length * 5 + m.length * 2 : Nat) : Int) < 0 := by omega
  have n3 : ¬ ((k + es.length * 5 + m.length * 2 + ys.length * 1 : Nat) : Int) < 0 := by omega
  have n4 : ¬ ((k + es.length * 5 + m.length * 2 + ys.length * 1 + totG gs : Nat) : Int) < 0 := by omega
  have g1 : C T X n_laws_heldGraph [graphV size ev, .int .i64 (k : Int)] h = some (.int .i64 ((k + es.length * 5 : Nat) : Int), h) := by
    refine C_go t_laws_heldGraph rfl ?_
    unfold F_laws_heldGraph graphV
    simp only [c1, n1, go_sem]
  have g3 : C T X n_laws_heldProof [proofV yv gv, .int .i64 ((k + es.length * 5 + m.length * 2 : Nat) : Int)] h = some (.int .i64 ((k + es.length * 5 + m.length * 2 + ys.length * 1 + totG gs : Nat) : Int), h) := by
    refine C_go t_laws_heldProof rfl ?_
    unfold F_laws_heldProof proofV
    simp only [c3, n3, c4, n4, go_sem]
  refine C_go t_laws_heldCert rfl ?_
  unfold F_laws_heldCert certV
  unfold graphV at g1
  unfold proofV at g3
  have e : k + certM es m ys gs = k + es.length * 5 + m.length * 2 + ys.length * 1 + totG gs := by unfold certM; omega
  rw [e]
  simp only [g1, n1, c2, n2, g3, n4, go_sem]
end
end Go.Proofs.YtjgacjidaeahdaaGreatDoor.Ab
set_option linter.unusedSimpArgs false
set_option linter.unusedVariables false
set_option linter.unnecessarySimpa false
set_option maxHeartbeats 4000000
namespace Go.Proofs.YtjgacjidaeahdaaGreatDoor.Ab
open Go.RowKit
theorem strOfNums_app {l m : List Int} : strOfNums l ++ strOfNums m = strOfNums (l ++ m) := by
  apply ByteArray.ext
  apply Array.toList_inj.1
  rw [ByteArray.data_append, Array.toList_append, strOfNums_data, strOfNums_data, strOfNums_data, List.map_append]
theorem mkD_dec : ∀ (k n : Nat) (s : ByteArray), n < k → 0 < n → mkD n s = strOfNums (decL n) ++ s
  | 0, n, s, h, _ => by omega
  | k + 1, n, s, h, hp => by
    rw [mkD_pos hp, decL]
    by_cases h1 : n < 10
    · rw [if_pos h1, show n / 10 = 0 by omega, mkD_zero, show n % 10 = n by omega]
    · rw [if_neg h1, mkD_dec k (n / 10) _ (by omega) (by omega), ← ByteArray.append_assoc, strOfNums_app]
theorem decT_size {n k : Nat} (h : n < 10 ^ k) (hk : 0 < k) : (decT n).size ≤ k := by
  unfold decT
  rw [strOfNums_size]
  exact decL_len k n h hk
theorem twoT_size {n : Nat} (h : n ≤ 1000000000) : (twoT n).size ≤ 10 := by
  unfold twoT twoL
  rw [strOfNums_size]
  split
  · simp
  · exact decL_len 10 n (by omega) (by omega)
theorem qK_app {n : Nat} : (⟨⟨[113]⟩⟩ : ByteArray) ++ twoT n = qK n := by
  rw [show (⟨⟨[113]⟩⟩ : ByteArray) = strOfNums [113] from rfl]; exact strOfNums_app
theorem vK_app {n : Nat} : (⟨⟨[118]⟩⟩ : ByteArray) ++ twoT n = vK n := by
  rw [show (⟨⟨[118]⟩⟩ : ByteArray) = strOfNums [118] from rfl]; exact strOfNums_app
theorem rK_app {r n : Nat} : (⟨⟨[114]⟩⟩ : ByteArray) ++ twoT r ++ twoT n = rK r n := by
  rw [show (⟨⟨[114]⟩⟩ : ByteArray) = strOfNums [114] from rfl]; unfold twoT; rw [strOfNums_app, strOfNums_app]; rfl
theorem lit_size {c : UInt8} : (⟨⟨[c]⟩⟩ : ByteArray).size = 1 := rfl
theorem asz {c : UInt8} : (⟨[c]⟩ : Array UInt8).size = 1 := rfl
theorem zero_app {n : Nat} : (⟨⟨[48]⟩⟩ : ByteArray) ++ decT n = strOfNums (48 :: decL n) := by
  rw [show (⟨⟨[48]⟩⟩ : ByteArray) = strOfNums [48] from rfl]; exact strOfNums_app
section
variable {X : CallF} {h : Heap} {m : List Pr} {mv : Value}
theorem k_spec_l01Figure {d : Nat} (hd : d < 10) : C T X n_spec_l01Figure [.int .i64 (d : Int)] h = some (.int .u8 ((48 + d : Nat) : Int), h) := by
  refine C_go t_spec_l01Figure rfl ?_
  unfold F_spec_l01Figure
  have h1 : (d : Int) < 10 := by omega
  have e : IntKind.u8.wrap (IntKind.i64.wrap (48 + (d : Int))) = ((48 + d : Nat) : Int) := by rw [w64 (by omega) (by omega), wu8 (by omega) (by omega)]; omega
  simp only [h1, e, go_sem]
theorem k_spec_Decimal {n : Nat} (hn : n ≤ 4611686018427387904) : C T X n_spec_Decimal [.int .i64 (n : Int)] h = some (.string (decT n), h) := by
  refine C_go t_spec_Decimal rfl ?_
  unfold F_spec_Decimal
  simp only [go_sem]
  refine w_open (by simp only [go_sem]; rfl) ?_ ?_ <;> intro hc
  · have : n = 0 := by omega
    subst this
    simp only [go_sem]
    unfold decT decL
    rfl
  have hneg : decide ((n : Int) < 0) = false := decide_eq_false (by omega)
  simp only [hneg, go_sem]
  refine w_meas n (fun m t loc h' => h' = h ∧ ∃ s : ByteArray, t 0 = .int .i64 (m : Nat) ∧ t 3 = .bool false ∧ t 4 = .string s ∧ m ≤ n ∧ mkD m s = mkD n noT ∧ (∃ c, m < 10 ^ c ∧ s.size + c ≤ 19)) ⟨rfl, noT, rfl, rfl, rfl, Nat.le_refl _, rfl, 19, by omega, by decide⟩ ?_
  rintro m t loc h' ⟨rfl, s, t0, t3, t4, hm, hd, c, hc1, hc2⟩
  simp only [t0, t3, t4, go_sem]
  refine w_open (by simp only [t0, t3, t4, go_sem]; rfl) ?_ ?_ <;> intro hc'
  · have hf := k_spec_l01Figure (X := X) (h := h') (d := m % 10) (Nat.mod_lt _ (by omega))
    have hq : IntKind.i64.wrap ((m / 10 : Nat) : Int) = ((m / 10 : Nat) : Int) := w64 (by omega) (by omega)
    have hr : ((m : Int).tmod 10) = ((m % 10 : Nat) : Int) := rfl
    have hv : ((m : Int).tdiv 10) = ((m / 10 : Nat) : Int) := rfl
    have hnn : ¬ ((m % 10 : Nat) : Int) < 0 := by omega
    have hcp : 0 < c := by
      cases c with
      | zero => simp at hc1; omega
      | succ c => omega
    have hm1 : 0 < m := by omega
    have hsz : (strOfNums [((48 + m % 10 : Nat) : Int)]).size + s.size ≤ 9223372036854775807 := by rw [strOfNums_size]; simp only [List.length_cons, List.length_nil]; omega
    simp only [t0, t3, t4, hr, hv, hf, hq, hnn, strLV, ints8, isInt8, Option.map_some, hsz, go_sem]
    refine ⟨m / 10, by omega, _, rfl, rfl, by omega, ?_, c - 1, ?_, ?_⟩
    · rw [← hd, mkD_pos (n := m) hm1]
    · have : 10 ^ c = 10 ^ (c - 1) * 10 := by rw [← Nat.pow_succ]; congr 1; omega
      omega
    · rw [ByteArray.size_append, strOfNums_size]; simp only [List.length_cons, List.length_nil]; omega
  · have : m = 0 := by omega
    subst this
    have hs : s = decT n := by
      rw [mkD_zero] at hd
      rw [hd, mkD_dec (n + 1) n noT (by omega) (by omega)]
      unfold decT noT
      exact ByteArray.append_empty
    simp only [t3, t4, hs, go_sem]
theorem k_spec_l13Two {n : Nat} (hn : n ≤ 1000000000) : C T X n_spec_l13Two [.int .i64 (n : Int)] h = some (.string (twoT n), h) := by
  refine C_go t_spec_l13Two rfl ?_
  unfold F_spec_l13Two
  have hd := k_spec_Decimal (X := X) (h := h) (n := n) (by omega)
  have hs := decT_size (n := n) (k := 10) (by omega) (by omega)
  have hz : (⟨[48]⟩ : Array UInt8).size + (decT n).size ≤ 9223372036854775807 := by rw [asz]; omega
  by_cases c : n < 10
  · have c1 : (n : Int) < 10 := by omega
    simp only [hd, hz, c1, zero_app, go_sem]
    unfold twoT twoL
    rw [if_pos c]
    rw [decL, if_pos c]
  · have c1 : ¬ (n : Int) < 10 := by omega
    simp only [hd, c1, go_sem]
    unfold twoT twoL
    rw [if_neg c]
    rfl
theorem k_impl_two [LibX X] {n : Nat} (hn : n ≤ 1000000000) : C T X n_impl_two [.int .i64 (n : Int)] h = some (.string (twoT n), h) := by
  refine C_go t_impl_two rfl ?_
  unfold F_impl_two
  have hd := k_impl_Decimal (X := X) (h := h) (n := n) (by omega)
  have hs := decT_size (n := n) (k := 10) (by omega) (by omega)
  have hz : (⟨[48]⟩ : Array UInt8).size + (decT n).size ≤ 9223372036854775807 := by rw [asz]; omega
  by_cases c : n < 10
  · have c1 : (n : Int) < 10 := by omega
    simp only [hd, hz, c1, zero_app, go_sem]
    unfold twoT twoL
    rw [if_pos c]
    rw [decL, if_pos c]
  · have c1 : ¬ (n : Int) < 10 := by omega
    simp only [hd, c1, go_sem]
    unfold twoT twoL
    rw [if_neg c]
    rfl
/-- Two figures, as both read them. -/
def twoV (s : ByteArray) : Value := .tuple ⟨[.int .i64 (((rdTwo s).getD 0 : Nat) : Int), .bool (rdTwo s).isSome]⟩
theorem k_impl_readTwo {s : ByteArray} : C T X n_impl_readTwo [.string s] h = some (twoV s, h) := by
  refine C_go t_impl_readTwo rfl ?_
  unfold F_impl_readTwo
  have no : (¬ (s.size = 2 ∧ (48 ≤ byt s 0 ∧ byt s 0 ≤ 57) ∧ (48 ≤ byt s 1 ∧ byt s 1 ≤ 57))) → twoV s = .tuple ⟨[.int .i64 0, .bool false]⟩ := fun hn => by
    unfold twoV rdTwo
    rw [if_neg hn]
    rfl
  by_cases h2 : (s.size : Int) = 2
  · have e0 : ixV (.string s) (.int .i64 0) = some (.int .u8 (byt s 0 : Nat)) := ix_byt (i := 0) (by omega)
    have e1 : ixV (.string s) (.int .i64 1) = some (.int .u8 (byt s 1 : Nat)) := ix_byt (i := 1) (by omega)
    have b0 := byt_lt (s := s) (i := 0)
    have b1 := byt_lt (s := s) (i := 1)
    by_cases c1 : ((byt s 0 : Nat) : Int) < 48
    · simp only [h2, e0, e1, c1, go_sem]
      exact (no (by omega)).symm
    by_cases c2 : ((byt s 0 : Nat) : Int) > 57
    · simp only [h2, e0, e1, c1, c2, go_sem]
      exact (no (by omega)).symm
    by_cases c3 : ((byt s 1 : Nat) : Int) < 48
    · simp only [h2, e0, e1, c1, c2, c3, go_sem]
      exact (no (by omega)).symm
    by_cases c4 : ((byt s 1 : Nat) : Int) > 57
    · simp only [h2, e0, e1, c1, c2, c3, c4, go_sem]
      exact (no (by omega)).symm
    · have w0 : IntKind.u8.wrap (((byt s 0 : Nat) : Int) - 48) = ((byt s 0 : Nat) : Int) - 48 := wu8 (by omega) (by omega)
      have w1 : IntKind.u8.wrap (((byt s 1 : Nat) : Int) - 48) = ((byt s 1 : Nat) : Int) - 48 := wu8 (by omega) (by omega)
      have w2 : IntKind.i64.wrap (((byt s 0 : Nat) : Int) - 48) = ((byt s 0 : Nat) : Int) - 48 := w64 (by omega) (by omega)
      have w3 : IntKind.i64.wrap (((byt s 1 : Nat) : Int) - 48) = ((byt s 1 : Nat) : Int) - 48 := w64 (by omega) (by omega)
      have w4 : IntKind.i64.wrap ((((byt s 0 : Nat) : Int) - 48) * 10) = (((byt s 0 : Nat) : Int) - 48) * 10 := w64 (by omega) (by omega)
      have w5 : IntKind.i64.wrap ((((byt s 0 : Nat) : Int) - 48) * 10 + (((byt s 1 : Nat) : Int) - 48)) = ((10 * (byt s 0 - 48) + (byt s 1 - 48) : Nat) : Int) := by rw [w64 (by omega) (by omega)]; omega
      simp only [h2, e0, e1, c1, c2, c3, c4, w0, w1, w2, w3, w4, w5, go_sem]
      unfold twoV rdTwo
      rw [if_pos (by omega)]
      rfl
  · simp only [h2, go_sem]
    exact (no (by omega)).symm
theorem k_spec_l13Num {s : ByteArray} : C T X n_spec_l13Num [.string s] h = some (twoV s, h) := by
  refine C_go t_spec_l13Num rfl ?_
  unfold F_spec_l13Num
  have no : (¬ (s.size = 2 ∧ (48 ≤ byt s 0 ∧ byt s 0 ≤ 57) ∧ (48 ≤ byt s 1 ∧ byt s 1 ≤ 57))) → twoV s = .tuple ⟨[.int .i64 0, .bool false]⟩ := fun hn => by
    unfold twoV rdTwo
    rw [if_neg hn]
    rfl
  by_cases h2 : (s.size : Int) = 2
  · have e0 : ixV (.string s) (.int .i64 0) = some (.int .u8 (byt s 0 : Nat)) := ix_byt (i := 0) (by omega)
    have e1 : ixV (.string s) (.int .i64 1) = some (.int .u8 (byt s 1 : Nat)) := ix_byt (i := 1) (by omega)
    have b0 := byt_lt (s := s) (i := 0)
    have b1 := byt_lt (s := s) (i := 1)
    by_cases c1 : ((byt s 0 : Nat) : Int) < 48
    · simp only [h2, e0, e1, c1, go_sem]
      exact (no (by omega)).symm
    by_cases c2 : ((byt s 0 : Nat) : Int) > 57
    · simp only [h2, e0, e1, c1, c2, go_sem]
      exact (no (by omega)).symm
    by_cases c3 : ((byt s 1 : Nat) : Int) < 48
    · simp only [h2, e0, e1, c1, c2, c3, go_sem]
      exact (no (by omega)).symm
    by_cases c4 : ((byt s 1 : Nat) : Int) > 57
    · simp only [h2, e0, e1, c1, c2, c3, c4, go_sem]
      exact (no (by omega)).symm
    · have w0 : IntKind.u8.wrap (((byt s 0 : Nat) : Int) - 48) = ((byt s 0 : Nat) : Int) - 48 := wu8 (by omega) (by omega)
      have w1 : IntKind.u8.wrap (((byt s 1 : Nat) : Int) - 48) = ((byt s 1 : Nat) : Int) - 48 := wu8 (by omega) (by omega)
      have w2 : IntKind.i64.wrap (((byt s 0 : Nat) : Int) - 48) = ((byt s 0 : Nat) : Int) - 48 := w64 (by omega) (by omega)
      have w3 : IntKind.i64.wrap (((byt s 1 : Nat) : Int) - 48) = ((byt s 1 : Nat) : Int) - 48 := w64 (by omega) (by omega)
      have w4 : IntKind.i64.wrap (10 * (((byt s 0 : Nat) : Int) - 48)) = 10 * (((byt s 0 : Nat) : Int) - 48) := w64 (by omega) (by omega)
      have w5 : IntKind.i64.wrap (10 * (((byt s 0 : Nat) : Int) - 48) + (((byt s 1 : Nat) : Int) - 48)) = ((10 * (byt s 0 - 48) + (byt s 1 - 48) : Nat) : Int) := by rw [w64 (by omega) (by omega)]; omega
      simp only [h2, e0, e1, c1, c2, c3, c4, w0, w1, w2, w3, w4, w5, go_sem]
      unfold twoV rdTwo
      rw [if_pos (by omega)]
      rfl
  · simp only [h2, go_sem]
    exact (no (by omega)).symm
/-- What a map holds at a key. -/
def getV (m : List Pr) (k : ByteArray) : Value := .tuple ⟨[.string ((getK m k).getD noT), .bool (getK m k).isSome]⟩
theorem k_impl_get {k : ByteArray} (hm : Rows h 2 mv (prsL m)) (hl : m.length ≤ lim) : C T X n_impl_get [mv, .string k] h = some (getV m k, h) := by
  unfold lim at hl
  refine C_go t_impl_get rfl ?_
  unfold F_impl_get
  simp only [hm.lnm, zeros, fillAt, go_sem]
  refine w_for m.length (fun i t loc h' => h' = h ∧ t 1 = .string k ∧ t 8 = mv ∧ t 9 = .int .i64 m.length ∧ t 10 = .int .i64 i ∧ ∀ j, j < i → ¬ (m.getD j p0).k = k) ⟨rfl, rfl, rfl, rfl, rfl, fun j hj => by omega⟩ ?_
  rintro i t loc h' hi ⟨rfl, t1, t8, t9, t10, hj⟩
  simp only [t9, t10, go_sem]
  refine w_open (by simp only [go_sem]; rfl) ?_ ?_ <;> intro hc
  · have hi1 : i < m.length := by omega
    have hw : IntKind.i64.wrap ((i : Int) + 1) = ((i + 1 : Nat) : Int) := w64 (by omega) (by omega)
    have el := hm.el (f := prR) p0 hi1
    obtain ⟨q, hq⟩ : ∃ q, q = m.getD i p0 := ⟨_, rfl⟩
    rw [← hq] at el
    by_cases c : q.k = k
    · have c' : (q.k.toList == k.toList) = true := by rw [str_eq]; exact decide_eq_true c
      have hg := getK_first hi1 (by rw [← hq]; exact c) hj
      rw [← hq] at hg
      simp only [t1, t8, t9, t10, el.1, el.2.1, el.2.2, prR, c', zeros, fillAt, go_sem]
      unfold getV
      rw [hg]
      rfl
    · have c' : (q.k.toList == k.toList) = false := by rw [str_eq]; exact decide_eq_false c
      simp only [t1, t8, t9, t10, el.1, el.2.1, el.2.2, prR, c', hw, zeros, fillAt, go_sem]
      refine ⟨hi1, fun j hj' => ?_⟩
      by_cases e : j = i
      · rw [e, ← hq]; exact c
      · exact hj j (by omega)
  · have hn : getK m k = none := by
      cases hg : getK m k with
      | none => rfl
      | some v =>
        obtain ⟨j, h1, h2, _⟩ := getK_some hg
        exact absurd h2 (hj j (by omega))
    simp only [go_sem]
    unfold getV
    rw [hn]
    rfl
theorem k_spec_l13Get {k : ByteArray} (hm : Rows h 2 mv (prsL m)) (hl : m.length ≤ lim) : C T X n_spec_l13Get [mv, .string k] h = some (getV m k, h) := by
  unfold lim at hl
  refine C_go t_spec_l13Get rfl ?_
  unfold F_spec_l13Get
  simp only [go_sem]
  refine w_for m.length (fun i t loc h' => h' = h ∧ t 1 = .string k ∧ t 0 = mv ∧ t 6 = .int .i64 i ∧ ∀ j, j < i → ¬ (m.getD j p0).k = k) ⟨rfl, rfl, rfl, rfl, fun j hj => by omega⟩ ?_
  rintro i t loc h' hi ⟨rfl, t1, t0, t6, hj⟩
  simp only [t0, t6, hm.lnm, go_sem]
  refine w_open (by simp only [go_sem]; rfl) ?_ ?_ <;> intro hc
  · have hi1 : i < m.length := by omega
    have hw : IntKind.i64.wrap ((i : Int) + 1) = ((i + 1 : Nat) : Int) := w64 (by omega) (by omega)
    have el := hm.el (f := prR) p0 hi1
    have cl0 := hm.cell (f := prR) p0 hi1 (o := 0) (by omega)
    have cl1 := hm.cell (f := prR) p0 hi1 (o := 1) (by omega)
    obtain ⟨q, hq⟩ : ∃ q, q = m.getD i p0 := ⟨_, rfl⟩
    rw [← hq] at el cl0 cl1
    have k0 : ldC h' (elemP mv 2 i 0) 1 = some [.string q.k] := cl0
    have k1 : ldC h' (elemP mv 2 i 1) 1 = some [.string q.v] := cl1
    by_cases c : q.k = k
    · have c' : (q.k.toList == k.toList) = true := by rw [str_eq]; exact decide_eq_true c
      have hg := getK_first hi1 (by rw [← hq]; exact c) hj
      rw [← hq] at hg
      simp only [t0, t1, t6, el.1, el.2.1, k0, k1, c', go_sem]
      unfold getV
      rw [hg]
      rfl
    · have c' : (q.k.toList == k.toList) = false := by rw [str_eq]; exact decide_eq_false c
      simp only [t0, t1, t6, el.1, el.2.1, k0, k1, c', hw, go_sem]
      refine ⟨hi1, fun j hj' => ?_⟩
      by_cases e : j = i
      · rw [e, ← hq]; exact c
      · exact hj j (by omega)
  · have hn : getK m k = none := by
      cases hg : getK m k with
      | none => rfl
      | some v =>
        obtain ⟨j, h1, h2, _⟩ := getK_some hg
        exact absurd h2 (hj j (by omega))
    simp only [go_sem]
    unfold getV
    rw [hn]
    rfl
end
end Go.Proofs.YtjgacjidaeahdaaGreatDoor.Ab
set_option linter.unusedSimpArgs false
set_option linter.unusedVariables false
set_option linter.unnecessarySimpa false
set_option maxHeartbeats 4000000
namespace Go.Proofs.YtjgacjidaeahdaaGreatDoor.Ab
open Go.RowKit
/-- Whether something is so. -/
noncomputable def tB (p : Prop) : Bool := @decide p (Classical.propDecidable p)
theorem tB_t {p : Prop} (h : p) : tB p = true := by unfold tB; exact @decide_eq_true p (Classical.propDecidable p) h
theorem tB_f {p : Prop} (h : ¬ p) : tB p = false := by unfold tB; exact @decide_eq_false p (Classical.propDecidable p) h
theorem tB_iff {p q : Prop} (h : p ↔ q) : tB p = tB q := by
  by_cases c : p
  · rw [tB_t c, tB_t (h.1 c)]
  · rw [tB_f c, tB_f fun k => c (h.2 k)]
def okAt (m : List Pr) (i : Nat) : Prop := ((1 ≤ (m.getD i p0).k.size ∧ (m.getD i p0).k.size ≤ 8) ∧ (m.getD i p0).v.size ≤ 40) ∧ (0 < i → kLt (m.getD (i - 1) p0).k (m.getD i p0).k)
section
variable {X : CallF} {h : Heap} {m : List Pr} {mv : Value}
theorem k_spec_MapOk (hm : Rows h 2 mv (prsL m)) (hl : m.length ≤ lim) : C T X n_spec_MapOk [mv] h = some (.bool (tB (MapIs m)), h) := by
  unfold lim at hl
  refine C_go t_spec_MapOk rfl ?_
  unfold F_spec_MapOk
  by_cases hn : (m.length : Int) > 120
  · simp only [hm.lnm, hn, go_sem]
    exact (tB_f fun k => by have := k.1; omega).symm
  simp only [hm.lnm, hn, go_sem]
  refine w_for m.length (fun i t loc h' => h' = h ∧ t 0 = mv ∧ t 3 = .int .i64 i ∧ ∀ j, j < i → okAt m j) ⟨rfl, rfl, rfl, fun j hj => by omega⟩ ?_
  rintro i t loc h' hi ⟨rfl, t0, t3, hj⟩
  simp only [t0, t3, hm.lnm, go_sem]
  refine w_open (by simp only [go_sem]; rfl) ?_ ?_ <;> intro hc
  · have hi1 : i < m.length := by omega
    have hw : IntKind.i64.wrap ((i : Int) + 1) = ((i + 1 : Nat) : Int) := w64 (by omega) (by omega)
    have bad : ¬ okAt m i → tB (MapIs m) = false := fun hb => tB_f fun k => hb (k.2 i hi1)
    have el := hm.el (f := prR) p0 hi1
    have cl0 := hm.cell (f := prR) p0 hi1 (o := 0) (by omega)
    have cl1 := hm.cell (f := prR) p0 hi1 (o := 1) (by omega)
    have hok : okAt m i = okAt m i := rfl
    conv at hok => rhs; unfold okAt
    obtain ⟨q, hq⟩ : ∃ q, q = m.getD i p0 := ⟨_, rfl⟩
    rw [← hq] at el cl0 cl1 hok
    have k0 : ldC h' (elemP mv 2 i 0) 1 = some [.string q.k] := cl0
    have k1 : ldC h' (elemP mv 2 i 1) 1 = some [.string q.v] := cl1
    have hin := k_spec_l01In (X := X) (h := h') (n := (q.k.size : Int)) (lo := 1) (hi := 8)
    by_cases c1 : (1 : Int) ≤ q.k.size
    rotate_left
    · simp only [t0, t3, el.1, el.2.1, k0, k1, hin, c1, go_sem]
      exact (bad (by rw [hok]; omega)).symm
    by_cases c2 : (q.k.size : Int) ≤ 8
    rotate_left
    · simp only [t0, t3, el.1, el.2.1, k0, k1, hin, c1, c2, go_sem]
      exact (bad (by rw [hok]; omega)).symm
    by_cases c3 : (q.v.size : Int) > 40
    · simp only [t0, t3, el.1, el.2.1, k0, k1, hin, c1, c2, c3, go_sem]
      exact (bad (by rw [hok]; omega)).symm
    by_cases c4 : (i : Int) > 0
    rotate_left
    · simp only [t0, t3, el.1, el.2.1, k0, k1, hin, c1, c2, c3, c4, hw, go_sem]
      refine ⟨hi1, fun j hj' => ?_⟩
      by_cases e : j = i
      · rw [e, hok]; exact ⟨by omega, fun hp => by omega⟩
      · exact hj j (by omega)
    have elp := hm.el (f := prR) p0 (i := i - 1) (by omega)
    have clp := hm.cell (f := prR) p0 (i := i - 1) (o := 0) (by omega) (by omega)
    obtain ⟨q', hq'⟩ : ∃ q', q' = m.getD (i - 1) p0 := ⟨_, rfl⟩
    rw [← hq'] at elp clp hok
    have kp : ldC h' (elemP mv 2 (i - 1) 0) 1 = some [.string q'.k] := clp
    have hw' : IntKind.i64.wrap ((i : Int) - 1) = ((i - 1 : Nat) : Int) := by rw [w64 (by omega) (by omega)]; omega
    cases c5 : Op.bytesLess q'.k.toList q.k.toList with
    | true =>
      simp only [t0, t3, el.1, el.2.1, elp.1, elp.2.1, k0, k1, kp, hin, c1, c2, c3, c4, c5, hw, hw', go_sem]
      refine ⟨hi1, fun j hj' => ?_⟩
      by_cases e : j = i
      · rw [e, hok]; exact ⟨by omega, fun hp => c5⟩
      · exact hj j (by omega)
    | false =>
      simp only [t0, t3, el.1, el.2.1, elp.1, elp.2.1, k0, k1, kp, hin, c1, c2, c3, c4, c5, hw', go_sem]
      refine (bad ?_).symm
      rw [hok]
      intro k
      have := k.2 (by omega)
      unfold kLt at this
      rw [c5] at this
      cases this
  · simp only [go_sem]
    exact (tB_t ⟨by omega, fun j hj' => hj j (by omega)⟩).symm
theorem k_impl_MapOk (hm : Rows h 2 mv (prsL m)) (hl : m.length ≤ lim) : C T X n_impl_MapOk [mv] h = some (.bool (tB (MapIs m)), h) := by
  unfold lim at hl
  refine C_go t_impl_MapOk rfl ?_
  unfold F_impl_MapOk
  simp only [hm.lnm, zeros, fillAt, go_sem]
  refine w_for m.length (fun i t loc h' => h' = h ∧ t 0 = mv ∧ t 5 = mv ∧ t 6 = .int .i64 m.length ∧ t 7 = .int .i64 i ∧ ∀ j, j < i → okAt m j) ⟨rfl, rfl, rfl, rfl, rfl, fun j hj => by omega⟩ ?_
  rintro i t loc h' hi ⟨rfl, t0, t5, t6, t7, hj⟩
  simp only [t6, t7, go_sem]
  refine w_open (by simp only [go_sem]; rfl) ?_ ?_ <;> intro hc
  · have hi1 : i < m.length := by omega
    have hw : IntKind.i64.wrap ((i : Int) + 1) = ((i + 1 : Nat) : Int) := w64 (by omega) (by omega)
    have bad : ¬ okAt m i → tB (MapIs m) = false := fun hb => tB_f fun k => hb (k.2 i hi1)
    have el := hm.el (f := prR) p0 hi1
    have hok : okAt m i = okAt m i := rfl
    conv at hok => rhs; unfold okAt
    obtain ⟨q, hq⟩ : ∃ q, q = m.getD i p0 := ⟨_, rfl⟩
    rw [← hq] at el hok
    have hin := k_impl_in (X := X) (h := h') (n := (q.k.size : Int)) (lo := 1) (hi := 8)
    by_cases c1 : (1 : Int) ≤ q.k.size
    rotate_left
    · simp only [t0, t5, t6, t7, el.1, el.2.1, el.2.2, prR, zeros, fillAt, hin, c1, go_sem]
      exact (bad (by rw [hok]; omega)).symm
    by_cases c2 : (q.k.size : Int) ≤ 8
    rotate_left
    · simp only [t0, t5, t6, t7, el.1, el.2.1, el.2.2, prR, zeros, fillAt, hin, c1, c2, go_sem]
      exact (bad (by rw [hok]; omega)).symm
    by_cases c3 : (q.v.size : Int) > 40
    · simp only [t0, t5, t6, t7, el.1, el.2.1, el.2.2, prR, zeros, fillAt, hin, c1, c2, c3, go_sem]
      exact (bad (by rw [hok]; omega)).symm
    by_cases c4 : (i : Int) > 0
    rotate_left
    · simp only [t0, t5, t6, t7, el.1, el.2.1, el.2.2, prR, zeros, fillAt, hin, c1, c2, c3, c4, hw, go_sem]
      refine ⟨hi1, fun j hj' => ?_⟩
      by_cases e : j = i
      · rw [e, hok]; exact ⟨by omega, fun hp => by omega⟩
      · exact hj j (by omega)
    have elp := hm.el (f := prR) p0 (i := i - 1) (by omega)
    have clp := hm.cell (f := prR) p0 (i := i - 1) (o := 0) (by omega) (by omega)
    obtain ⟨q', hq'⟩ : ∃ q', q' = m.getD (i - 1) p0 := ⟨_, rfl⟩
    rw [← hq'] at elp clp hok
    have kp : ldC h' (elemP mv 2 (i - 1) 0) 1 = some [.string q'.k] := clp
    have hw' : IntKind.i64.wrap ((i : Int) - 1) = ((i - 1 : Nat) : Int) := by rw [w64 (by omega) (by omega)]; omega
    cases c5 : Op.bytesLess q'.k.toList q.k.toList with
    | true =>
      simp only [t0, t5, t6, t7, el.1, el.2.1, el.2.2, elp.1, elp.2.1, kp, prR, zeros, fillAt, hin, c1, c2, c3, c4, c5, hw, hw', go_sem]
      refine ⟨hi1, fun j hj' => ?_⟩
      by_cases e : j = i
      · rw [e, hok]; exact ⟨by omega, fun hp => c5⟩
      · exact hj j (by omega)
    | false =>
      simp only [t0, t5, t6, t7, el.1, el.2.1, el.2.2, elp.1, elp.2.1, kp, prR, zeros, fillAt, hin, c1, c2, c3, c4, c5, hw', go_sem]
      refine (bad ?_).symm
      rw [hok]
      intro k
      have := k.2 (by omega)
      unfold kLt at this
      rw [c5] at this
      cases this
  · simp only [t0, hm.lnm, go_sem]
    by_cases c : (m.length : Int) ≤ 120
    · rw [tB_t ⟨by omega, fun j hj' => hj j (by omega)⟩]; simp [c]
    · rw [tB_f fun k => by have := k.1; omega]; simp [c]
theorem k_impl_roundsOf [LibX X] {R : Nat} (hm : Rows h 2 mv (prsL m)) (hl : m.length ≤ lim) (hR : IsRnd m R) : C T X n_impl_roundsOf [mv] h = some (.int .i64 ((min R 7 : Nat) : Int), h) := by
  refine C_go t_impl_roundsOf rfl ?_
  unfold F_impl_roundsOf
  simp only [go_sem]
  refine w_for 8 (fun i t loc h' => h' = h ∧ t 0 = mv ∧ t 3 = .int .i64 i ∧ i ≤ R ∧ i ≤ 7) ⟨rfl, rfl, rfl, Nat.zero_le _, by omega⟩ ?_
  rintro i t loc h' hi ⟨rfl, t0, t3, hj, hj7⟩
  simp only [t0, t3, go_sem]
  refine w_open (by simp only [go_sem]; rfl) ?_ ?_ <;> intro hc
  · have hw : IntKind.i64.wrap ((i : Int) + 1) = ((i + 1 : Nat) : Int) := w64 (by omega) (by omega)
    have hg := k_impl_get (X := X) (k := qK i) hm hl
    have h2 := k_impl_two (X := X) (h := h') (n := i) (by omega)
    have hz := twoT_size (n := i) (by omega)
    have hz1 : (⟨[113]⟩ : Array UInt8).size + (twoT i).size ≤ 9223372036854775807 := by rw [asz]; omega
    unfold getV at hg
    by_cases c : i = R
    · have e : (getK m (qK i)).isSome = false := by rw [c, hR.2]; rfl
      simp only [t0, t3, h2, qK_app, hz1, hg, e, go_sem]
      rw [show min R 7 = i by omega]
    · have e : (getK m (qK i)).isSome = true := hR.1 i (by omega)
      simp only [t0, t3, h2, qK_app, hz1, hg, e, hw, go_sem]
      omega
  · simp only [t3, go_sem]
    rw [show min R 7 = i by omega]
theorem k_spec_l13Rounds {R : Nat} (hm : Rows h 2 mv (prsL m)) (hl : m.length ≤ 1048576) (hR : IsRnd m R) : C T X n_spec_l13Rounds [mv] h = some (.int .i64 (R : Int), h) := by
  have hle := rounds_le hR.1
  have hll : m.length ≤ lim := by unfold lim; omega
  refine C_go t_spec_l13Rounds rfl ?_
  unfold F_spec_l13Rounds
  have hz0 := twoT_size (n := 0) (by omega)
  have hz1 : (⟨[113]⟩ : Array UInt8).size + (twoT 0).size ≤ 9223372036854775807 := by rw [asz]; omega
  have h20 : C T X n_spec_l13Two [.int .i64 0] h = some (.string (twoT 0), h) := k_spec_l13Two (X := X) (h := h) (n := 0) (by omega)
  have hg0 := k_spec_l13Get (X := X) (k := qK 0) hm hll
  unfold getV at hg0
  simp only [h20, qK_app, hz1, hg0, go_sem]
  refine w_for R (fun i t loc h' => h' = h ∧ t 0 = mv ∧ t 3 = .int .i64 i ∧ t 5 = .bool (getK m (qK i)).isSome ∧ i ≤ R) ⟨rfl, rfl, rfl, rfl, Nat.zero_le _⟩ ?_
  rintro i t loc h' hi ⟨rfl, t0, t3, t5, hj⟩
  by_cases c : i = R
  · have e : (getK m (qK i)).isSome = false := by rw [c, hR.2]; rfl
    simp only [t0, t3, t5, e, go_sem]
    rw [c]
  · have e : (getK m (qK i)).isSome = true := hR.1 i (by omega)
    have hw : IntKind.i64.wrap ((i : Int) + 1) = ((i + 1 : Nat) : Int) := w64 (by omega) (by omega)
    have hg := k_spec_l13Get (X := X) (k := qK (i + 1)) hm hll
    have h2 := k_spec_l13Two (X := X) (h := h') (n := i + 1) (by omega)
    have hz := twoT_size (n := i + 1) (by omega)
    have hz1 : (⟨[113]⟩ : Array UInt8).size + (twoT (i + 1)).size ≤ 9223372036854775807 := by rw [asz]; omega
    unfold getV at hg
    simp only [t0, t3, t5, e, hw, h2, qK_app, hz1, hg, go_sem]
    omega
theorem k_impl_joined [LibX X] {i : Nat} (hi : i ≤ 1000000000) (hm : Rows h 2 mv (prsL m)) (hl : m.length ≤ lim) : C T X n_impl_joined [mv, .int .i64 (i : Int)] h = some (.bool (tB (Jn m i)), h) := by
  refine C_go t_impl_joined rfl ?_
  unfold F_impl_joined
  have hg := k_impl_get (X := X) (k := vK i) hm hl
  have h2 := k_impl_two (X := X) (h := h) (n := i) (by omega)
  have hz := twoT_size (n := i) (by omega)
  have hz1 : (⟨[118]⟩ : Array UInt8).size + (twoT i).size ≤ 9223372036854775807 := by rw [asz]; omega
  have hin := k_impl_in (X := X) (h := h) (n := (i : Int)) (lo := 0) (hi := 11)
  unfold getV at hg
  have c1 : (0 : Int) ≤ i := by omega
  cases e : (getK m (vK i)).isSome with
  | false =>
    simp only [h2, vK_app, hz1, hg, e, hin, go_sem]
    exact (tB_f fun k => by have := k.2; rw [e] at this; cases this).symm
  | true =>
    by_cases c2 : (i : Int) ≤ 11
    · simp only [h2, vK_app, hz1, hg, e, hin, c1, c2, go_sem]
      exact (tB_t ⟨by omega, e⟩).symm
    · simp only [h2, vK_app, hz1, hg, e, hin, c1, c2, go_sem]
      exact (tB_f fun k => by have := k.1; omega).symm
end
end Go.Proofs.YtjgacjidaeahdaaGreatDoor.Ab
