/- Joined: K32, P6, P15, P19, P20, K50. No conditions. -/
import Derived.Test.YtgmljppiiighmaaGreatDoorM15
import Derived.Test.YtgmljppiiighmaaGreatDoorM16
import Derived.Test.YtgmljppiiighmaaGreatDoorM5
import Derived.Test.YtgmljppiiighmaaGreatDoorM4
import Derived.Test.YtgmljppiiighmaaGreatDoorM12
set_option linter.unusedSimpArgs false
set_option linter.unusedVariables false
set_option linter.unnecessarySimpa false
set_option maxHeartbeats 4000000
namespace Go.Proofs.YtgmljppiiighmaaGreatDoor.Ab
open Go.RowKit
theorem catV_two {s : ByteArray} {l m : List Int} : catV s (l ++ m) = catV (catV s l) m := by simp [catV, List.foldl_append]
theorem catV_to {a : ByteArray} {l m : List Int} : catV a l ++ catV noT m = catV a (l ++ m) := by rw [catV_from, catV_two]
def numsE (es : List E) : List Int := es.flatMap fun e => [e.a, e.b, e.w1, e.w2, e.w3]
def numsC (m : List Cp) : List Int := m.flatMap fun c => [c.a, c.b]
def numsG (gs : List Gp) : List Int := gs.flatMap fun g => (g.ms.length : Int) :: (g.ms ++ [g.z])
def certN (size : Int) (es : List E) (m : List Cp) (ys : List Int) (gs : List Gp) : List Int :=
  size :: (es.length : Int) :: (numsE es ++ ((m.length : Int) :: (numsC m ++ (ys ++ ((gs.length : Int) :: numsG gs)))))
def certT (size : Int) (es : List E) (m : List Cp) (ys : List Int) (gs : List Gp) : ByteArray := catV noT (certN size es m ys gs)
theorem take_snocD {α : Type} {d : α} {l : List α} {i : Nat} (hi : i < l.length) : l.take (i + 1) = l.take i ++ [l.getD i d] := by
  rw [List.take_add_one, List.getElem?_eq_getElem hi, List.getD_eq_getElem?_getD, List.getElem?_eq_getElem hi]
  rfl
theorem numsE_snoc {es : List E} {i : Nat} (hi : i < es.length) : numsE (es.take (i + 1)) = numsE (es.take i) ++ [(es.getD i e0).a, (es.getD i e0).b, (es.getD i e0).w1, (es.getD i e0).w2, (es.getD i e0).w3] := by
  rw [take_snocD (d := e0) hi]; unfold numsE; rw [List.flatMap_append]; rfl
theorem numsC_snoc {m : List Cp} {i : Nat} (hi : i < m.length) : numsC (m.take (i + 1)) = numsC (m.take i) ++ [(m.getD i c0).a, (m.getD i c0).b] := by
  rw [take_snocD (d := c0) hi]; unfold numsC; rw [List.flatMap_append]; rfl
theorem numsG_snoc {gs : List Gp} {i : Nat} (hi : i < gs.length) : numsG (gs.take (i + 1)) = numsG (gs.take i) ++ (((gs.getD i g0).ms.length : Int) :: ((gs.getD i g0).ms ++ [(gs.getD i g0).z])) := by
  rw [take_snocD (d := g0) hi]; unfold numsG; rw [List.flatMap_append]; simp
def certV (size : Int) (ev mv yv gv : Value) : Value := .agg ⟨[.int .i64 size, ev, mv, yv, gv]⟩
section
variable {X : CallF} {h : Heap} {ev yv gv mv : Value} {ys : List Int} {gs : List Gp} {es : List E} {m : List Cp} {size : Int}
theorem numsE_len : (numsE es).length = 5 * es.length := by
  unfold numsE
  induction es with
  | nil => rfl
  | cons e es ih => rw [List.flatMap_cons, List.length_append, ih, List.length_cons]; simp; omega
theorem numsC_len : (numsC m).length = 2 * m.length := by
  unfold numsC
  induction m with
  | nil => rfl
  | cons e m ih => rw [List.flatMap_cons, List.length_append, ih, List.length_cons]; simp; omega
theorem numsG_len (hb : ∀ g ∈ gs, g.ms.length ≤ 1048576) : (numsG gs).length ≤ 1048578 * gs.length := by
  unfold numsG
  induction gs with
  | nil => exact Nat.le_refl _
  | cons e gs ih =>
    have := ih fun g hg => hb g (List.mem_cons_of_mem _ hg)
    have := hb e List.mem_cons_self
    rw [List.flatMap_cons, List.length_append, List.length_cons]
    simp only [List.length_cons, List.length_append, List.length_nil]
    omega
theorem fitV {l m : List Int} (h : l.length + m.length ≤ 100000000000000) : (catV noT l).size + (catV noT m).size ≤ 9223372036854775807 := by
  have h1 := catV_size (s := noT) (l := l)
  have h2 := catV_size (s := noT) (l := m)
  have h3 : noT.size = 0 := rfl
  omega
theorem gok_every {size : Int} {es : List E} (g : GOk size es) : ∀ e ∈ es, EOk size e := fun e he => by
  obtain ⟨i, hi, rfl⟩ := mem_getD (d := e0) he
  exact (g.2 i hi).1
theorem var1 {n : Int} (h0 : 0 ≤ n) (h1 : n ≤ 1000000000) : C T X n_spec_l01Var [.int .i64 n] h = some (.string (catV noT [n]), h) := by
  have e : catV noT [n] = vt n := by
    show noT ++ vt n = vt n
    exact ByteArray.empty_append
  rw [e]
  exact k_spec_l01Var' h0 h1
open Classical in
theorem k_spec_CertText (he : Rows h 5 ev (edges es)) (hm : Rows h 2 mv (cps m)) (hy : Rows h 1 yv (ints ys)) (hg : RowsG h gv gs) (hl : es.length ≤ lim) (hml : m.length ≤ 1048576) (hb : PfBnd ys gs) :
    C T X n_spec_CertText [certV size ev mv yv gv] h = some (.tuple ⟨[.string (if CertOk size es m ys gs then certT size es m ys gs else noT), .bool (decide (CertOk size es m ys gs))]⟩, h) := by
  have hc := k_spec_Certifies (X := X) (size := size) he hm hy hg hl hml hb
  refine C_go t_spec_CertText rfl ?_
  unfold F_spec_CertText certV
  unfold graphV proofV at hc
  by_cases g : CertOk size es m ys gs
  rotate_left
  · rw [if_neg g]
    simp only [hc, g, go_sem]
  rw [if_pos g]
  have hgo := g.1.1.1
  have hsz := hgo.1
  have hE := gok_every hgo
  have hel := gok_len hgo
  unfold lim at hl
  have vs := var1 (X := X) (h := h) (n := size) (by omega) (by omega)
  have vn := var1 (X := X) (h := h) (n := (es.length : Int)) (by omega) (by omega)
  have ft := fitV (l := [size]) (m := [(es.length : Int)]) (by simp)
  simp only [hc, g, he.lnm, vs, vn, catV_to, ft, List.prefix_refl, List.cons_append, List.nil_append, go_sem]
  obtain ⟨A, hA⟩ : ∃ A : List Int, A = [size, (es.length : Int)] := ⟨_, rfl⟩
  rw [← hA]
  have hAl : A.length = 2 := by rw [hA]; rfl
  refine w_for es.length (fun i t loc h' => h' = h ∧ loc 1 = some [.int .i64 size, ev, mv, yv, gv] ∧ t 5 = .int .i64 i ∧ t 4 = .string (catV noT (A ++ numsE (es.take i)))) ⟨rfl, rfl, rfl, by rw [List.take_zero]; unfold numsE; rw [List.flatMap_nil, List.append_nil]; rfl⟩ ?_
  rintro i t loc h' hi ⟨rfl, l1, t5, t4⟩
  simp only [l1, t5, he.lnm, go_sem]
  refine w_open (by simp only [go_sem]; rfl) ?_ ?_ <;> intro hc
  · have hi1 : i < es.length := by omega
    have hw : IntKind.i64.wrap ((i : Int) + 1) = ((i + 1 : Nat) : Int) := w64 (by omega) (by omega)
    have el := edge_el he hi1
    have q := hE _ (getD_mem (d := e0) hi1)
    obtain ⟨e, hee⟩ : ∃ e, e = es.getD i e0 := ⟨_, rfl⟩
    have sn := numsE_snoc hi1
    rw [← hee] at el q sn
    unfold EOk at q
    have v1 := var1 (X := X) (h := h') (n := e.a) (by omega) (by omega)
    have v2 := var1 (X := X) (h := h') (n := e.b) (by omega) (by omega)
    have v3 := var1 (X := X) (h := h') (n := e.w1) (by omega) (by omega)
    have v4 := var1 (X := X) (h := h') (n := e.w2) (by omega) (by omega)
    have v5 := var1 (X := X) (h := h') (n := e.w3) (by omega) (by omega)
    obtain ⟨L, hL⟩ : ∃ L : List Int, L = A ++ numsE (es.take i) := ⟨_, rfl⟩
    have hLl : L.length ≤ 100000 := by rw [hL, List.length_append, numsE_len, List.length_take]; omega
    rw [← hL] at t4
    have f1 := fitV (l := L) (m := [e.a]) (by simp; omega)
    have f2 := fitV (l := L ++ [e.a]) (m := [e.b]) (by simp; omega)
    have f3 := fitV (l := L ++ [e.a, e.b]) (m := [e.w1]) (by simp; omega)
    have f4 := fitV (l := L ++ [e.a, e.b, e.w1]) (m := [e.w2]) (by simp; omega)
    have f5 := fitV (l := L ++ [e.a, e.b, e.w1, e.w2]) (m := [e.w3]) (by simp; omega)
    simp only [l1, t4, t5, el.1, el.2.2.1, v1, v2, v3, v4, v5, f1, f2, f3, f4, f5, catV_to, List.append_assoc, List.cons_append, List.nil_append, List.prefix_refl, hw, go_sem]
    exact ⟨hi1, by rw [sn, hL, List.append_assoc]⟩
  have hin : i = es.length := by omega
  subst hin
  rw [List.take_length] at t4
  obtain ⟨A1, hA1⟩ : ∃ A1 : List Int, A1 = A ++ numsE es := ⟨_, rfl⟩
  rw [← hA1] at t4
  have hA1l : A1.length = 2 + 5 * es.length := by rw [hA1, List.length_append, numsE_len, hAl]
  have hmk := mok_len g.2.1
  have vm := var1 (X := X) (h := h') (n := (m.length : Int)) (by omega) (by omega)
  have ft := fitV (l := A1) (m := [(m.length : Int)]) (by simp; omega)
  simp only [l1, t4, hm.lnm, vm, catV_to, ft, go_sem]
  obtain ⟨A2, hA2⟩ : ∃ A2 : List Int, A2 = A1 ++ [(m.length : Int)] := ⟨_, rfl⟩
  rw [← hA2]
  have hA2l : A2.length = 3 + 5 * es.length := by rw [hA2, List.length_append, hA1l]; simp; omega
  obtain ⟨h, hh⟩ : ∃ h, h = h' := ⟨_, rfl⟩
  rw [← hh] at he hm hy hg ⊢
  clear t4 t5 l1 vm vs vn
  refine w_for m.length (fun i t loc h' => h' = h ∧ loc 1 = some [.int .i64 size, ev, mv, yv, gv] ∧ t 7 = .int .i64 i ∧ t 4 = .string (catV noT (A2 ++ numsC (m.take i)))) ⟨rfl, rfl, rfl, by rw [List.take_zero]; unfold numsC; rw [List.flatMap_nil, List.append_nil]; rfl⟩ ?_
  rintro i t loc h' hi ⟨rfl, l1, t7, t4⟩
  simp only [l1, t7, hm.lnm, go_sem]
  refine w_open (by simp only [go_sem]; rfl) ?_ ?_ <;> intro hc
  · have hi1 : i < m.length := by omega
    have hw : IntKind.i64.wrap ((i : Int) + 1) = ((i + 1 : Nat) : Int) := w64 (by omega) (by omega)
    have el := cp_el hm hi1
    have q := g.2.1.2 i hi1
    have sn := numsC_snoc hi1
    obtain ⟨e, hee⟩ : ∃ e, e = m.getD i c0 := ⟨_, rfl⟩
    unfold CpOk at q
    rw [← hee] at el q sn
    have qr : 0 ≤ e.a ∧ e.a ≤ 9 ∧ 0 ≤ e.b ∧ e.b ≤ 9 := by
      rcases firstIx_cases (p := Join e.a e.b) e0 es with ⟨c1, _⟩ | ⟨j, _, c2, c3, _⟩
      · have := q.2.1
        unfold edgeIx at this
        omega
      · have := hE _ (getD_mem (d := e0) c2)
        unfold EOk at this
        unfold Join at c3
        omega
    have v1 := var1 (X := X) (h := h') (n := e.a) (by omega) (by omega)
    have v2 := var1 (X := X) (h := h') (n := e.b) (by omega) (by omega)
    obtain ⟨L, hL⟩ : ∃ L : List Int, L = A2 ++ numsC (m.take i) := ⟨_, rfl⟩
    have hLl : L.length ≤ 10000000 := by rw [hL, List.length_append, numsC_len, List.length_take]; omega
    rw [← hL] at t4
    have f1 := fitV (l := L) (m := [e.a]) (by simp; omega)
    have f2 := fitV (l := L ++ [e.a]) (m := [e.b]) (by simp; omega)
    simp only [l1, t4, t7, el.1, el.2.1, el.2.2.2.1, el.2.2.2.2, v1, v2, f1, f2, catV_to, List.append_assoc, List.cons_append, List.nil_append, List.prefix_refl, hw, go_sem]
    exact ⟨hi1, by rw [sn, hL, List.append_assoc]⟩
  have hin : i = m.length := by omega
  subst hin
  rw [List.take_length] at t4
  obtain ⟨A3, hA3⟩ : ∃ A3 : List Int, A3 = A2 ++ numsC m := ⟨_, rfl⟩
  rw [← hA3] at t4
  have hA3l : A3.length = 3 + 5 * es.length + 2 * m.length := by rw [hA3, List.length_append, hA2l, numsC_len]
  simp only [l1, t4, go_sem]
  obtain ⟨h, hh⟩ : ∃ h, h = h' := ⟨_, rfl⟩
  rw [← hh] at he hm hy hg ⊢
  clear t4 t7 l1
  have hyl := g.1.1.2.1
  refine w_for ys.length (fun i t loc h' => h' = h ∧ loc 1 = some [.int .i64 size, ev, mv, yv, gv] ∧ t 8 = .int .i64 i ∧ t 4 = .string (catV noT (A3 ++ ys.take i))) ⟨rfl, rfl, rfl, by rw [List.take_zero, List.append_nil]; rfl⟩ ?_
  rintro i t loc h' hi ⟨rfl, l1, t8, t4⟩
  simp only [l1, t8, ints_ln hy, go_sem]
  refine w_open (by simp only [go_sem]; rfl) ?_ ?_ <;> intro hc
  · have hi1 : i < ys.length := by omega
    have hw : IntKind.i64.wrap ((i : Int) + 1) = ((i + 1 : Nat) : Int) := w64 (by omega) (by omega)
    have el := int_el hy hi1
    have q := g.1.2.1 i hi1
    have v1 := var1 (X := X) (h := h') (n := ys.getD i 0) (by omega) (by omega)
    have f1 := fitV (l := A3 ++ ys.take i) (m := [ys.getD i 0]) (by rw [List.length_append, List.length_take]; simp; omega)
    simp only [l1, t4, t8, el.1, el.2, v1, f1, catV_to, hw, go_sem]
    exact ⟨hi1, by rw [take_snocD (d := 0) hi1, List.append_assoc]⟩
  have hin : i = ys.length := by omega
  subst hin
  rw [List.take_length] at t4
  have hgl8 := g.1.1.2.2
  have vg := var1 (X := X) (h := h') (n := (gs.length : Int)) (by omega) (by omega)
  have ft := fitV (l := A3 ++ ys) (m := [(gs.length : Int)]) (by rw [List.length_append]; simp; omega)
  simp only [l1, t4, hg.ln, vg, catV_to, ft, go_sem]
  obtain ⟨A4, hA4⟩ : ∃ A4 : List Int, A4 = A3 ++ ys ++ [(gs.length : Int)] := ⟨_, rfl⟩
  rw [← hA4]
  have hA4l : A4.length = 4 + 5 * es.length + 2 * m.length + ys.length := by rw [hA4, List.length_append, List.length_append, hA3l]; simp; omega
  obtain ⟨h, hh⟩ : ∃ h, h = h' := ⟨_, rfl⟩
  rw [← hh] at he hm hy hg ⊢
  clear t4 t8 l1 vg
  refine w_for gs.length (fun i t loc h' => h' = h ∧ loc 1 = some [.int .i64 size, ev, mv, yv, gv] ∧ t 9 = .int .i64 i ∧ t 4 = .string (catV noT (A4 ++ numsG (gs.take i)))) ⟨rfl, rfl, rfl, by rw [List.take_zero]; unfold numsG; rw [List.flatMap_nil, List.append_nil]; rfl⟩ ?_
  rintro i t loc h' hi ⟨rfl, l1, t9, t4⟩
  simp only [l1, t9, hg.ln, go_sem]
  refine w_open (by simp only [go_sem]; rfl) ?_ ?_ <;> intro hc
  · have hi1 : i < gs.length := by omega
    have hw : IntKind.i64.wrap ((i : Int) + 1) = ((i + 1 : Nat) : Int) := w64 (by omega) (by omega)
    obtain ⟨x, el1, el2, el3, el4, el5, hx⟩ := hg.el hi1
    have q := (g.1.2.2.1 i hi1).1
    have hgl := numsG_len (gs := gs.take i) fun g q => hb.2.2 g (List.mem_of_mem_take q)
    rw [List.length_take] at hgl
    have hgm := hb.2.2 _ (getD_mem (d := g0) hi1)
    have sn := numsG_snoc hi1
    obtain ⟨g1, hg1⟩ : ∃ g1, g1 = gs.getD i g0 := ⟨_, rfl⟩
    rw [← hg1] at el3 hx q hgm sn
    unfold GrOk at q
    have v1 := var1 (X := X) (h := h') (n := (g1.ms.length : Int)) (by omega) (by omega)
    obtain ⟨L, hL⟩ : ∃ L : List Int, L = A4 ++ numsG (gs.take i) := ⟨_, rfl⟩
    have hLl : L.length ≤ 100000000 := by rw [hL, List.length_append]; omega
    rw [← hL] at t4
    have f1 := fitV (l := L) (m := [(g1.ms.length : Int)]) (by simp; omega)
    simp only [l1, t4, t9, el1, el3, ints_ln hx, v1, f1, catV_to, zeros, fillAt, go_sem]
    obtain ⟨B, hB⟩ : ∃ B : List Int, B = L ++ [(g1.ms.length : Int)] := ⟨_, rfl⟩
    have hBl : B.length ≤ 100000001 := by rw [hB, List.length_append]; simp; omega
    rw [← hB]
    obtain ⟨h, hh⟩ : ∃ h, h = h' := ⟨_, rfl⟩
    rw [← hh] at he hm hy hg hx ⊢
    refine w_for g1.ms.length (fun j t loc h' => h' = h ∧ loc 1 = some [.int .i64 size, ev, mv, yv, gv] ∧ loc 10 = some [x, .int .i64 g1.z] ∧ t 9 = .int .i64 i ∧ t 11 = .int .i64 j ∧ t 4 = .string (catV noT (B ++ g1.ms.take j))) ⟨rfl, rfl, rfl, rfl, rfl, by rw [List.take_zero, List.append_nil]; rfl⟩ ?_
    rintro j t loc h' hj ⟨rfl, l1, l10, t9, t11, t4⟩
    simp only [l1, l10, t9, t11, ints_ln hx, go_sem]
    refine w_open (by simp only [go_sem]; rfl) ?_ ?_ <;> intro hc
    · have hj1 : j < g1.ms.length := by omega
      have hw : IntKind.i64.wrap ((j : Int) + 1) = ((j + 1 : Nat) : Int) := w64 (by omega) (by omega)
      have elj := int_el hx hj1
      have qj := q.2 j hj1
      have v1 := var1 (X := X) (h := h') (n := g1.ms.getD j 0) (by omega) (by omega)
      have f1 := fitV (l := B ++ g1.ms.take j) (m := [g1.ms.getD j 0]) (by rw [List.length_append, List.length_take]; simp; omega)
      simp only [l1, l10, t4, t9, t11, elj.1, elj.2, v1, f1, catV_to, hw, go_sem]
      exact ⟨hj1, by rw [take_snocD (d := 0) hj1, List.append_assoc]⟩
    · have hjn : j = g1.ms.length := by omega
      subst hjn
      rw [List.take_length] at t4
      have v1 := var1 (X := X) (h := h') (n := g1.z) (by omega) (by omega)
      have f1 := fitV (l := B ++ g1.ms) (m := [g1.z]) (by rw [List.length_append]; simp; omega)
      simp only [l1, l10, t4, t9, v1, f1, catV_to, hw, go_sem]
      exact ⟨hi1, by rw [sn, hB, hL]; simp⟩
  · have hin : i = gs.length := by omega
    subst hin
    rw [List.take_length] at t4
    simp only [t4, go_sem]
    have e : A4 ++ numsG gs = certN size es m ys gs := by
      rw [hA4, hA3, hA2, hA1, hA]
      simp [certN]
    rw [e]
    rfl
end
end Go.Proofs.YtgmljppiiighmaaGreatDoor.Ab
set_option linter.unusedSimpArgs false
set_option linter.unusedVariables false
set_option linter.unnecessarySimpa false
set_option maxHeartbeats 4000000
namespace Go.Proofs.YtgmljppiiighmaaGreatDoor.Ab
open Go.RowKit
section
variable {α : Type} {s : ByteArray} {p q r : Nat × Bool} {l m : List Int}
/-- So many are read, as long as all is well. -/
def rdN (step : Nat × Bool → α × (Nat × Bool)) : Nat → Nat × Bool → List α × (Nat × Bool)
  | 0, p => ([], p)
  | n + 1, p => if p.2 = true then ([], p) else ((step p).1 :: (rdN step n (step p).2).1, (rdN step n (step p).2).2)
/-- On the way. -/
def RdTo (step : Nat × Bool → α × (Nat × Bool)) (n : Nat) (p0 : Nat × Bool) (L : List α) (k : Nat) (p : Nat × Bool) : Prop := rdN step n p0 = (L ++ (rdN step k p).1, (rdN step k p).2)
theorem RdTo.start {step : Nat × Bool → α × (Nat × Bool)} {n : Nat} : RdTo step n p [] n p := by unfold RdTo; simp
theorem RdTo.next {step : Nat × Bool → α × (Nat × Bool)} {n k : Nat} {p0 : Nat × Bool} {L : List α} (h : RdTo step n p0 L (k + 1) p) (hp : p.2 = false) : RdTo step n p0 (L ++ [(step p).1]) k (step p).2 := by
  unfold RdTo at *
  rw [h]
  have e : rdN step (k + 1) p = ((step p).1 :: (rdN step k (step p).2).1, (rdN step k (step p).2).2) := by
    rw [rdN, if_neg (by rw [hp]; simp)]
  rw [e]
  simp
theorem RdTo.done {step : Nat × Bool → α × (Nat × Bool)} {n k : Nat} {p0 : Nat × Bool} {L : List α} (h : RdTo step n p0 L k p) (hp : k = 0 ∨ p.2 = true) : rdN step n p0 = (L, p) := by
  unfold RdTo at h
  rw [h]
  rcases hp with rfl | hp
  · simp [rdN]
  · cases k with
    | zero => simp [rdN]
    | succ k => rw [rdN, if_pos hp]; simp
theorem rdN_len {step : Nat × Bool → α × (Nat × Bool)} : ∀ {n : Nat} {p : Nat × Bool}, (rdN step n p).1.length ≤ n
  | 0, _ => Nat.le_refl 0
  | n + 1, p => by
    rw [rdN]
    split
    · exact Nat.zero_le _
    · have := rdN_len (step := step) (n := n) (p := (step p).2)
      simp only [List.length_cons]
      omega
theorem RdTo.len {step : Nat × Bool → α × (Nat × Bool)} {n k : Nat} {p0 : Nat × Bool} {L : List α} (h : RdTo step n p0 L k p) : L.length ≤ n := by
  have h1 := rdN_len (step := step) (n := n) (p := p0)
  unfold RdTo at h
  rw [h] at h1
  simp only [List.length_append] at h1
  omega
theorem segN_append {a b c : Nat} (h1 : a ≤ b) (h2 : b ≤ c) : segN s a c = segN s a b ++ segN s b c := by
  unfold segN
  rw [← List.map_append]
  congr 1
  have := List.take_append_drop (b - a) ((s.data.toList.drop a).take (c - a))
  rw [List.take_take, Nat.min_eq_left (by omega), List.drop_take, List.drop_drop, show a + (b - a) = b by omega, show c - a - (b - a) = c - b by omega] at this
  exact this.symm
def bysOf (l : List Int) : List Int := l.flatMap fun n => varL n.toNat
theorem bysOf_append : bysOf (l ++ m) = bysOf l ++ bysOf m := by simp [bysOf]
/-- All that was read, well. -/
def Rd (s : ByteArray) (p q : Nat × Bool) (l : List Int) : Prop := p.2 = false ∧ q.2 = false ∧ p.1 ≤ q.1 ∧ q.1 ≤ s.size ∧ segN s p.1 q.1 = bysOf l ∧ ∀ x ∈ l, 0 ≤ x ∧ x ≤ 1000000000
theorem Rd.nil (h : p.2 = false) (hp : p.1 ≤ s.size) : Rd s p p [] := ⟨h, h, Nat.le_refl _, hp, segN_nil, fun x hx => absurd hx List.not_mem_nil⟩
theorem Rd.trans (a : Rd s p q l) (b : Rd s q r m) : Rd s p r (l ++ m) := by
  obtain ⟨a1, a2, a3, a4, a5, a6⟩ := a
  obtain ⟨b1, b2, b3, b4, b5, b6⟩ := b
  refine ⟨a1, b2, by omega, b4, ?_, fun x hx => (List.mem_append.1 hx).elim (a6 x) (b6 x)⟩
  rw [segN_append a3 b3, a5, b5, bysOf_append]
theorem num_bad (h : p.2 = true) : (numStep s p).2.2 = true := by unfold numStep; rw [h]
theorem num_rd (h : (numStep s p).2.2 = false) : Rd s p (numStep s p).2 [(numStep s p).1] := by
  have hp : p.2 = false := by
    cases hb : p.2 with
    | false => rfl
    | true => rw [num_bad hb] at h; cases h
  have h' := h
  unfold numStep at h' ⊢
  rw [hp] at h' ⊢
  simp only at h' ⊢
  cases hr : rvAt s (p.1 : Int) with
  | none => rw [hr] at h'; simp at h'
  | some k =>
    obtain ⟨n, k⟩ := k
    have hb := rvAt_bnd hr
    have hs := rvAt_seg hr
    refine ⟨hp, rfl, by simp only; omega, hb.2.2, ?_, fun x hx => ?_⟩
    · rw [hs.1]
      simp [bysOf]
    · rw [List.mem_singleton.1 hx]
      simp only
      omega
theorem rdN_bad {step : Nat × Bool → α × (Nat × Bool)} {n : Nat} (h : p.2 = true) : (rdN step n p).2.2 = true := by
  cases n with
  | zero => exact h
  | succ n => rw [rdN, if_pos h]; exact h
theorem rdN_rd {step : Nat × Bool → α × (Nat × Bool)} {f : α → List Int} (hs : ∀ p, (step p).2.2 = false → Rd s p (step p).2 (f (step p).1)) : ∀ {n : Nat} {p : Nat × Bool}, p.1 ≤ s.size → (rdN step n p).2.2 = false → Rd s p (rdN step n p).2 ((rdN step n p).1.flatMap f) ∧ (rdN step n p).1.length = n
  | 0, p, hp, h => ⟨Rd.nil h hp, rfl⟩
  | n + 1, p, hp, h => by
    have hf : p.2 = false := by
      cases hb : p.2 with
      | false => rfl
      | true => rw [rdN_bad hb] at h; cases h
    have e : rdN step (n + 1) p = ((step p).1 :: (rdN step n (step p).2).1, (rdN step n (step p).2).2) := by
      rw [rdN, if_neg (by rw [hf]; simp)]
    rw [e] at h ⊢
    simp only at h ⊢
    have h1 : (step p).2.2 = false := by
      cases hb : (step p).2.2 with
      | false => rfl
      | true => rw [rdN_bad hb] at h; cases h
    have r1 := hs p h1
    obtain ⟨r2, r3⟩ := rdN_rd hs (n := n) r1.2.2.2.1 h
    exact ⟨by rw [List.flatMap_cons]; exact r1.trans r2, by rw [List.length_cons, r3]⟩
def eStep (s : ByteArray) (p : Nat × Bool) : E × (Nat × Bool) := (⟨sV s p 0, sV s p 1, sV s p 2, sV s p 3, sV s p 4⟩, sS s p 5)
def cStep (s : ByteArray) (p : Nat × Bool) : Cp × (Nat × Bool) := (⟨sV s p 0, sV s p 1⟩, sS s p 2)
def gStep (cap : Int → Nat) (s : ByteArray) (p : Nat × Bool) : Gp × (Nat × Bool) :=
  (⟨(rdN (numStep s) (cap (numStep s p).1) (numStep s p).2).1, (numStep s (rdN (numStep s) (cap (numStep s p).1) (numStep s p).2).2).1⟩, (numStep s (rdN (numStep s) (cap (numStep s p).1) (numStep s p).2).2).2)
theorem bad_of_not {a b : Bool} (h : a = true → b = true) (hb : b = false) : a = false := by
  cases a with
  | false => rfl
  | true => rw [h rfl] at hb; cases hb
theorem sS_rd {p : Nat × Bool} (hp : p.1 ≤ s.size) : ∀ i, (sS s p i).2 = false → Rd s p (sS s p i) ((List.range i).map fun j => sV s p j)
  | 0, h => Rd.nil h hp
  | i + 1, h => by
    have hn : sS s p (i + 1) = (numStep s (sS s p i)).2 := rfl
    rw [hn] at h ⊢
    have r2 := num_rd h
    have r1 := sS_rd hp i (bad_of_not num_bad h)
    rw [List.range_succ, List.map_append]
    exact r1.trans r2
theorem Rd.le (a : Rd s p q l) : p.1 ≤ s.size := by obtain ⟨_, _, h1, h2, _⟩ := a; omega
theorem sS_rd' {i : Nat} (h : (sS s p (i + 1)).2 = false) : Rd s p (sS s p (i + 1)) ((List.range (i + 1)).map fun j => sV s p j) := by
  have h1 : (sS s p 1).2 = false := by
    have : ∀ k, (sS s p (1 + k)).2 = false → (sS s p 1).2 = false := fun k => by
      induction k with
      | zero => exact id
      | succ k ih => exact fun h => ih (bad_of_not num_bad h)
    exact this i (by rw [Nat.add_comm]; exact h)
  exact sS_rd (num_rd h1).le (i + 1) h
theorem eStep_rd (h : (eStep s p).2.2 = false) : Rd s p (eStep s p).2 ((fun e : E => [e.a, e.b, e.w1, e.w2, e.w3]) (eStep s p).1) := sS_rd' h
theorem cStep_rd (h : (cStep s p).2.2 = false) : Rd s p (cStep s p).2 ((fun e : Cp => [e.a, e.b]) (cStep s p).1) := sS_rd' h
theorem gStep_parts {cap : Int → Nat} (h : (gStep cap s p).2.2 = false) : (rdN (numStep s) (cap (numStep s p).1) (numStep s p).2).2.2 = false ∧ (numStep s p).2.2 = false := by
  have h1 : (rdN (numStep s) (cap (numStep s p).1) (numStep s p).2).2.2 = false := bad_of_not num_bad h
  exact ⟨h1, bad_of_not rdN_bad h1⟩
theorem single_flat : l.flatMap (fun n => [n]) = l := by
  induction l with
  | nil => rfl
  | cons a l ih => rw [List.flatMap_cons, ih]; rfl
/-- A group is well read if no number of members is cut. -/
theorem gStep_rd {cap : Int → Nat} (h : (gStep cap s p).2.2 = false) (hc : ((gStep cap s p).1.ms.length : Int) = (numStep s p).1) : Rd s p (gStep cap s p).2 ((fun g : Gp => (g.ms.length : Int) :: (g.ms ++ [g.z])) (gStep cap s p).1) := by
  obtain ⟨h1, h2⟩ := gStep_parts h
  have r1 := num_rd h2
  have r2 := (rdN_rd (f := fun n => [n]) (fun p h => num_rd h) r1.2.2.2.1 h1).1
  rw [single_flat] at r2
  have r3 := num_rd h
  have := (r1.trans r2).trans r3
  simp only
  rw [hc]
  exact this
end
def rz (s : ByteArray) : Int × (Nat × Bool) := numStep s (0, false)
def rne (s : ByteArray) : Int × (Nat × Bool) := numStep s (rz s).2
def re (cap : Int → Nat) (s : ByteArray) : List E × (Nat × Bool) := rdN (eStep s) (cap (rne s).1) (rne s).2
def rnm (cap : Int → Nat) (s : ByteArray) : Int × (Nat × Bool) := numStep s (re cap s).2
def rm (cap : Int → Nat) (s : ByteArray) : List Cp × (Nat × Bool) := rdN (cStep s) (cap (rnm cap s).1) (rnm cap s).2
def ry (cap : Int → Nat) (s : ByteArray) : List Int × (Nat × Bool) := rdN (numStep s) (cap (rz s).1) (rm cap s).2
def rgn (cap : Int → Nat) (s : ByteArray) : Int × (Nat × Bool) := numStep s (ry cap s).2
def rg (cap : Int → Nat) (s : ByteArray) : List Gp × (Nat × Bool) := rdN (gStep cap s) (cap (rgn cap s).1) (rgn cap s).2
def CokI (s : ByteArray) : Prop := (rg Int.toNat s).2.2 = false ∧ (rg Int.toNat s).2.1 = s.size ∧ CertOk (rz s).1 (re Int.toNat s).1 (rm Int.toNat s).1 (ry Int.toNat s).1 (rg Int.toNat s).1
def cap100 (n : Int) : Nat := min n.toNat 100
def CokS (s : ByteArray) : Prop := (rg cap100 s).2.2 = false ∧ CertOk (rz s).1 (re cap100 s).1 (rm cap100 s).1 (ry cap100 s).1 (rg cap100 s).1 ∧ certT (rz s).1 (re cap100 s).1 (rm cap100 s).1 (ry cap100 s).1 (rg cap100 s).1 = s
theorem grok_len {size : Int} {g : Gp} (h : GrOk size g) (hs : size ≤ 9) : g.ms.length ≤ 9 := by
  have key : ∀ j, j < g.ms.length → (j : Int) ≤ g.ms.getD j 0 := by
    intro j
    induction j with
    | zero => intro hj; exact (h.2 0 hj).1.1
    | succ j ih =>
      intro hj
      have := ih (by omega)
      have := (h.2 (j + 1) hj).2 (by omega)
      simp only [Nat.add_sub_cancel] at this
      omega
  by_cases h9 : g.ms.length ≤ 9
  · exact h9
  · have := key 9 (by omega)
    have := (h.2 9 (by omega)).1.2
    omega
theorem min_lt {n : Int} {k : Nat} (h : cap100 n = k) (hk : k < 100) : cap100 n = n.toNat := by unfold cap100 at *; omega
section
variable {s : ByteArray}
theorem rg_up {cap : Int → Nat} (h : (rg cap s).2.2 = false) : (rgn cap s).2.2 = false ∧ (ry cap s).2.2 = false ∧ (rm cap s).2.2 = false ∧ (rnm cap s).2.2 = false ∧ (re cap s).2.2 = false ∧ (rne s).2.2 = false ∧ (rz s).2.2 = false := by
  have h1 : (rgn cap s).2.2 = false := bad_of_not rdN_bad h
  have h2 : (ry cap s).2.2 = false := bad_of_not num_bad h1
  have h3 : (rm cap s).2.2 = false := bad_of_not rdN_bad h2
  have h4 : (rnm cap s).2.2 = false := bad_of_not rdN_bad h3
  have h5 : (re cap s).2.2 = false := bad_of_not num_bad h4
  have h6 : (rne s).2.2 = false := bad_of_not rdN_bad h5
  exact ⟨h1, h2, h3, h4, h5, h6, bad_of_not num_bad h6⟩
/-- Groups: nothing is cut, or all the same. -/
theorem groups_same : ∀ {n : Nat} {p : Nat × Bool}, ((rdN (gStep Int.toNat s) n p).2.2 = false ∧ (∀ g ∈ (rdN (gStep Int.toNat s) n p).1, g.ms.length < 100)) ∨ ((rdN (gStep cap100 s) n p).2.2 = false ∧ (∀ g ∈ (rdN (gStep cap100 s) n p).1, g.ms.length < 100)) → rdN (gStep cap100 s) n p = rdN (gStep Int.toNat s) n p
  | 0, _, _ => rfl
  | n + 1, p, h => by
    by_cases hp : p.2 = true
    · rw [rdN, rdN, if_pos hp, if_pos hp]
    · have e : ∀ cap, rdN (gStep cap s) (n + 1) p = ((gStep cap s p).1 :: (rdN (gStep cap s) n (gStep cap s p).2).1, (rdN (gStep cap s) n (gStep cap s p).2).2) := fun cap => by rw [rdN, if_neg hp]
      rw [e, e] at *
      simp only at h
      have hg : gStep cap100 s p = gStep Int.toNat s p := by
        have key : cap100 (numStep s p).1 = (numStep s p).1.toNat := by
          rcases h with ⟨h1, h2⟩ | ⟨h1, h2⟩
          · have h3 := h2 _ List.mem_cons_self
            have h4 := gStep_parts (s := s) (bad_of_not rdN_bad h1)
            have h5 := (rdN_rd (f := fun n => [n]) (fun p h => num_rd h) (num_rd h4.2).2.2.2.1 h4.1).2
            unfold gStep at h3
            simp only at h3
            rw [h5] at h3
            unfold cap100
            omega
          · have h3 := h2 _ List.mem_cons_self
            have h4 := gStep_parts (s := s) (bad_of_not rdN_bad h1)
            have h5 := (rdN_rd (f := fun n => [n]) (fun p h => num_rd h) (num_rd h4.2).2.2.2.1 h4.1).2
            unfold gStep at h3
            simp only at h3
            rw [h5] at h3
            exact min_lt rfl h3
        unfold gStep
        rw [key]
      rw [hg] at h ⊢
      have ih := groups_same (n := n) (p := (gStep Int.toNat s p).2) (by
        rcases h with ⟨h1, h2⟩ | ⟨h1, h2⟩
        · exact .inl ⟨h1, fun g q => h2 g (List.mem_cons_of_mem _ q)⟩
        · exact .inr ⟨h1, fun g q => h2 g (List.mem_cons_of_mem _ q)⟩)
      rw [ih]
/-- The bounds of a right certificate. -/
theorem cert_lens {size : Int} {es : List E} {m : List Cp} {ys : List Int} {gs : List Gp} (g : CertOk size es m ys gs) : size ≤ 9 ∧ es.length < 100 ∧ m.length < 100 ∧ (ys.length : Int) = size ∧ gs.length < 100 ∧ ∀ x ∈ gs, x.ms.length < 100 := by
  have h1 := gok_len g.1.1.1
  have h2 := mok_len g.2.1
  have h3 := g.1.1.1.1
  refine ⟨h3.2, by omega, by omega, g.1.1.2.1, by have := g.1.1.2.2; omega, fun x hx => ?_⟩
  obtain ⟨i, hi, rfl⟩ := mem_getD (d := g0) hx
  have := grok_len (g.1.2.2.1 i hi).1 h3.2
  omega
/-- If one of both is a right certificate, both readings are the same. -/
theorem read_same (h : ∃ cap, (cap = Int.toNat ∨ cap = cap100) ∧ (rg cap s).2.2 = false ∧ CertOk (rz s).1 (re cap s).1 (rm cap s).1 (ry cap s).1 (rg cap s).1) :
    re cap100 s = re Int.toNat s ∧ rm cap100 s = rm Int.toNat s ∧ ry cap100 s = ry Int.toNat s ∧ rg cap100 s = rg Int.toNat s := by
  obtain ⟨cap, hcap, hb, hc⟩ := h
  obtain ⟨u1, u2, u3, u4, u5, u6, u7⟩ := rg_up hb
  obtain ⟨k1, k2, k3, k4, k5, k6⟩ := cert_lens hc
  have lz := num_rd (s := s) (p := (0, false)) u7
  have lne := num_rd u6
  have le := rdN_rd (f := fun e : E => [e.a, e.b, e.w1, e.w2, e.w3]) (fun p h => eStep_rd h) lne.2.2.2.1 u5
  have lnm := num_rd u4
  have lm := rdN_rd (f := fun e : Cp => [e.a, e.b]) (fun p h => cStep_rd h) lnm.2.2.2.1 u3
  have ly := rdN_rd (f := fun n => [n]) (fun p h => num_rd h) lm.1.2.2.2.1 u2
  have lng := num_rd u1
  have ce : ∀ n : Int, cap n < 100 → cap100 n = n.toNat := fun n hn => by
    rcases hcap with rfl | rfl
    · unfold cap100; omega
    · exact min_lt rfl hn
  have cz : ∀ n : Int, cap n < 100 → cap n = n.toNat := fun n hn => by
    rcases hcap with rfl | rfl
    · rfl
    · exact min_lt rfl hn
  have n1 : cap (rne s).1 < 100 := by rw [← le.2]; exact k2
  have e1 : re cap100 s = re Int.toNat s := by unfold re; rw [ce _ n1]
  have e1' : re cap s = re Int.toNat s := by unfold re; rw [cz _ n1]
  have n2 : cap (rnm cap s).1 < 100 := by rw [← lm.2]; exact k3
  have en : rnm cap100 s = rnm Int.toNat s := by unfold rnm; rw [e1]
  have en' : rnm cap s = rnm Int.toNat s := by unfold rnm; rw [e1']
  have e2 : rm cap100 s = rm Int.toNat s := by unfold rm; rw [en, ← en', ce _ n2]
  have e2' : rm cap s = rm Int.toNat s := by unfold rm; rw [cz _ n2, en']
  have n3 : cap (rz s).1 < 100 := by
    rw [← ly.2]
    have : ((ry cap s).1.length : Int) = (rz s).1 := k4
    show (ry cap s).1.length < 100
    omega
  have e3 : ry cap100 s = ry Int.toNat s := by unfold ry; rw [e2, ce _ n3]
  have e3' : ry cap s = ry Int.toNat s := by unfold ry; rw [e2', cz _ n3]
  have eg : rgn cap100 s = rgn Int.toNat s := by unfold rgn; rw [e3]
  have eg' : rgn cap s = rgn Int.toNat s := by unfold rgn; rw [e3']
  refine ⟨e1, e2, e3, ?_⟩
  -- the groups' number
  have hlen : (rg cap s).1.length = cap (rgn cap s).1 := by
    have : ∀ {n : Nat} {p : Nat × Bool}, (rdN (gStep cap s) n p).2.2 = false → (rdN (gStep cap s) n p).1.length = n := by
      intro n
      induction n with
      | zero => intro p _; rfl
      | succ n ih =>
        intro p h
        have hp : p.2 = false := bad_of_not rdN_bad h
        rw [rdN, if_neg (by rw [hp]; simp)] at h ⊢
        simp only [List.length_cons]
        rw [ih h]
    exact this hb
  have n4 : cap (rgn cap s).1 < 100 := by rw [← hlen]; exact k5
  unfold rg at hb k6 ⊢
  rw [eg, ← eg', ce _ n4]
  rw [cz _ n4] at hb k6
  rcases hcap with rfl | rfl
  · exact groups_same (.inl ⟨hb, k6⟩)
  · exact groups_same (.inr ⟨hb, k6⟩)
theorem gStep_all {p : Nat × Bool} (h : (gStep Int.toNat s p).2.2 = false) : Rd s p (gStep Int.toNat s p).2 ((fun g : Gp => (g.ms.length : Int) :: (g.ms ++ [g.z])) (gStep Int.toNat s p).1) := by
  refine gStep_rd h ?_
  obtain ⟨h1, h2⟩ := gStep_parts h
  have r := num_rd h2
  have h3 := (rdN_rd (f := fun n => [n]) (fun p h => num_rd h) r.2.2.2.1 h1).2
  have h4 := r.2.2.2.2.2 _ List.mem_cons_self
  unfold gStep
  simp only
  rw [h3]
  omega
/-- What was read well is what the certificate's numbers are. -/
theorem read_rd (hb : (rg Int.toNat s).2.2 = false) (hys : ((ry Int.toNat s).1.length : Int) = (rz s).1) : Rd s (0, false) (rg Int.toNat s).2 (certN (rz s).1 (re Int.toNat s).1 (rm Int.toNat s).1 (ry Int.toNat s).1 (rg Int.toNat s).1) := by
  obtain ⟨u1, u2, u3, u4, u5, u6, u7⟩ := rg_up hb
  have lz := num_rd (s := s) (p := (0, false)) u7
  have lne := num_rd u6
  have le := rdN_rd (f := fun e : E => [e.a, e.b, e.w1, e.w2, e.w3]) (fun p h => eStep_rd h) lne.2.2.2.1 u5
  have lnm := num_rd u4
  have lm := rdN_rd (f := fun e : Cp => [e.a, e.b]) (fun p h => cStep_rd h) lnm.2.2.2.1 u3
  have ly := rdN_rd (f := fun n => [n]) (fun p h => num_rd h) lm.1.2.2.2.1 u2
  have lng := num_rd u1
  have lg := rdN_rd (f := fun g : Gp => (g.ms.length : Int) :: (g.ms ++ [g.z])) (fun p h => gStep_all h) lng.2.2.2.1 hb
  rw [single_flat] at ly
  have q1 := lne.2.2.2.2.2 _ List.mem_cons_self
  have q2 := lnm.2.2.2.2.2 _ List.mem_cons_self
  have q3 := lng.2.2.2.2.2 _ List.mem_cons_self
  have f1 : ((re Int.toNat s).1.length : Int) = (rne s).1 := by
    have : (re Int.toNat s).1.length = (rne s).1.toNat := le.2
    have : 0 ≤ (rne s).1 := q1.1
    omega
  have f2 : ((rm Int.toNat s).1.length : Int) = (rnm Int.toNat s).1 := by
    have : (rm Int.toNat s).1.length = (rnm Int.toNat s).1.toNat := lm.2
    have : 0 ≤ (rnm Int.toNat s).1 := q2.1
    omega
  have f3 : ((rg Int.toNat s).1.length : Int) = (rgn Int.toNat s).1 := by
    have : (rg Int.toNat s).1.length = (rgn Int.toNat s).1.toNat := lg.2
    have : 0 ≤ (rgn Int.toNat s).1 := q3.1
    omega
  have all := lz.trans (lne.trans (le.1.trans (lnm.trans (lm.1.trans (ly.1.trans (lng.trans lg.1))))))
  unfold certN
  rw [f1, f2, f3]
  exact all
theorem catV_bys : ∀ {l : List Int}, (∀ x ∈ l, 0 ≤ x ∧ x ≤ 1000000000) → catV noT l = strOfNums (bysOf l) := by
  intro l h
  have key : ∀ (l : List Int) (a : List Int), (∀ x ∈ l, 0 ≤ x ∧ x ≤ 1000000000) → catV (strOfNums a) l = strOfNums (a ++ bysOf l) := by
    intro l
    induction l with
    | nil => intro a _; simp [catV, bysOf]
    | cons n l ih =>
      intro a h
      have h1 := h n List.mem_cons_self
      have e : catV (strOfNums a) (n :: l) = catV (strOfNums a ++ vt n) l := rfl
      have e2 : strOfNums a ++ vt n = strOfNums (a ++ varL n.toNat) := by
        unfold vt
        rw [if_pos h1]
        unfold varT
        apply ByteArray.ext
        apply Array.toList_inj.1
        rw [ByteArray.data_append, Array.toList_append, strOfNums_data, strOfNums_data, strOfNums_data, List.map_append]
      rw [e, e2, ih _ fun x hx => h x (List.mem_cons_of_mem _ hx)]
      simp [bysOf]
  have := key l [] h
  exact this
theorem seg_all : strOfNums (segN s 0 s.size) = s := by
  rw [← extract_seg]
  simp
theorem bysOf_len {l : List Int} : (bysOf l).length = (l.map fun x => (varL x.toNat).length).sum := by
  unfold bysOf
  induction l with
  | nil => rfl
  | cons a l ih => rw [List.flatMap_cons, List.length_append, ih, List.map_cons, List.sum_cons]
theorem cok_same : CokI s ↔ CokS s := by
  constructor
  · rintro ⟨h1, h2, h3⟩
    obtain ⟨e1, e2, e3, e4⟩ := read_same ⟨Int.toNat, .inl rfl, h1, h3⟩
    have hr := read_rd h1 (cert_lens h3).2.2.2.1
    refine ⟨by rw [e4]; exact h1, by rw [e1, e2, e3, e4]; exact h3, ?_⟩
    rw [e1, e2, e3, e4]
    unfold certT
    rw [catV_bys hr.2.2.2.2.2, ← hr.2.2.2.2.1, h2]
    exact seg_all
  · rintro ⟨h1, h2, h3⟩
    obtain ⟨e1, e2, e3, e4⟩ := read_same ⟨cap100, .inr rfl, h1, h2⟩
    rw [e4] at h1
    rw [e1, e2, e3, e4] at h2 h3
    have hr := read_rd h1 (cert_lens h2).2.2.2.1
    refine ⟨h1, ?_, h2⟩
    have hx := catV_exact (s := noT) hr.2.2.2.2.2
    unfold certT at h3
    rw [h3, ← bysOf_len, ← hr.2.2.2.2.1, segN_len hr.2.2.2.1] at hx
    have : noT.size = 0 := rfl
    simp only at hx
    omega
theorem varL_pos (n : Nat) : 1 ≤ (varL n).length := by unfold varL; split <;> simp
theorem Rd.adv {p q : Nat × Bool} {l : List Int} (a : Rd s p q l) : p.1 + l.length ≤ q.1 ∧ q.1 ≤ s.size := by
  obtain ⟨a1, a2, a3, a4, a5, a6⟩ := a
  have h1 := segN_len (a := p.1) a4
  rw [a5] at h1
  have h2 : l.length ≤ (bysOf l).length := by
    unfold bysOf
    clear a5 a6 h1
    induction l with
    | nil => exact Nat.le_refl _
    | cons n l ih => rw [List.flatMap_cons, List.length_append, List.length_cons]; have := varL_pos n.toNat; omega
  omega
theorem flat_len {α : Type} {f : α → List Int} (hf : ∀ x, 1 ≤ (f x).length) : ∀ {l : List α}, l.length ≤ (l.flatMap f).length ∧ ∀ x ∈ l, (f x).length ≤ (l.flatMap f).length
  | [] => ⟨Nat.le_refl _, fun x h => absurd h List.not_mem_nil⟩
  | a :: l => by
    obtain ⟨h1, h2⟩ := flat_len hf (l := l)
    have := hf a
    rw [List.flatMap_cons, List.length_append, List.length_cons]
    refine ⟨by omega, fun x hx => ?_⟩
    cases List.mem_cons.1 hx with
    | inl q => subst q; omega
    | inr q => have := h2 x q; omega
theorem read_bnd (hb : (rg Int.toNat s).2.2 = false) : (rm Int.toNat s).1.length ≤ s.size ∧ (ry Int.toNat s).1.length ≤ s.size ∧ (rg Int.toNat s).1.length ≤ s.size ∧ ∀ g ∈ (rg Int.toNat s).1, g.ms.length ≤ s.size := by
  obtain ⟨u1, u2, u3, u4, u5, u6, u7⟩ := rg_up hb
  have lnm := num_rd u4
  have lm := rdN_rd (f := fun e : Cp => [e.a, e.b]) (fun p h => cStep_rd h) lnm.2.2.2.1 u3
  have ly := rdN_rd (f := fun n => [n]) (fun p h => num_rd h) lm.1.2.2.2.1 u2
  have lng := num_rd u1
  have lg := rdN_rd (f := fun g : Gp => (g.ms.length : Int) :: (g.ms ++ [g.z])) (fun p h => gStep_all h) lng.2.2.2.1 hb
  have a1 := lm.1.adv
  have a2 := ly.1.adv
  have a3 := lg.1.adv
  have f1 := flat_len (f := fun e : Cp => [e.a, e.b]) (fun x => by simp) (l := (rm Int.toNat s).1)
  have f2 := flat_len (f := fun n : Int => [n]) (fun x => by simp) (l := (ry Int.toNat s).1)
  have f3 := flat_len (f := fun g : Gp => (g.ms.length : Int) :: (g.ms ++ [g.z])) (fun x => by simp) (l := (rg Int.toNat s).1)
  have e1 : ((rm Int.toNat s).1.flatMap fun e : Cp => [e.a, e.b]).length ≤ s.size := by
    have : (rnm Int.toNat s).2.1 + ((rm Int.toNat s).1.flatMap fun e : Cp => [e.a, e.b]).length ≤ (rm Int.toNat s).2.1 := a1.1
    have : (rm Int.toNat s).2.1 ≤ s.size := a1.2
    omega
  have e2 : ((ry Int.toNat s).1.flatMap fun n : Int => [n]).length ≤ s.size := by
    have : (rm Int.toNat s).2.1 + ((ry Int.toNat s).1.flatMap fun n : Int => [n]).length ≤ (ry Int.toNat s).2.1 := a2.1
    have : (ry Int.toNat s).2.1 ≤ s.size := a2.2
    omega
  have e3 : ((rg Int.toNat s).1.flatMap fun g : Gp => (g.ms.length : Int) :: (g.ms ++ [g.z])).length ≤ s.size := by
    have : (rgn Int.toNat s).2.1 + ((rg Int.toNat s).1.flatMap fun g : Gp => (g.ms.length : Int) :: (g.ms ++ [g.z])).length ≤ (rg Int.toNat s).2.1 := a3.1
    have : (rg Int.toNat s).2.1 ≤ s.size := a3.2
    omega
  refine ⟨by omega, by omega, by omega, fun g hg => ?_⟩
  have := f3.2 g hg
  simp only [List.length_cons, List.length_append, List.length_nil] at this
  omega
end
/-- What is told of it. -/
structure CT where
  size : Int
  es : List E
  m : List Cp
  ys : List Int
  gs : List Gp
  ok : Bool
open Classical in
noncomputable def rdI (s : ByteArray) : CT := if CokI s then ⟨(rz s).1, (re Int.toNat s).1, (rm Int.toNat s).1, (ry Int.toNat s).1, (rg Int.toNat s).1, true⟩ else ⟨0, [], [], [], [], false⟩
open Classical in
noncomputable def rdS (s : ByteArray) : CT := if CokS s then ⟨(rz s).1, (re cap100 s).1, (rm cap100 s).1, (ry cap100 s).1, (rg cap100 s).1, true⟩ else ⟨0, [], [], [], [], false⟩
theorem rd_same (s : ByteArray) : rdS s = rdI s := by
  unfold rdS rdI
  by_cases h : CokI s
  · rw [if_pos (cok_same.1 h), if_pos h]
    obtain ⟨e1, e2, e3, e4⟩ := read_same ⟨Int.toNat, .inl rfl, h.1, h.2.2⟩
    rw [e1, e2, e3, e4]
  · rw [if_neg (fun k => h (cok_same.2 k)), if_neg h]
end Go.Proofs.YtgmljppiiighmaaGreatDoor.Ab
set_option linter.unusedSimpArgs false
set_option linter.unusedVariables false
set_option linter.unnecessarySimpa false
set_option maxHeartbeats 4000000
namespace Go.Proofs.YtgmljppiiighmaaGreatDoor.Ab
open Go.RowKit
theorem strOfNums_app' {l m : List Int} : strOfNums l ++ strOfNums m = strOfNums (l ++ m) := by
  apply ByteArray.ext
  apply Array.toList_inj.1
  rw [ByteArray.data_append, Array.toList_append, strOfNums_data, strOfNums_data, strOfNums_data, List.map_append]
theorem ext_tail {c : Int} {L : List Int} : (strOfNums (c :: L)).extract 1 (strOfNums (c :: L)).size = strOfNums L := by
  apply ByteArray.ext
  apply Array.toList_inj.1
  rw [ByteArray.data_extract, Array.toList_extract, strOfNums_data, strOfNums_data, strOfNums_size]
  simp
  exact List.take_of_length_le (by simp)
theorem head_one {s : ByteArray} (h : 1 ≤ s.size) : s.extract 0 1 = strOfNums [((byt s 0 : Nat) : Int)] := by
  have hs : (s.extract 0 1).size = 1 := by rw [ByteArray.size_extract]; omega
  have hb := byt_lt (s := s) (i := 0)
  refine bytes_ext (by rw [hs]; rfl) (fun x hx => ?_) fun i hi => ?_
  · simp at hx; omega
  · have : i = 0 := by simpa using hi
    subst this
    have := byt_ext (s := s) (a := 0) (b := 1) (i := 0) (by omega) h
    rw [this]
    rfl
theorem cons_iff {s : ByteArray} {c : Nat} {L : List Int} (hc : c < 256) (h : 1 ≤ s.size) : s = strOfNums ((c : Int) :: L) ↔ byt s 0 = c ∧ s.extract 1 s.size = strOfNums L := by
  constructor
  · intro e
    subst e
    exact ⟨by rw [k_byte (by omega)]; omega, ext_tail⟩
  · rintro ⟨h1, h2⟩
    rw [← ext_cat h, head_one h, h1, h2, strOfNums_app']
    rfl
theorem pT_iff {v : ByteArray} {R : Nat} (hR : R ≤ 6) (h : 1 ≤ v.size) : (∃ r, r < R ∧ v = pT r) ↔ byt v 0 = 112 ∧ ∃ n, rdDec (v.extract 1 v.size) = some n ∧ n < R := by
  have key : ∀ r, v = pT r ↔ byt v 0 = 112 ∧ v.extract 1 v.size = decT r := fun r => cons_iff (c := 112) (by omega) h
  constructor
  · rintro ⟨r, h1, h2⟩
    obtain ⟨h3, h4⟩ := (key r).1 h2
    exact ⟨h3, r, rdDec_some.2 ⟨by omega, h4⟩, h1⟩
  · rintro ⟨h1, n, h2, h3⟩
    exact ⟨n, h3, (key n).2 ⟨h1, (rdDec_some.1 h2).2⟩⟩
theorem kv1 {k : ByteArray} {i : Nat} (hk : 1 ≤ k.size) (h0 : byt k 0 = 118) : rdTwo (k.extract 1 k.size) = some i ↔ k = vK i ∧ i < 100 := key1 (c := 118) (by omega) hk h0
theorem kq1 {k : ByteArray} {i : Nat} (hk : 1 ≤ k.size) (h0 : byt k 0 = 113) : rdTwo (k.extract 1 k.size) = some i ↔ k = qK i ∧ i < 100 := key1 (c := 113) (by omega) hk h0
theorem ke2 {k : ByteArray} {a b : Nat} (hk : k.size = 5) (h0 : byt k 0 = 101) : (rdTwo (k.extract 1 3) = some a ∧ rdTwo (k.extract 3 5) = some b) ↔ k = eK a b ∧ a < 100 ∧ b < 100 := key2 (c := 101) (by omega) hk h0
theorem kr2 {k : ByteArray} {a b : Nat} (hk : k.size = 5) (h0 : byt k 0 = 114) : (rdTwo (k.extract 1 3) = some a ∧ rdTwo (k.extract 3 5) = some b) ↔ k = rK a b ∧ a < 100 ∧ b < 100 := key2 (c := 114) (by omega) hk h0
theorem vK_inj {a b : Nat} (h : vK a = vK b) : a = b := by
  have := strOfNums_inj (byte_rng (by omega) twoL_rng) (byte_rng (by omega) twoL_rng) h
  have e : twoL a = twoL b := (List.cons.inj this).2
  have e1 := twoL_val (n := a)
  rw [e, twoL_val] at e1
  omega
theorem eK_inj {a b a' b' : Nat} (ha : a < 100) (ha' : a' < 100) (h : eK a b = eK a' b') : a = a' ∧ b = b' := by
  have := strOfNums_inj (byte_rng (by omega) two2_rng) (byte_rng (by omega) two2_rng) h
  have e : twoL a ++ twoL b = twoL a' ++ twoL b' := (List.cons.inj this).2
  obtain ⟨e1, e2⟩ := List.append_inj e (by rw [twoL_len ha, twoL_len ha'])
  have f1 := twoL_val (n := a)
  have f2 := twoL_val (n := b)
  rw [e1, twoL_val] at f1
  rw [e2, twoL_val] at f2
  omega
theorem eK_size {a b : Nat} (ha : a < 100) (hb : b < 100) : (eK a b).size = 5 := by
  unfold eK eL
  rw [strOfNums_size, List.length_cons, List.length_append, twoL_len ha, twoL_len hb]
theorem vK_size {a : Nat} (ha : a < 100) : (vK a).size = 3 := by
  unfold vK vL
  rw [strOfNums_size, List.length_cons, twoL_len ha]
theorem qK_size {a : Nat} (ha : a < 100) : (qK a).size = 3 := by
  unfold qK qL
  rw [strOfNums_size, List.length_cons, twoL_len ha]
section
variable {m : List Pr} {p : Pr} {R : Nat}
theorem id_none (hk : 1 ≤ p.k.size) (h0 : byt p.k 0 = 118) (e : rdTwo (p.k.extract 1 p.k.size) = none) : ¬ IdOk R p := by
  rintro ⟨i, h1, h2, _⟩
  rw [(kv1 hk h0).2 ⟨h2, by omega⟩] at e
  cases e
theorem id_some {i : Nat} (hk : 1 ≤ p.k.size) (h0 : byt p.k 0 = 118) (e : rdTwo (p.k.extract 1 p.k.size) = some i) : IdOk R p ↔ i < 12 ∧ (p.v = aT ∨ p.v = lT ∨ ∃ r, r < R ∧ p.v = pT r) := by
  have hi := (kv1 hk h0).1 e
  constructor
  · rintro ⟨j, h1, h2, h3⟩
    rw [vK_inj (hi.1.symm.trans h2)]
    exact ⟨h1, h3⟩
  · rintro ⟨h1, h2⟩
    exact ⟨i, h1, hi.1, h2⟩
theorem id_noT : (∃ r, r < R ∧ noT = pT r) → False := by
  rintro ⟨r, _, h⟩
  have : noT.size = (pT r).size := by rw [h]
  unfold pT at this
  rw [strOfNums_size] at this
  have h0 : noT.size = 0 := rfl
  simp [h0] at this
theorem link_size (h : LinkI m p) : p.k.size = 5 ∧ p.v.size = 3 := by
  obtain ⟨a, b, h1, h2, h3, h4, _⟩ := h
  exact ⟨by rw [h3]; exact eK_size (by omega) h2, h4.1⟩
theorem link_none (hk : p.k.size = 5) (h0 : byt p.k 0 = 101) (e : rdTwo (p.k.extract 1 3) = none ∨ rdTwo (p.k.extract 3 5) = none) : ¬ LinkI m p := by
  rintro ⟨a, b, h1, h2, h3, _⟩
  obtain ⟨k1, k2⟩ := (ke2 hk h0).2 ⟨h3, by omega, h2⟩
  rw [k1, k2] at e
  rcases e with e | e <;> cases e
theorem link_some {a b : Nat} (hk : p.k.size = 5) (h0 : byt p.k 0 = 101) (e1 : rdTwo (p.k.extract 1 3) = some a) (e2 : rdTwo (p.k.extract 3 5) = some b) : LinkI m p ↔ a < b ∧ Worths p.v ∧ Jn m a ∧ Jn m b := by
  obtain ⟨k1, k2, k3⟩ := (ke2 hk h0).1 ⟨e1, e2⟩
  constructor
  · rintro ⟨a', b', h1, h2, h3, h4, h5, h6⟩
    obtain ⟨f1, f2⟩ := eK_inj (by omega) (by omega) (k1.symm.trans h3)
    subst f1 f2
    exact ⟨h1, h4, h5, h6⟩
  · rintro ⟨h1, h2, h3, h4⟩
    exact ⟨a, b, h1, k3, k1, h2, h3, h4⟩
theorem linkS_none (hk : p.k.size = 5) (h0 : byt p.k 0 = 101) (e : rdTwo (p.k.extract 1 3) = none ∨ rdTwo (p.k.extract 3 5) = none) : ¬ LinkS m p := by
  rintro ⟨a, b, h1, h2, h3, _⟩
  obtain ⟨k1, k2⟩ := (ke2 hk h0).2 ⟨h3, by omega, h2⟩
  rw [k1, k2] at e
  rcases e with e | e <;> cases e
theorem linkS_some {a b : Nat} (hk : p.k.size = 5) (h0 : byt p.k 0 = 101) (e1 : rdTwo (p.k.extract 1 3) = some a) (e2 : rdTwo (p.k.extract 3 5) = some b) : LinkS m p ↔ a < b ∧ Worths p.v ∧ (getK m (vK a)).isSome = true ∧ (getK m (vK b)).isSome = true := by
  obtain ⟨k1, k2, k3⟩ := (ke2 hk h0).1 ⟨e1, e2⟩
  constructor
  · rintro ⟨a', b', h1, h2, h3, h4, h5, h6⟩
    obtain ⟨f1, f2⟩ := eK_inj (by omega) (by omega) (k1.symm.trans h3)
    subst f1 f2
    exact ⟨h1, h4, h5, h6⟩
  · rintro ⟨h1, h2, h3, h4⟩
    exact ⟨a, b, h1, k3, k1, h2, h3, h4⟩
theorem q_none {P : Nat → Prop} (hR : R ≤ 100) (hk : 1 ≤ p.k.size) (h0 : byt p.k 0 = 113) (e : rdTwo (p.k.extract 1 p.k.size) = none) : ¬ ∃ r, r < R ∧ p.k = qK r ∧ P r := by
  rintro ⟨i, h1, h2, _⟩
  rw [(kq1 hk h0).2 ⟨h2, by omega⟩] at e
  cases e
theorem q_some {P : Nat → Prop} {i : Nat} (hk : 1 ≤ p.k.size) (h0 : byt p.k 0 = 113) (e : rdTwo (p.k.extract 1 p.k.size) = some i) : (∃ r, r < R ∧ p.k = qK r ∧ P r) ↔ i < R ∧ P i := by
  have hi := (kq1 hk h0).1 e
  constructor
  · rintro ⟨j, h1, h2, h3⟩
    rw [qK_inj (hi.1.symm.trans h2)]
    exact ⟨h1, h3⟩
  · rintro ⟨h1, h2⟩
    exact ⟨i, h1, hi.1, h2⟩
theorem r_none {P : Nat → Nat → Prop} (hR : R ≤ 100) (hk : p.k.size = 5) (h0 : byt p.k 0 = 114) (e : rdTwo (p.k.extract 1 3) = none ∨ rdTwo (p.k.extract 3 5) = none) : ¬ ∃ r i, r < R ∧ i < 100 ∧ p.k = rK r i ∧ P r i := by
  rintro ⟨a, b, h1, h2, h3, _⟩
  obtain ⟨k1, k2⟩ := (kr2 hk h0).2 ⟨h3, by omega, h2⟩
  rw [k1, k2] at e
  rcases e with e | e <;> cases e
theorem r_some {P : Nat → Nat → Prop} {a b : Nat} (hR : R ≤ 100) (hk : p.k.size = 5) (h0 : byt p.k 0 = 114) (e1 : rdTwo (p.k.extract 1 3) = some a) (e2 : rdTwo (p.k.extract 3 5) = some b) : (∃ r i, r < R ∧ i < 100 ∧ p.k = rK r i ∧ P r i) ↔ a < R ∧ P a b := by
  obtain ⟨k1, k2, k3⟩ := (kr2 hk h0).1 ⟨e1, e2⟩
  constructor
  · rintro ⟨a', b', h1, h2, h3, h4⟩
    obtain ⟨f1, f2⟩ := rK_inj2 (by omega) (by omega) (k1.symm.trans h3)
    subst f1 f2
    exact ⟨h1, h4⟩
  · rintro ⟨h1, h2⟩
    exact ⟨a, b, h1, k3, k1, h2⟩
theorem r_size {P : Nat → Nat → Prop} (hR : R ≤ 100) (h : ∃ r i, r < R ∧ i < 100 ∧ p.k = rK r i ∧ P r i) : p.k.size = 5 := by
  obtain ⟨a, b, h1, h2, h3, _⟩ := h
  rw [h3]
  exact rK_size (by omega) h2
theorem parts_ex (m : List Pr) (r : Nat) : ∃ n, IsParts m r n := by
  have key : ∀ k, k ≤ 100 → (∀ i, i < k → (getK m (rK r i)).isSome = true) ∨ ∃ n, IsParts m r n := by
    intro k
    induction k with
    | zero => intro _; exact .inl fun i hi => by omega
    | succ k ih =>
      intro hk
      rcases ih (by omega) with h | h
      · cases e : getK m (rK r k) with
        | none => exact .inr ⟨k, by omega, h, .inr e⟩
        | some v =>
          refine .inl fun i hi => ?_
          by_cases c : i = k
          · rw [c, e]; rfl
          · exact h i (by omega)
      · exact .inr h
  rcases key 100 (Nat.le_refl _) with h | h
  · exact ⟨100, Nat.le_refl _, h, .inl rfl⟩
  · exact h
end
end Go.Proofs.YtgmljppiiighmaaGreatDoor.Ab
set_option linter.unusedSimpArgs false
set_option linter.unusedVariables false
set_option linter.unnecessarySimpa false
set_option maxHeartbeats 4000000
namespace Go.Proofs.YtgmljppiiighmaaGreatDoor.Ab
open Go.RowKit
/-- The bytes of a text with its length. -/
def shortL (x : ByteArray) : List Int := varL x.size ++ segN x 0 x.size
def shortT (x : ByteArray) : ByteArray := varT x.size ++ x
def pairL (p : Pr) : List Int := shortL p.k ++ shortL p.v
/-- The bytes of a state. -/
def stL (m : List Pr) : List Int := varL m.length ++ m.flatMap pairL
def stT (m : List Pr) : ByteArray := m.foldl (fun s p => s ++ (shortT p.k ++ shortT p.v)) (varT m.length)
/-- A text with its length is read. -/
def rsAt (s : ByteArray) (a : Int) : Option (ByteArray × Nat) := match rvAt s a with
  | some (n, k) => if 8000 < n ∨ s.size < n + k then none else some (s.extract k (k + n), k + n)
  | none => none
def shStep (s : ByteArray) (p : Nat × Bool) : ByteArray × (Nat × Bool) := match p.2 with
  | true => (noT, (p.1, true))
  | false => match rsAt s p.1 with
    | some (x, k) => (x, (k, false))
    | none => (noT, (p.1, true))
def prStep (s : ByteArray) (p : Nat × Bool) : Pr × (Nat × Bool) := (⟨(shStep s p).1, (shStep s (shStep s p).2).1⟩, (shStep s (shStep s p).2).2)
/-- All that was read, well, in bytes. -/
def RdB (s : ByteArray) (p q : Nat × Bool) (l : List Int) : Prop := p.2 = false ∧ q.2 = false ∧ p.1 ≤ q.1 ∧ q.1 ≤ s.size ∧ segN s p.1 q.1 = l
section
variable {s x : ByteArray} {p q r : Nat × Bool} {l k : List Int} {m : List Pr}
theorem RdB.nil (h : p.2 = false) (hp : p.1 ≤ s.size) : RdB s p p [] := ⟨h, h, Nat.le_refl _, hp, segN_nil⟩
theorem RdB.trans (a : RdB s p q l) (b : RdB s q r k) : RdB s p r (l ++ k) := by
  obtain ⟨a1, a2, a3, a4, a5⟩ := a
  obtain ⟨b1, b2, b3, b4, b5⟩ := b
  exact ⟨a1, b2, by omega, b4, by rw [segN_append a3 b3, a5, b5]⟩
theorem seg_ex {a b : Nat} : segN (s.extract a b) 0 (s.extract a b).size = segN s a b := by
  refine strOfNums_inj segN_rng segN_rng ?_
  rw [seg_all, extract_seg]
theorem sh_bad (h : p.2 = true) : (shStep s p).2.2 = true := by unfold shStep; rw [h]
theorem sh_rd (h : (shStep s p).2.2 = false) : RdB s p (shStep s p).2 (shortL (shStep s p).1) ∧ (shStep s p).1.size ≤ 8000 := by
  have hp : p.2 = false := by
    cases hb : p.2 with
    | false => rfl
    | true => rw [sh_bad hb] at h; cases h
  have h' := h
  unfold shStep at h' ⊢
  rw [hp] at h' ⊢
  simp only at h' ⊢
  unfold rsAt at h' ⊢
  cases hr : rvAt s (p.1 : Int) with
  | none => rw [hr] at h'; simp at h'
  | some nk =>
    obtain ⟨n, k⟩ := nk
    rw [hr] at h'
    simp only at h' ⊢
    by_cases c : 8000 < n ∨ s.size < n + k
    · rw [if_pos c] at h'; simp at h'
    · rw [if_neg c]
      have hb := rvAt_bnd hr
      have hs := rvAt_seg hr
      have hz : (s.extract k (k + n)).size = n := by rw [ByteArray.size_extract]; omega
      refine ⟨⟨hp, rfl, by show p.1 ≤ k + n; omega, by show k + n ≤ s.size; omega, ?_⟩, by show (s.extract k (k + n)).size ≤ 8000; omega⟩
      show segN s p.1 (k + n) = shortL (s.extract k (k + n))
      unfold shortL
      rw [seg_ex, hz, segN_append (b := k) (by omega) (by omega), hs.1]
theorem pr_rd (h : (prStep s p).2.2 = false) : RdB s p (prStep s p).2 (pairL (prStep s p).1) := by
  have h1 : (shStep s p).2.2 = false := by
    cases hb : (shStep s p).2.2 with
    | false => rfl
    | true =>
      have : (prStep s p).2.2 = true := sh_bad hb
      rw [this] at h; cases h
  exact (sh_rd h1).1.trans (sh_rd h).1
theorem prs_rd : ∀ {n : Nat} {p : Nat × Bool}, p.1 ≤ s.size → (rdN (prStep s) n p).2.2 = false → RdB s p (rdN (prStep s) n p).2 ((rdN (prStep s) n p).1.flatMap pairL) ∧ (rdN (prStep s) n p).1.length = n
  | 0, p, hp, h => ⟨RdB.nil h hp, rfl⟩
  | n + 1, p, hp, h => by
    have hf : p.2 = false := by
      cases hb : p.2 with
      | false => rfl
      | true => rw [rdN_bad hb] at h; cases h
    have e : rdN (prStep s) (n + 1) p = ((prStep s p).1 :: (rdN (prStep s) n (prStep s p).2).1, (rdN (prStep s) n (prStep s p).2).2) := by
      rw [rdN, if_neg (by rw [hf]; simp)]
    rw [e] at h ⊢
    simp only at h ⊢
    have h1 : (prStep s p).2.2 = false := by
      cases hb : (prStep s p).2.2 with
      | false => rfl
      | true => rw [rdN_bad hb] at h; cases h
    have r1 := pr_rd h1
    obtain ⟨r2, r3⟩ := prs_rd (n := n) r1.2.2.2.1 h
    exact ⟨by rw [List.flatMap_cons]; exact r1.trans r2, by rw [List.length_cons, r3]⟩
theorem short_bys (hx : x.size ≤ 1000000000) : shortT x = strOfNums (shortL x) := by
  unfold shortT shortL
  rw [← strOfNums_app', seg_all]
  rfl
theorem st_bys (hm : ∀ p ∈ m, p.k.size ≤ 1000000000 ∧ p.v.size ≤ 1000000000) : stT m = strOfNums (stL m) := by
  have key : ∀ (m : List Pr) (a : List Int), (∀ p ∈ m, p.k.size ≤ 1000000000 ∧ p.v.size ≤ 1000000000) → m.foldl (fun s p => s ++ (shortT p.k ++ shortT p.v)) (strOfNums a) = strOfNums (a ++ m.flatMap pairL) := by
    intro m
    induction m with
    | nil => intro a _; simp
    | cons p m ih =>
      intro a h
      have hp := h p List.mem_cons_self
      rw [List.foldl_cons, short_bys hp.1, short_bys hp.2, strOfNums_app', strOfNums_app', ih _ fun q hq => h q (List.mem_cons_of_mem _ hq), List.flatMap_cons]
      simp [pairL]
  exact key m (varL m.length) hm
theorem map_sz {cf : Cf} (h : StI cf m) : m.length ≤ 120 ∧ ∀ p ∈ m, p.k.size ≤ 8 ∧ p.v.size ≤ 40 := by
  refine ⟨h.1.1, fun p hp => ?_⟩
  obtain ⟨i, hi, rfl⟩ := mem_getD (d := p0) hp
  have := (h.1.2 i hi).1
  omega
/-- What the program reads of a state's bytes. -/
def stN (s : ByteArray) : Int × (Nat × Bool) := numStep s (0, false)
def stR (s : ByteArray) (n : Nat) : List Pr × (Nat × Bool) := rdN (prStep s) n (stN s).2
def RdI (cf : Cf) (s : ByteArray) : Prop := (stR s (stN s).1.toNat).2.2 = false ∧ (stR s (stN s).1.toNat).2.1 = s.size ∧ StI cf (stR s (stN s).1.toNat).1
/-- What the reference reads. -/
def capP (n : Int) : Nat := min n.toNat 121
def RdS (cf : Cf) (s : ByteArray) : Prop := (stR s (capP (stN s).1)).2.2 = false ∧ StI cf (stR s (capP (stN s).1)).1 ∧ stT (stR s (capP (stN s).1)).1 = s
theorem stR_num {n : Nat} (h : (stR s n).2.2 = false) : (stN s).2.2 = false := by
  cases hb : (stN s).2.2 with
  | false => rfl
  | true => unfold stR at h; rw [rdN_bad hb] at h; cases h
theorem stR_rd {n : Nat} (h : (stR s n).2.2 = false) : segN s 0 (stR s n).2.1 = varL (stN s).1.toNat ++ (stR s n).1.flatMap pairL ∧ (stR s n).1.length = n ∧ (stR s n).2.1 ≤ s.size := by
  have h1 := num_rd (stR_num h)
  obtain ⟨h2, h3⟩ := prs_rd (s := s) (n := n) (p := (stN s).2) h1.2.2.2.1 h
  refine ⟨?_, h3, h2.2.2.2.1⟩
  have e := segN_append (s := s) (a := 0) h1.2.2.1 h2.2.2.1
  refine e.trans ?_
  have e1 : segN s 0 (stN s).2.1 = varL (stN s).1.toNat := by
    have := h1.2.2.2.2.1
    simpa [bysOf, stN] using this
  have e2 := h2.2.2.2.2
  exact congr (congrArg _ e1) e2
/-- Both read the same. -/
theorem rd_same' {cf : Cf} : (RdI cf s ↔ RdS cf s) ∧ (RdI cf s → stR s (stN s).1.toNat = stR s (capP (stN s).1)) := by
  have one : RdI cf s → stR s (stN s).1.toNat = stR s (capP (stN s).1) := fun h => by
    have h1 := (stR_rd h.1).2.1
    have h2 := (map_sz h.2.2).1
    unfold capP
    congr 1
    omega
  refine ⟨⟨fun h => ?_, fun h => ?_⟩, one⟩
  · have e := one h
    obtain ⟨h1, h2, h3⟩ := h
    obtain ⟨r1, r2, r3⟩ := stR_rd h1
    unfold RdS
    rw [← e]
    refine ⟨h1, h3, ?_⟩
    have hz := map_sz h3
    rw [st_bys fun p hp => by have := hz.2 p hp; omega]
    unfold stL
    rw [r2, ← r1, h2, seg_all]
  · obtain ⟨h1, h2, h3⟩ := h
    obtain ⟨r1, r2, r3⟩ := stR_rd h1
    have hz := map_sz h2
    have e : capP (stN s).1 = (stN s).1.toNat := by unfold capP at *; omega
    rw [e] at h1 h2 h3 r1 r2 r3 hz
    refine ⟨h1, ?_, h2⟩
    rw [st_bys fun p hp => by have := hz.2 p hp; omega] at h3
    have hl := segN_len (a := 0) r3
    rw [r1] at hl
    have e2 : stL (stR s (stN s).1.toNat).1 = varL (stN s).1.toNat ++ (stR s (stN s).1.toNat).1.flatMap pairL := by unfold stL; rw [r2]
    rw [← e2] at hl
    have hs : (strOfNums (stL (stR s (stN s).1.toNat).1)).size = (stL (stR s (stN s).1.toNat).1).length := by rw [← ByteArray.size_data, ← Array.length_toList, strOfNums_data, List.length_map]
    rw [h3] at hs
    omega
end
end Go.Proofs.YtgmljppiiighmaaGreatDoor.Ab
set_option linter.unusedSimpArgs false
set_option linter.unusedVariables false
set_option linter.unnecessarySimpa false
set_option maxHeartbeats 4000000
namespace Go.Proofs.YtgmljppiiighmaaGreatDoor.Ab
open Go.RowKit
def xr (a b : Int) : Int := IntKind.u32.wrap ((BitVec.ofInt 32 a ^^^ BitVec.ofInt 32 b).toNat : Int)
def U32 (x : Int) : Prop := 0 ≤ x ∧ x < 4294967296
theorem xr_rng {a b : Int} : U32 (xr a b) := by
  unfold xr U32
  rw [IntKind.wrap_u32]
  omega
theorem and1 {a : Int} (h : 0 ≤ a) : IntKind.u32.wrap ((BitVec.ofInt 32 a &&& BitVec.ofInt 32 1).toNat : Int) = a % 2 := by
  obtain ⟨n, rfl⟩ := Int.eq_ofNat_of_zero_le h
  rw [IntKind.wrap_u32]
  have e1 : BitVec.ofInt 32 (n : Int) = BitVec.ofNat 32 n := BitVec.ofInt_natCast ..
  rw [e1, show BitVec.ofInt 32 1 = BitVec.ofNat 32 1 from rfl, BitVec.toNat_and, BitVec.toNat_ofNat, BitVec.toNat_ofNat, show 1 % 2 ^ 32 = 1 from rfl, Nat.and_one_is_mod]
  omega
/-- One bit, eight bits, a text's bytes. -/
def bitS (x : Int) : Int := if x % 2 = 1 then xr (x / 2) 3558460437 else x / 2
def bitN (x : Int) : Nat → Int
  | 0 => x
  | n + 1 => bitS (bitN x n)
def sumB (s : ByteArray) (x : Int) : Nat → Int
  | 0 => x
  | i + 1 => bitN (xr (sumB s x i) (byt s i : Nat)) 8
theorem bitS_rng {x : Int} (h : U32 x) : U32 (bitS x) := by
  unfold bitS
  split
  · exact xr_rng
  · unfold U32 at *; omega
theorem bitN_rng {x : Int} (h : U32 x) : ∀ n, U32 (bitN x n)
  | 0 => h
  | n + 1 => bitS_rng (bitN_rng h n)
theorem sumB_rng {s : ByteArray} {x : Int} (h : U32 x) : ∀ n, U32 (sumB s x n)
  | 0 => h
  | _ + 1 => bitN_rng xr_rng 8
def sumOf (s : ByteArray) : Int := sumB s 4294967295 s.size
theorem sumOf_rng {s : ByteArray} : U32 (sumOf s) := sumB_rng ⟨by omega, by omega⟩ _
def fourL (x : Int) : List Int := [x / 16777216, x / 65536 % 256, x / 256 % 256, x % 256]
/-- A text and its sum. -/
def sealT (s : ByteArray) : ByteArray := s ++ strOfNums (fourL (sumOf s))
def unS (t : ByteArray) : Option ByteArray := if 4 ≤ t.size ∧ t.size ≤ 8004 ∧ sealT (t.extract 0 (t.size - 4)) = t then some (t.extract 0 (t.size - 4)) else none
theorem four_size {x : Int} : (strOfNums (fourL x)).size = 4 := by
  rw [← ByteArray.size_data, ← Array.length_toList, strOfNums_data, List.length_map]
  rfl
theorem seal_size {s : ByteArray} : (sealT s).size = s.size + 4 := by
  unfold sealT
  rw [ByteArray.size_append, four_size]
theorem ext_split {t : ByteArray} {n : Nat} (h : n ≤ t.size) : t.extract 0 n ++ t.extract n t.size = t := by
  rw [extract_seg, extract_seg, strOfNums_app', ← segN_append (Nat.zero_le _) h, seg_all]
theorem app_inj {a b c d : ByteArray} (h : a ++ b = c ++ d) (hs : a.size = c.size) : b = d := by
  have h1 := congrArg (fun x : ByteArray => x.data.toList) h
  simp only [ByteArray.data_append, Array.toList_append] at h1
  have h2 : a.data.toList.length = c.data.toList.length := by
    rw [Array.length_toList, Array.length_toList, ByteArray.size_data, ByteArray.size_data]; exact hs
  have h3 := (List.append_inj h1 h2).2
  cases b; cases d
  simp only at h3
  congr 1
  exact Array.toList_inj.1 h3
theorem unS_tail {t : ByteArray} (h : 4 ≤ t.size) : t.extract (t.size - 4) t.size = strOfNums (fourL (sumOf (t.extract 0 (t.size - 4)))) ↔ sealT (t.extract 0 (t.size - 4)) = t := by
  have e := ext_split (t := t) (n := t.size - 4) (by omega)
  unfold sealT
  constructor
  · intro q
    rw [← q]; exact e
  · intro q
    refine app_inj (e.trans q.symm) rfl
theorem unS_some {t b : ByteArray} (h : unS t = some b) : sealT b = t ∧ b.size ≤ 8000 := by
  unfold unS at h
  split at h
  · next c =>
    cases h
    refine ⟨c.2.2, ?_⟩
    rw [ByteArray.size_extract]
    omega
  · cases h
theorem seal_inj {a b : ByteArray} (h : sealT a = sealT b) : a = b := by
  have hs : a.size = b.size := by
    have := congrArg ByteArray.size h
    rw [seal_size, seal_size] at this
    omega
  unfold sealT at h
  have h1 := congrArg (fun x : ByteArray => x.data.toList) h
  simp only [ByteArray.data_append, Array.toList_append] at h1
  have h2 : a.data.toList.length = b.data.toList.length := by
    rw [Array.length_toList, Array.length_toList, ByteArray.size_data, ByteArray.size_data]; exact hs
  have h3 := (List.append_inj h1 h2).1
  cases a; cases b
  simp only at h3
  congr 1
  exact Array.toList_inj.1 h3
end Go.Proofs.YtgmljppiiighmaaGreatDoor.Ab
set_option linter.unusedSimpArgs false
set_option linter.unusedVariables false
set_option linter.unnecessarySimpa false
set_option maxHeartbeats 4000000
namespace Go.Proofs.YtgmljppiiighmaaGreatDoor.Ab
open Go.RowKit
theorem strOfNums_app {l m : List Int} : strOfNums l ++ strOfNums m = strOfNums (l ++ m) := by
  apply ByteArray.ext
  apply Array.toList_inj.1
  rw [ByteArray.data_append, Array.toList_append, strOfNums_data, strOfNums_data, strOfNums_data, List.map_append]
theorem mkD_dec : ∀ (k n : Nat) (s : ByteArray), n < k → 0 < n → mkD n s = strOfNums (decL n) ++ s
  | 0, n, s, h, _ => by omega
  | k + 1, n, s, h, hp => by
    rw [mkD_pos hp, decL]
    by_cases h1 : n < 10
    · rw [if_pos h1, show n / 10 = 0 by omega, mkD_zero, show n % 10 = n by omega]
    · rw [if_neg h1, mkD_dec k (n / 10) _ (by omega) (by omega), ← ByteArray.append_assoc, strOfNums_app]
theorem decT_size {n k : Nat} (h : n < 10 ^ k) (hk : 0 < k) : (decT n).size ≤ k := by
  unfold decT
  rw [strOfNums_size]
  exact decL_len k n h hk
theorem twoT_size {n : Nat} (h : n ≤ 1000000000) : (twoT n).size ≤ 10 := by
  unfold twoT twoL
  rw [strOfNums_size]
  split
  · simp
  · exact decL_len 10 n (by omega) (by omega)
theorem qK_app {n : Nat} : (⟨⟨[113]⟩⟩ : ByteArray) ++ twoT n = qK n := by
  rw [show (⟨⟨[113]⟩⟩ : ByteArray) = strOfNums [113] from rfl]; exact strOfNums_app
theorem vK_app {n : Nat} : (⟨⟨[118]⟩⟩ : ByteArray) ++ twoT n = vK n := by
  rw [show (⟨⟨[118]⟩⟩ : ByteArray) = strOfNums [118] from rfl]; exact strOfNums_app
theorem rK_app {r n : Nat} : (⟨⟨[114]⟩⟩ : ByteArray) ++ twoT r ++ twoT n = rK r n := by
  rw [show (⟨⟨[114]⟩⟩ : ByteArray) = strOfNums [114] from rfl]; unfold twoT; rw [strOfNums_app, strOfNums_app]; rfl
theorem lit_size {c : UInt8} : (⟨⟨[c]⟩⟩ : ByteArray).size = 1 := rfl
theorem asz {c : UInt8} : (⟨[c]⟩ : Array UInt8).size = 1 := rfl
theorem zero_app {n : Nat} : (⟨⟨[48]⟩⟩ : ByteArray) ++ decT n = strOfNums (48 :: decL n) := by
  rw [show (⟨⟨[48]⟩⟩ : ByteArray) = strOfNums [48] from rfl]; exact strOfNums_app
section
variable {X : CallF} {h : Heap} {m : List Pr} {mv : Value}
theorem k_spec_l01Figure {d : Nat} (hd : d < 10) : C T X n_spec_l01Figure [.int .i64 (d : Int)] h = some (.int .u8 ((48 + d : Nat) : Int), h) := by
  refine C_go t_spec_l01Figure rfl ?_
  unfold F_spec_l01Figure
  have h1 : (d : Int) < 10 := by omega
  have e : IntKind.u8.wrap (IntKind.i64.wrap (48 + (d : Int))) = ((48 + d : Nat) : Int) := by rw [w64 (by omega) (by omega), wu8 (by omega) (by omega)]; omega
  simp only [h1, e, go_sem]
theorem k_spec_Decimal {n : Nat} (hn : n ≤ 4611686018427387904) : C T X n_spec_Decimal [.int .i64 (n : Int)] h = some (.string (decT n), h) := by
  refine C_go t_spec_Decimal rfl ?_
  unfold F_spec_Decimal
  simp only [go_sem]
  refine w_open (by simp only [go_sem]; rfl) ?_ ?_ <;> intro hc
  · have : n = 0 := by omega
    subst this
    simp only [go_sem]
    unfold decT decL
    rfl
  have hneg : decide ((n : Int) < 0) = false := decide_eq_false (by omega)
  simp only [hneg, go_sem]
  refine w_meas n (fun m t loc h' => h' = h ∧ ∃ s : ByteArray, t 0 = .int .i64 (m : Nat) ∧ t 3 = .bool false ∧ t 4 = .string s ∧ m ≤ n ∧ mkD m s = mkD n noT ∧ (∃ c, m < 10 ^ c ∧ s.size + c ≤ 19)) ⟨rfl, noT, rfl, rfl, rfl, Nat.le_refl _, rfl, 19, by omega, by decide⟩ ?_
  rintro m t loc h' ⟨rfl, s, t0, t3, t4, hm, hd, c, hc1, hc2⟩
  simp only [t0, t3, t4, go_sem]
  refine w_open (by simp only [t0, t3, t4, go_sem]; rfl) ?_ ?_ <;> intro hc'
  · have hf := k_spec_l01Figure (X := X) (h := h') (d := m % 10) (Nat.mod_lt _ (by omega))
    have hq : IntKind.i64.wrap ((m / 10 : Nat) : Int) = ((m / 10 : Nat) : Int) := w64 (by omega) (by omega)
    have hr : ((m : Int).tmod 10) = ((m % 10 : Nat) : Int) := rfl
    have hv : ((m : Int).tdiv 10) = ((m / 10 : Nat) : Int) := rfl
    have hnn : ¬ ((m % 10 : Nat) : Int) < 0 := by omega
    have hcp : 0 < c := by
      cases c with
      | zero => simp at hc1; omega
      | succ c => omega
    have hm1 : 0 < m := by omega
    have hsz : (strOfNums [((48 + m % 10 : Nat) : Int)]).size + s.size ≤ 9223372036854775807 := by rw [strOfNums_size]; simp only [List.length_cons, List.length_nil]; omega
    simp only [t0, t3, t4, hr, hv, hf, hq, hnn, strLV, ints8, isInt8, Option.map_some, hsz, go_sem]
    refine ⟨m / 10, by omega, _, rfl, rfl, by omega, ?_, c - 1, ?_, ?_⟩
    · rw [← hd, mkD_pos (n := m) hm1]
    · have : 10 ^ c = 10 ^ (c - 1) * 10 := by rw [← Nat.pow_succ]; congr 1; omega
      omega
    · rw [ByteArray.size_append, strOfNums_size]; simp only [List.length_cons, List.length_nil]; omega
  · have : m = 0 := by omega
    subst this
    have hs : s = decT n := by
      rw [mkD_zero] at hd
      rw [hd, mkD_dec (n + 1) n noT (by omega) (by omega)]
      unfold decT noT
      exact ByteArray.append_empty
    simp only [t3, t4, hs, go_sem]
theorem k_spec_l13Two {n : Nat} (hn : n ≤ 1000000000) : C T X n_spec_l13Two [.int .i64 (n : Int)] h = some (.string (twoT n), h) := by
  refine C_go t_spec_l13Two rfl ?_
  unfold F_spec_l13Two
  have hd := k_spec_Decimal (X := X) (h := h) (n := n) (by omega)
  have hs := decT_size (n := n) (k := 10) (by omega) (by omega)
  have hz : (⟨[48]⟩ : Array UInt8).size + (decT n).size ≤ 9223372036854775807 := by rw [asz]; omega
  by_cases c : n < 10
  · have c1 : (n : Int) < 10 := by omega
    simp only [hd, hz, c1, zero_app, go_sem]
    unfold twoT twoL
    rw [if_pos c]
    rw [decL, if_pos c]
  · have c1 : ¬ (n : Int) < 10 := by omega
    simp only [hd, c1, go_sem]
    unfold twoT twoL
    rw [if_neg c]
    rfl
theorem k_impl_two [LibX X] {n : Nat} (hn : n ≤ 1000000000) : C T X n_impl_two [.int .i64 (n : Int)] h = some (.string (twoT n), h) := by
  refine C_go t_impl_two rfl ?_
  unfold F_impl_two
  have hd := k_impl_Decimal (X := X) (h := h) (n := n) (by omega)
  have hs := decT_size (n := n) (k := 10) (by omega) (by omega)
  have hz : (⟨[48]⟩ : Array UInt8).size + (decT n).size ≤ 9223372036854775807 := by rw [asz]; omega
  by_cases c : n < 10
  · have c1 : (n : Int) < 10 := by omega
    simp only [hd, hz, c1, zero_app, go_sem]
    unfold twoT twoL
    rw [if_pos c]
    rw [decL, if_pos c]
  · have c1 : ¬ (n : Int) < 10 := by omega
    simp only [hd, c1, go_sem]
    unfold twoT twoL
    rw [if_neg c]
    rfl
/-- Two figures, as both read them. -/
def twoV (s : ByteArray) : Value := .tuple ⟨[.int .i64 (((rdTwo s).getD 0 : Nat) : Int), .bool (rdTwo s).isSome]⟩
theorem k_impl_readTwo {s : ByteArray} : C T X n_impl_readTwo [.string s] h = some (twoV s, h) := by
  refine C_go t_impl_readTwo rfl ?_
  unfold F_impl_readTwo
  have no : (¬ (s.size = 2 ∧ (48 ≤ byt s 0 ∧ byt s 0 ≤ 57) ∧ (48 ≤ byt s 1 ∧ byt s 1 ≤ 57))) → twoV s = .tuple ⟨[.int .i64 0, .bool false]⟩ := fun hn => by
    unfold twoV rdTwo
    rw [if_neg hn]
    rfl
  by_cases h2 : (s.size : Int) = 2
  · have e0 : ixV (.string s) (.int .i64 0) = some (.int .u8 (byt s 0 : Nat)) := ix_byt (i := 0) (by omega)
    have e1 : ixV (.string s) (.int .i64 1) = some (.int .u8 (byt s 1 : Nat)) := ix_byt (i := 1) (by omega)
    have b0 := byt_lt (s := s) (i := 0)
    have b1 := byt_lt (s := s) (i := 1)
    by_cases c1 : ((byt s 0 : Nat) : Int) < 48
    · simp only [h2, e0, e1, c1, go_sem]
      exact (no (by omega)).symm
    by_cases c2 : ((byt s 0 : Nat) : Int) > 57
    · simp only [h2, e0, e1, c1, c2, go_sem]
      exact (no (by omega)).symm
    by_cases c3 : ((byt s 1 : Nat) : Int) < 48
    · simp only [h2, e0, e1, c1, c2, c3, go_sem]
      exact (no (by omega)).symm
    by_cases c4 : ((byt s 1 : Nat) : Int) > 57
    · simp only [h2, e0, e1, c1, c2, c3, c4, go_sem]
      exact (no (by omega)).symm
    · have w0 : IntKind.u8.wrap (((byt s 0 : Nat) : Int) - 48) = ((byt s 0 : Nat) : Int) - 48 := wu8 (by omega) (by omega)
      have w1 : IntKind.u8.wrap (((byt s 1 : Nat) : Int) - 48) = ((byt s 1 : Nat) : Int) - 48 := wu8 (by omega) (by omega)
      have w2 : IntKind.i64.wrap (((byt s 0 : Nat) : Int) - 48) = ((byt s 0 : Nat) : Int) - 48 := w64 (by omega) (by omega)
      have w3 : IntKind.i64.wrap (((byt s 1 : Nat) : Int) - 48) = ((byt s 1 : Nat) : Int) - 48 := w64 (by omega) (by omega)
      have w4 : IntKind.i64.wrap ((((byt s 0 : Nat) : Int) - 48) * 10) = (((byt s 0 : Nat) : Int) - 48) * 10 := w64 (by omega) (by omega)
      have w5 : IntKind.i64.wrap ((((byt s 0 : Nat) : Int) - 48) * 10 + (((byt s 1 : Nat) : Int) - 48)) = ((10 * (byt s 0 - 48) + (byt s 1 - 48) : Nat) : Int) := by rw [w64 (by omega) (by omega)]; omega
      simp only [h2, e0, e1, c1, c2, c3, c4, w0, w1, w2, w3, w4, w5, go_sem]
      unfold twoV rdTwo
      rw [if_pos (by omega)]
      rfl
  · simp only [h2, go_sem]
    exact (no (by omega)).symm
theorem k_spec_l13Num {s : ByteArray} : C T X n_spec_l13Num [.string s] h = some (twoV s, h) := by
  refine C_go t_spec_l13Num rfl ?_
  unfold F_spec_l13Num
  have no : (¬ (s.size = 2 ∧ (48 ≤ byt s 0 ∧ byt s 0 ≤ 57) ∧ (48 ≤ byt s 1 ∧ byt s 1 ≤ 57))) → twoV s = .tuple ⟨[.int .i64 0, .bool false]⟩ := fun hn => by
    unfold twoV rdTwo
    rw [if_neg hn]
    rfl
  by_cases h2 : (s.size : Int) = 2
  · have e0 : ixV (.string s) (.int .i64 0) = some (.int .u8 (byt s 0 : Nat)) := ix_byt (i := 0) (by omega)
    have e1 : ixV (.string s) (.int .i64 1) = some (.int .u8 (byt s 1 : Nat)) := ix_byt (i := 1) (by omega)
    have b0 := byt_lt (s := s) (i := 0)
    have b1 := byt_lt (s := s) (i := 1)
    by_cases c1 : ((byt s 0 : Nat) : Int) < 48
    · simp only [h2, e0, e1, c1, go_sem]
      exact (no (by omega)).symm
    by_cases c2 : ((byt s 0 : Nat) : Int) > 57
    · simp only [h2, e0, e1, c1, c2, go_sem]
      exact (no (by omega)).symm
    by_cases c3 : ((byt s 1 : Nat) : Int) < 48
    · simp only [h2, e0, e1, c1, c2, c3, go_sem]
      exact (no (by omega)).symm
    by_cases c4 : ((byt s 1 : Nat) : Int) > 57
    · simp only [h2, e0, e1, c1, c2, c3, c4, go_sem]
      exact (no (by omega)).symm
    · have w0 : IntKind.u8.wrap (((byt s 0 : Nat) : Int) - 48) = ((byt s 0 : Nat) : Int) - 48 := wu8 (by omega) (by omega)
      have w1 : IntKind.u8.wrap (((byt s 1 : Nat) : Int) - 48) = ((byt s 1 : Nat) : Int) - 48 := wu8 (by omega) (by omega)
      have w2 : IntKind.i64.wrap (((byt s 0 : Nat) : Int) - 48) = ((byt s 0 : Nat) : Int) - 48 := w64 (by omega) (by omega)
      have w3 : IntKind.i64.wrap (((byt s 1 : Nat) : Int) - 48) = ((byt s 1 : Nat) : Int) - 48 := w64 (by omega) (by omega)
      have w4 : IntKind.i64.wrap (10 * (((byt s 0 : Nat) : Int) - 48)) = 10 * (((byt s 0 : Nat) : Int) - 48) := w64 (by omega) (by omega)
      have w5 : IntKind.i64.wrap (10 * (((byt s 0 : Nat) : Int) - 48) + (((byt s 1 : Nat) : Int) - 48)) = ((10 * (byt s 0 - 48) + (byt s 1 - 48) : Nat) : Int) := by rw [w64 (by omega) (by omega)]; omega
      simp only [h2, e0, e1, c1, c2, c3, c4, w0, w1, w2, w3, w4, w5, go_sem]
      unfold twoV rdTwo
      rw [if_pos (by omega)]
      rfl
  · simp only [h2, go_sem]
    exact (no (by omega)).symm
/-- What a map holds at a key. -/
def getV (m : List Pr) (k : ByteArray) : Value := .tuple ⟨[.string ((getK m k).getD noT), .bool (getK m k).isSome]⟩
theorem k_impl_get {k : ByteArray} (hm : Rows h 2 mv (prsL m)) (hl : m.length ≤ lim) : C T X n_impl_get [mv, .string k] h = some (getV m k, h) := by
  unfold lim at hl
  refine C_go t_impl_get rfl ?_
  unfold F_impl_get
  simp only [hm.lnm, zeros, fillAt, go_sem]
  refine w_for m.length (fun i t loc h' => h' = h ∧ t 1 = .string k ∧ t 8 = mv ∧ t 9 = .int .i64 m.length ∧ t 10 = .int .i64 i ∧ ∀ j, j < i → ¬ (m.getD j p0).k = k) ⟨rfl, rfl, rfl, rfl, rfl, fun j hj => by omega⟩ ?_
  rintro i t loc h' hi ⟨rfl, t1, t8, t9, t10, hj⟩
  simp only [t9, t10, go_sem]
  refine w_open (by simp only [go_sem]; rfl) ?_ ?_ <;> intro hc
  · have hi1 : i < m.length := by omega
    have hw : IntKind.i64.wrap ((i : Int) + 1) = ((i + 1 : Nat) : Int) := w64 (by omega) (by omega)
    have el := hm.el (f := prR) p0 hi1
    obtain ⟨q, hq⟩ : ∃ q, q = m.getD i p0 := ⟨_, rfl⟩
    rw [← hq] at el
    by_cases c : q.k = k
    · have c' : (q.k.toList == k.toList) = true := by rw [str_eq]; exact decide_eq_true c
      have hg := getK_first hi1 (by rw [← hq]; exact c) hj
      rw [← hq] at hg
      simp only [t1, t8, t9, t10, el.1, el.2.1, el.2.2, prR, c', zeros, fillAt, go_sem]
      unfold getV
      rw [hg]
      rfl
    · have c' : (q.k.toList == k.toList) = false := by rw [str_eq]; exact decide_eq_false c
      simp only [t1, t8, t9, t10, el.1, el.2.1, el.2.2, prR, c', hw, zeros, fillAt, go_sem]
      refine ⟨hi1, fun j hj' => ?_⟩
      by_cases e : j = i
      · rw [e, ← hq]; exact c
      · exact hj j (by omega)
  · have hn : getK m k = none := by
      cases hg : getK m k with
      | none => rfl
      | some v =>
        obtain ⟨j, h1, h2, _⟩ := getK_some hg
        exact absurd h2 (hj j (by omega))
    simp only [go_sem]
    unfold getV
    rw [hn]
    rfl
theorem k_spec_l13Get {k : ByteArray} (hm : Rows h 2 mv (prsL m)) (hl : m.length ≤ lim) : C T X n_spec_l13Get [mv, .string k] h = some (getV m k, h) := by
  unfold lim at hl
  refine C_go t_spec_l13Get rfl ?_
  unfold F_spec_l13Get
  simp only [go_sem]
  refine w_for m.length (fun i t loc h' => h' = h ∧ t 1 = .string k ∧ t 0 = mv ∧ t 6 = .int .i64 i ∧ ∀ j, j < i → ¬ (m.getD j p0).k = k) ⟨rfl, rfl, rfl, rfl, fun j hj => by omega⟩ ?_
  rintro i t loc h' hi ⟨rfl, t1, t0, t6, hj⟩
  simp only [t0, t6, hm.lnm, go_sem]
  refine w_open (by simp only [go_sem]; rfl) ?_ ?_ <;> intro hc
  · have hi1 : i < m.length := by omega
    have hw : IntKind.i64.wrap ((i : Int) + 1) = ((i + 1 : Nat) : Int) := w64 (by omega) (by omega)
    have el := hm.el (f := prR) p0 hi1
    have cl0 := hm.cell (f := prR) p0 hi1 (o := 0) (by omega)
    have cl1 := hm.cell (f := prR) p0 hi1 (o := 1) (by omega)
    obtain ⟨q, hq⟩ : ∃ q, q = m.getD i p0 := ⟨_, rfl⟩
    rw [← hq] at el cl0 cl1
    have k0 : ldC h' (elemP mv 2 i 0) 1 = some [.string q.k] := cl0
    have k1 : ldC h' (elemP mv 2 i 1) 1 = some [.string q.v] := cl1
    by_cases c : q.k = k
    · have c' : (q.k.toList == k.toList) = true := by rw [str_eq]; exact decide_eq_true c
      have hg := getK_first hi1 (by rw [← hq]; exact c) hj
      rw [← hq] at hg
      simp only [t0, t1, t6, el.1, el.2.1, k0, k1, c', go_sem]
      unfold getV
      rw [hg]
      rfl
    · have c' : (q.k.toList == k.toList) = false := by rw [str_eq]; exact decide_eq_false c
      simp only [t0, t1, t6, el.1, el.2.1, k0, k1, c', hw, go_sem]
      refine ⟨hi1, fun j hj' => ?_⟩
      by_cases e : j = i
      · rw [e, ← hq]; exact c
      · exact hj j (by omega)
  · have hn : getK m k = none := by
      cases hg : getK m k with
      | none => rfl
      | some v =>
        obtain ⟨j, h1, h2, _⟩ := getK_some hg
        exact absurd h2 (hj j (by omega))
    simp only [go_sem]
    unfold getV
    rw [hn]
    rfl
end
end Go.Proofs.YtgmljppiiighmaaGreatDoor.Ab
