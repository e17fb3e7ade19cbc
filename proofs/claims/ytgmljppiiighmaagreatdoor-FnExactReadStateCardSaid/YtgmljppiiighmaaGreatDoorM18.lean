/- Joined: K51, K52, K80, R9, R10, K33. No conditions. -/
import Derived.Test.YtgmljppiiighmaaGreatDoorM17
import Derived.Test.YtgmljppiiighmaaGreatDoorM15
set_option linter.unusedSimpArgs false
set_option linter.unusedVariables false
set_option linter.unnecessarySimpa false
set_option maxHeartbeats 4000000
namespace Go.Proofs.YtgmljppiiighmaaGreatDoor.Ab
open Go.RowKit
/-- Whether something is so. -/
noncomputable def tB (p : Prop) : Bool := @decide p (Classical.propDecidable p)
theorem tB_t {p : Prop} (h : p) : tB p = true := by unfold tB; exact @decide_eq_true p (Classical.propDecidable p) h
theorem tB_f {p : Prop} (h : ¬ p) : tB p = false := by unfold tB; exact @decide_eq_false p (Classical.propDecidable p) h
theorem tB_iff {p q : Prop} (h : p ↔ q) : tB p = tB q := by
  by_cases c : p
  · rw [tB_t c, tB_t (h.1 c)]
  · rw [tB_f c, tB_f fun k => c (h.2 k)]
def okAt (m : List Pr) (i : Nat) : Prop := ((1 ≤ (m.getD i p0).k.size ∧ (m.getD i p0).k.size ≤ 8) ∧ (m.getD i p0).v.size ≤ 40) ∧ (0 < i → kLt (m.getD (i - 1) p0).k (m.getD i p0).k)
section
variable {X : CallF} {h : Heap} {m : List Pr} {mv : Value}
theorem k_spec_MapOk (hm : Rows h 2 mv (prsL m)) (hl : m.length ≤ lim) : C T X n_spec_MapOk [mv] h = some (.bool (tB (MapIs m)), h) := by
  unfold lim at hl
  refine C_go t_spec_MapOk rfl ?_
  unfold F_spec_MapOk
  by_cases hn : (m.length : Int) > 120
  · simp only [hm.lnm, hn, go_sem]
    exact (tB_f fun k => by have := k.1; omega).symm
  simp only [hm.lnm, hn, go_sem]
  refine w_for m.length (fun i t loc h' => h' = h ∧ t 0 = mv ∧ t 3 = .int .i64 i ∧ ∀ j, j < i → okAt m j) ⟨rfl, rfl, rfl, fun j hj => by omega⟩ ?_
  rintro i t loc h' hi ⟨rfl, t0, t3, hj⟩
  simp only [t0, t3, hm.lnm, go_sem]
  refine w_open (by simp only [go_sem]; rfl) ?_ ?_ <;> intro hc
  · have hi1 : i < m.length := by omega
    have hw : IntKind.i64.wrap ((i : Int) + 1) = ((i + 1 : Nat) : Int) := w64 (by omega) (by omega)
    have bad : ¬ okAt m i → tB (MapIs m) = false := fun hb => tB_f fun k => hb (k.2 i hi1)
    have el := hm.el (f := prR) p0 hi1
    have cl0 := hm.cell (f := prR) p0 hi1 (o := 0) (by omega)
    have cl1 := hm.cell (f := prR) p0 hi1 (o := 1) (by omega)
    have hok : okAt m i = okAt m i := rfl
    conv at hok => rhs; unfold okAt
    obtain ⟨q, hq⟩ : ∃ q, q = m.getD i p0 := ⟨_, rfl⟩
    rw [← hq] at el cl0 cl1 hok
    have k0 : ldC h' (elemP mv 2 i 0) 1 = some [.string q.k] := cl0
    have k1 : ldC h' (elemP mv 2 i 1) 1 = some [.string q.v] := cl1
    have hin := k_spec_l01In (X := X) (h := h') (n := (q.k.size : Int)) (lo := 1) (hi := 8)
    by_cases c1 : (1 : Int) ≤ q.k.size
    rotate_left
    · simp only [t0, t3, el.1, el.2.1, k0, k1, hin, c1, go_sem]
      exact (bad (by rw [hok]; omega)).symm
    by_cases c2 : (q.k.size : Int) ≤ 8
    rotate_left
    · simp only [t0, t3, el.1, el.2.1, k0, k1, hin, c1, c2, go_sem]
      exact (bad (by rw [hok]; omega)).symm
    by_cases c3 : (q.v.size : Int) > 40
    · simp only [t0, t3, el.1, el.2.1, k0, k1, hin, c1, c2, c3, go_sem]
      exact (bad (by rw [hok]; omega)).symm
    by_cases c4 : (i : Int) > 0
    rotate_left
    · simp only [t0, t3, el.1, el.2.1, k0, k1, hin, c1, c2, c3, c4, hw, go_sem]
      refine ⟨hi1, fun j hj' => ?_⟩
      by_cases e : j = i
      · rw [e, hok]; exact ⟨by omega, fun hp => by omega⟩
      · exact hj j (by omega)
    have elp := hm.el (f := prR) p0 (i := i - 1) (by omega)
    have clp := hm.cell (f := prR) p0 (i := i - 1) (o := 0) (by omega) (by omega)
    obtain ⟨q', hq'⟩ : ∃ q', q' = m.getD (i - 1) p0 := ⟨_, rfl⟩
    rw [← hq'] at elp clp hok
    have kp : ldC h' (elemP mv 2 (i - 1) 0) 1 = some [.string q'.k] := clp
    have hw' : IntKind.i64.wrap ((i : Int) - 1) = ((i - 1 : Nat) : Int) := by rw [w64 (by omega) (by omega)]; omega
    cases c5 : Op.bytesLess q'.k.toList q.k.toList with
    | true =>
      simp only [t0, t3, el.1, el.2.1, elp.1, elp.2.1, k0, k1, kp, hin, c1, c2, c3, c4, c5, hw, hw', go_sem]
      refine ⟨hi1, fun j hj' => ?_⟩
      by_cases e : j = i
      · rw [e, hok]; exact ⟨by omega, fun hp => c5⟩
      · exact hj j (by omega)
    | false =>
      simp only [t0, t3, el.1, el.2.1, elp.1, elp.2.1, k0, k1, kp, hin, c1, c2, c3, c4, c5, hw', go_sem]
      refine (bad ?_).symm
      rw [hok]
      intro k
      have := k.2 (by omega)
      unfold kLt at this
      rw [c5] at this
      cases this
  · simp only [go_sem]
    exact (tB_t ⟨by omega, fun j hj' => hj j (by omega)⟩).symm
theorem k_impl_MapOk (hm : Rows h 2 mv (prsL m)) (hl : m.length ≤ lim) : C T X n_impl_MapOk [mv] h = some (.bool (tB (MapIs m)), h) := by
  unfold lim at hl
  refine C_go t_impl_MapOk rfl ?_
  unfold F_impl_MapOk
  simp only [hm.lnm, zeros, fillAt, go_sem]
  refine w_for m.length (fun i t loc h' => h' = h ∧ t 0 = mv ∧ t 5 = mv ∧ t 6 = .int .i64 m.length ∧ t 7 = .int .i64 i ∧ ∀ j, j < i → okAt m j) ⟨rfl, rfl, rfl, rfl, rfl, fun j hj => by omega⟩ ?_
  rintro i t loc h' hi ⟨rfl, t0, t5, t6, t7, hj⟩
  simp only [t6, t7, go_sem]
  refine w_open (by simp only [go_sem]; rfl) ?_ ?_ <;> intro hc
  · have hi1 : i < m.length := by omega
    have hw : IntKind.i64.wrap ((i : Int) + 1) = ((i + 1 : Nat) : Int) := w64 (by omega) (by omega)
    have bad : ¬ okAt m i → tB (MapIs m) = false := fun hb => tB_f fun k => hb (k.2 i hi1)
    have el := hm.el (f := prR) p0 hi1
    have hok : okAt m i = okAt m i := rfl
    conv at hok => rhs; unfold okAt
    obtain ⟨q, hq⟩ : ∃ q, q = m.getD i p0 := ⟨_, rfl⟩
    rw [← hq] at el hok
    have hin := k_impl_in (X := X) (h := h') (n := (q.k.size : Int)) (lo := 1) (hi := 8)
    by_cases c1 : (1 : Int) ≤ q.k.size
    rotate_left
    · simp only [t0, t5, t6, t7, el.1, el.2.1, el.2.2, prR, zeros, fillAt, hin, c1, go_sem]
      exact (bad (by rw [hok]; omega)).symm
    by_cases c2 : (q.k.size : Int) ≤ 8
    rotate_left
    · simp only [t0, t5, t6, t7, el.1, el.2.1, el.2.2, prR, zeros, fillAt, hin, c1, c2, go_sem]
      exact (bad (by rw [hok]; omega)).symm
    by_cases c3 : (q.v.size : Int) > 40
    · simp only [t0, t5, t6, t7, el.1, el.2.1, el.2.2, prR, zeros, fillAt, hin, c1, c2, c3, go_sem]
      exact (bad (by rw [hok]; omega)).symm
    by_cases c4 : (i : Int) > 0
    rotate_left
    · simp only [t0, t5, t6, t7, el.1, el.2.1, el.2.2, prR, zeros, fillAt, hin, c1, c2, c3, c4, hw, go_sem]
      refine ⟨hi1, fun j hj' => ?_⟩
      by_cases e : j = i
      · rw [e, hok]; exact ⟨by omega, fun hp => by omega⟩
      · exact hj j (by omega)
    have elp := hm.el (f := prR) p0 (i := i - 1) (by omega)
    have clp := hm.cell (f := prR) p0 (i := i - 1) (o := 0) (by omega) (by omega)
    obtain ⟨q', hq'⟩ : ∃ q', q' = m.getD (i - 1) p0 := ⟨_, rfl⟩
    rw [← hq'] at elp clp hok
    have kp : ldC h' (elemP mv 2 (i - 1) 0) 1 = some [.string q'.k] := clp
    have hw' : IntKind.i64.wrap ((i : Int) - 1) = ((i - 1 : Nat) : Int) := by rw [w64 (by omega) (by omega)]; omega
    cases c5 : Op.bytesLess q'.k.toList q.k.toList with
    | true =>
      simp only [t0, t5, t6, t7, el.1, el.2.1, el.2.2, elp.1, elp.2.1, kp, prR, zeros, fillAt, hin, c1, c2, c3, c4, c5, hw, hw', go_sem]
      refine ⟨hi1, fun j hj' => ?_⟩
      by_cases e : j = i
      · rw [e, hok]; exact ⟨by omega, fun hp => c5⟩
      · exact hj j (by omega)
    | false =>
      simp only [t0, t5, t6, t7, el.1, el.2.1, el.2.2, elp.1, elp.2.1, kp, prR, zeros, fillAt, hin, c1, c2, c3, c4, c5, hw', go_sem]
      refine (bad ?_).symm
      rw [hok]
      intro k
      have := k.2 (by omega)
      unfold kLt at this
      rw [c5] at this
      cases this
  · simp only [t0, hm.lnm, go_sem]
    by_cases c : (m.length : Int) ≤ 120
    · rw [tB_t ⟨by omega, fun j hj' => hj j (by omega)⟩]; simp [c]
    · rw [tB_f fun k => by have := k.1; omega]; simp [c]
theorem k_impl_roundsOf [LibX X] {R : Nat} (hm : Rows h 2 mv (prsL m)) (hl : m.length ≤ lim) (hR : IsRnd m R) : C T X n_impl_roundsOf [mv] h = some (.int .i64 ((min R 7 : Nat) : Int), h) := by
  refine C_go t_impl_roundsOf rfl ?_
  unfold F_impl_roundsOf
  simp only [go_sem]
  refine w_for 8 (fun i t loc h' => h' = h ∧ t 0 = mv ∧ t 3 = .int .i64 i ∧ i ≤ R ∧ i ≤ 7) ⟨rfl, rfl, rfl, Nat.zero_le _, by omega⟩ ?_
  rintro i t loc h' hi ⟨rfl, t0, t3, hj, hj7⟩
  simp only [t0, t3, go_sem]
  refine w_open (by simp only [go_sem]; rfl) ?_ ?_ <;> intro hc
  · have hw : IntKind.i64.wrap ((i : Int) + 1) = ((i + 1 : Nat) : Int) := w64 (by omega) (by omega)
    have hg := k_impl_get (X := X) (k := qK i) hm hl
    have h2 := k_impl_two (X := X) (h := h') (n := i) (by omega)
    have hz := twoT_size (n := i) (by omega)
    have hz1 : (⟨[113]⟩ : Array UInt8).size + (twoT i).size ≤ 9223372036854775807 := by rw [asz]; omega
    unfold getV at hg
    by_cases c : i = R
    · have e : (getK m (qK i)).isSome = false := by rw [c, hR.2]; rfl
      simp only [t0, t3, h2, qK_app, hz1, hg, e, go_sem]
      rw [show min R 7 = i by omega]
    · have e : (getK m (qK i)).isSome = true := hR.1 i (by omega)
      simp only [t0, t3, h2, qK_app, hz1, hg, e, hw, go_sem]
      omega
  · simp only [t3, go_sem]
    rw [show min R 7 = i by omega]
theorem k_spec_l13Rounds {R : Nat} (hm : Rows h 2 mv (prsL m)) (hl : m.length ≤ 1048576) (hR : IsRnd m R) : C T X n_spec_l13Rounds [mv] h = some (.int .i64 (R : Int), h) := by
  have hle := rounds_le hR.1
  have hll : m.length ≤ lim := by unfold lim; omega
  refine C_go t_spec_l13Rounds rfl ?_
  unfold F_spec_l13Rounds
  have hz0 := twoT_size (n := 0) (by omega)
  have hz1 : (⟨[113]⟩ : Array UInt8).size + (twoT 0).size ≤ 9223372036854775807 := by rw [asz]; omega
  have h20 : C T X n_spec_l13Two [.int .i64 0] h = some (.string (twoT 0), h) := k_spec_l13Two (X := X) (h := h) (n := 0) (by omega)
  have hg0 := k_spec_l13Get (X := X) (k := qK 0) hm hll
  unfold getV at hg0
  simp only [h20, qK_app, hz1, hg0, go_sem]
  refine w_for R (fun i t loc h' => h' = h ∧ t 0 = mv ∧ t 3 = .int .i64 i ∧ t 5 = .bool (getK m (qK i)).isSome ∧ i ≤ R) ⟨rfl, rfl, rfl, rfl, Nat.zero_le _⟩ ?_
  rintro i t loc h' hi ⟨rfl, t0, t3, t5, hj⟩
  by_cases c : i = R
  · have e : (getK m (qK i)).isSome = false := by rw [c, hR.2]; rfl
    simp only [t0, t3, t5, e, go_sem]
    rw [c]
  · have e : (getK m (qK i)).isSome = true := hR.1 i (by omega)
    have hw : IntKind.i64.wrap ((i : Int) + 1) = ((i + 1 : Nat) : Int) := w64 (by omega) (by omega)
    have hg := k_spec_l13Get (X := X) (k := qK (i + 1)) hm hll
    have h2 := k_spec_l13Two (X := X) (h := h') (n := i + 1) (by omega)
    have hz := twoT_size (n := i + 1) (by omega)
    have hz1 : (⟨[113]⟩ : Array UInt8).size + (twoT (i + 1)).size ≤ 9223372036854775807 := by rw [asz]; omega
    unfold getV at hg
    simp only [t0, t3, t5, e, hw, h2, qK_app, hz1, hg, go_sem]
    omega
theorem k_impl_joined [LibX X] {i : Nat} (hi : i ≤ 1000000000) (hm : Rows h 2 mv (prsL m)) (hl : m.length ≤ lim) : C T X n_impl_joined [mv, .int .i64 (i : Int)] h = some (.bool (tB (Jn m i)), h) := by
  refine C_go t_impl_joined rfl ?_
  unfold F_impl_joined
  have hg := k_impl_get (X := X) (k := vK i) hm hl
  have h2 := k_impl_two (X := X) (h := h) (n := i) (by omega)
  have hz := twoT_size (n := i) (by omega)
  have hz1 : (⟨[118]⟩ : Array UInt8).size + (twoT i).size ≤ 9223372036854775807 := by rw [asz]; omega
  have hin := k_impl_in (X := X) (h := h) (n := (i : Int)) (lo := 0) (hi := 11)
  unfold getV at hg
  have c1 : (0 : Int) ≤ i := by omega
  cases e : (getK m (vK i)).isSome with
  | false =>
    simp only [h2, vK_app, hz1, hg, e, hin, go_sem]
    exact (tB_f fun k => by have := k.2; rw [e] at this; cases this).symm
  | true =>
    by_cases c2 : (i : Int) ≤ 11
    · simp only [h2, vK_app, hz1, hg, e, hin, c1, c2, go_sem]
      exact (tB_t ⟨by omega, e⟩).symm
    · simp only [h2, vK_app, hz1, hg, e, hin, c1, c2, go_sem]
      exact (tB_f fun k => by have := k.1; omega).symm
end
end Go.Proofs.YtgmljppiiighmaaGreatDoor.Ab
set_option linter.unusedSimpArgs false
set_option linter.unusedVariables false
set_option linter.unnecessarySimpa false
set_option maxHeartbeats 4000000
namespace Go.Proofs.YtgmljppiiighmaaGreatDoor.Ab
open Go.RowKit
theorem catB_snoc {l : List ByteArray} {x : ByteArray} : catB (l ++ [x]) = catB l ++ x := by unfold catB; rw [List.foldl_append]; rfl
theorem partsL_snoc {m : List Pr} {r i : Nat} : partsL m r (i + 1) = partsL m r i ++ [partV m r i] := by unfold partsL; rw [List.range_succ, List.map_append]; rfl
theorem catB_size : ∀ {l : List ByteArray}, (∀ x ∈ l, x.size ≤ 40) → (catB l).size ≤ 40 * l.length
  | [], _ => by show noT.size ≤ _; exact Nat.zero_le _
  | x :: l, h => by
    rw [catB_cons, ByteArray.size_append, List.length_cons]
    have h1 := h x List.mem_cons_self
    have h2 := catB_size fun y hy => h y (List.mem_cons_of_mem _ hy)
    omega
theorem getK_size {m : List Pr} (hs : ∀ p ∈ m, p.v.size ≤ 40) {k : ByteArray} : ((getK m k).getD noT).size ≤ 40 := by
  cases hg : getK m k with
  | none => exact Nat.zero_le _
  | some v =>
    obtain ⟨i, h1, h2, h3⟩ := getK_some hg
    rw [Option.getD_some, ← h3]
    exact hs _ (getD_mem h1)
theorem partsL_size {m : List Pr} (hs : ∀ p ∈ m, p.v.size ≤ 40) {r n : Nat} : (catB (partsL m r n)).size ≤ 40 * n := by
  have := catB_size (l := partsL m r n) fun x hx => by
    obtain ⟨i, _, rfl⟩ := List.mem_map.1 hx
    exact getK_size hs
  simpa [partsL] using this
theorem textS_size {l : List Pr} (hs : ∀ p ∈ l, p.v.size ≤ 40) {f : Pr → Bool} : (catB ((l.filter f).map (·.v))).size ≤ 40 * l.length := by
  have := catB_size (l := (l.filter f).map (·.v)) fun x hx => by
    obtain ⟨p, hp, rfl⟩ := List.mem_map.1 hx
    exact hs p (List.mem_filter.1 hp).1
  have h2 := List.length_filter_le f l
  rw [List.length_map] at this
  omega
theorem r3_app {r : Nat} : (⟨⟨[114]⟩⟩ : ByteArray) ++ twoT r = strOfNums (114 :: twoL r) := by
  rw [show (⟨⟨[114]⟩⟩ : ByteArray) = strOfNums [114] from rfl]; exact strOfNums_app
theorem rK_app' {r n : Nat} : strOfNums (114 :: twoL r) ++ twoT n = rK r n := by rw [← r3_app]; exact rK_app
theorem r3_size {r : Nat} (h : r ≤ 1000000000) : (strOfNums (114 :: twoL r)).size ≤ 11 := by
  rw [← r3_app, ByteArray.size_append, lit_size]
  have := twoT_size h
  omega
theorem sl_from {s : ByteArray} {a : Nat} (h : a ≤ s.size) : slSV (.string s) (some (.int .i64 (a : Int))) none = some (.string (s.extract a s.size)) := by
  simp only [slSV, bnd]
  rw [if_pos ⟨by omega, by omega, by omega⟩]
  rfl
theorem sl_to {s : ByteArray} {b : Nat} (h : b ≤ s.size) : slSV (.string s) none (some (.int .i64 (b : Int))) = some (.string (s.extract 0 b)) := by
  simp only [slSV, bnd]
  rw [if_pos ⟨by omega, by omega, by omega⟩]
  rfl
theorem sl_mid {s : ByteArray} {a b : Nat} (h : a ≤ b) (hb : b ≤ s.size) : slSV (.string s) (some (.int .i64 (a : Int))) (some (.int .i64 (b : Int))) = some (.string (s.extract a b)) := by
  simp only [slSV, bnd]
  rw [if_pos ⟨by omega, by omega, by omega⟩]
  rfl
theorem cutF_fuel : ∀ (f g : Nat) (s : ByteArray), s.size < f → s.size < g → cutF f s = cutF g s
  | 0, g, s, h, _ => by omega
  | f + 1, 0, s, _, h => by omega
  | f + 1, g + 1, s, h1, h2 => by
    unfold cutF
    split
    · rw [cutF_fuel f g _ (by rw [ByteArray.size_extract]; omega) (by rw [ByteArray.size_extract]; omega)]
    · rfl
theorem cut_big {s : ByteArray} (h : 40 < s.size) : cut s = s.extract 0 40 :: cut (s.extract 40 s.size) := by
  unfold cut
  rw [cutF, if_pos h, cutF_fuel s.size ((s.extract 40 s.size).size + 1) _ (by rw [ByteArray.size_extract]; omega) (by omega)]
theorem cut_small {s : ByteArray} (h : ¬ 40 < s.size) (h0 : ¬ s.size = 0) : cut s = [s] := by
  unfold cut
  rw [cutF, if_neg h, if_neg h0]
theorem cut_none {s : ByteArray} (h0 : s.size = 0) : cut s = [] := by
  unfold cut
  rw [cutF, if_neg (by omega), if_pos h0]
theorem size_noT {s : ByteArray} : s.size = 0 ↔ s = noT := by
  constructor
  · intro h
    apply ByteArray.ext
    apply Array.toList_inj.1
    have : s.data.toList.length = 0 := by simpa using h
    rw [List.length_eq_zero_iff.1 this]
  · rintro rfl; rfl
/-- The bytes of a text. -/
def bytL (s : ByteArray) : List Int := (List.range s.size).map fun i => ((byt s i : Nat) : Int)
theorem bytL_len {s : ByteArray} : (bytL s).length = s.size := by simp [bytL]
theorem take_snocD' {α : Type} {d : α} {l : List α} {i : Nat} (hi : i < l.length) : l.take (i + 1) = l.take i ++ [l.getD i d] := by
  rw [List.take_add_one, List.getElem?_eq_getElem hi, List.getD_eq_getElem?_getD, List.getElem?_eq_getElem hi]
  rfl
def valN (s : ByteArray) : Nat → Nat
  | 0 => 0
  | i + 1 => 10 * valN s i + (byt s i - 48)
theorem valN_lt {s : ByteArray} : ∀ i, (∀ j, j < i → byt s j ≤ 57) → valN s i < 10 ^ i
  | 0, _ => by simp [valN]
  | i + 1, h => by
    have h1 := valN_lt i fun j hj => h j (by omega)
    have h2 := h i (by omega)
    rw [valN, Nat.pow_succ]
    omega
theorem valN_dec {n : Nat} : ∀ i, i ≤ (decL n).length → ((valN (decT n) i : Nat) : Int) = valD ((decL n).take i)
  | 0, _ => by simp [valN, valD]
  | i + 1, h => by
    have h1 := valN_dec (n := n) i (by omega)
    have h2 := byt_nums (L := decL n) (fun x hx => by have := decL_rng (n + 1) n (by omega) x hx; omega) (i := i) (by omega)
    have h3 := decL_rng (n + 1) n (by omega) ((decL n).getD i 0) (getD_mem (l := decL n) (by omega))
    rw [take_snocD' (l := decL n) (d := (0 : Int)) (by omega), valD_snoc, ← h1, valN]
    unfold decT
    omega
section
variable {X : CallF} {h : Heap} {m : List Pr} {mv : Value}
theorem k_impl_certOf [LibX X] {r n : Nat} (hr : r ≤ 1000000000) (hp : IsParts m r n) (hs : ∀ p ∈ m, p.v.size ≤ 40) (hm : Rows h 2 mv (prsL m)) (hl : m.length ≤ lim) : C T X n_impl_certOf [mv, .int .i64 (r : Int)] h = some (.tuple ⟨[.string (catB (partsL m r n)), .int .i64 (n : Int)]⟩, h) := by
  refine C_go t_impl_certOf rfl ?_
  unfold F_impl_certOf
  simp only [go_sem]
  have hn := hp.1
  refine w_for n (fun i t loc h' => h' = h ∧ t 0 = mv ∧ t 1 = .int .i64 (r : Int) ∧ t 6 = .string (catB (partsL m r i)) ∧ t 7 = .int .i64 (i : Int) ∧ i ≤ n) ⟨rfl, rfl, rfl, rfl, rfl, Nat.zero_le _⟩ ?_
  rintro i t loc h' hi ⟨rfl, t0, t1, t6, t7, hi2⟩
  have hw : IntKind.i64.wrap ((i : Int) + 1) = ((i + 1 : Nat) : Int) := w64 (by omega) (by omega)
  have h2 := k_impl_two (X := X) (h := h') (n := r) (by omega)
  have h3 := k_impl_two (X := X) (h := h') (n := i) (by omega)
  have hz := twoT_size (n := r) (by omega)
  have hz' := twoT_size (n := i) (by omega)
  have hz1 : (⟨[114]⟩ : Array UInt8).size + (twoT r).size ≤ 9223372036854775807 := by rw [asz]; omega
  have hz2 := r3_size (r := r) (by omega)
  have hz3 : (strOfNums (114 :: twoL r)).size + (twoT i).size ≤ 9223372036854775807 := by omega
  have hg := k_impl_get (X := X) (k := rK r i) hm hl
  unfold getV at hg
  by_cases c : i = n
  · rcases hp.2.2 with e | e
    · cases e2 : (getK m (rK r i)).isSome with
      | true =>
        have c9 : (i : Int) > 99 := by omega
        simp only [t0, t1, t6, t7, h2, h3, hz1, r3_app, hz3, rK_app', hg, e2, c9, go_sem]
        rw [c]
      | false =>
        simp only [t0, t1, t6, t7, h2, h3, hz1, r3_app, hz3, rK_app', hg, e2, go_sem]
        rw [c]
    · have e2 : (getK m (rK r i)).isSome = false := by rw [c, e]; rfl
      simp only [t0, t1, t6, t7, h2, h3, hz1, r3_app, hz3, rK_app', hg, e2, go_sem]
      rw [c]
  · have e2 : (getK m (rK r i)).isSome = true := hp.2.1 i (by omega)
    have c9 : ¬ (i : Int) > 99 := by omega
    have s1 := partsL_size hs (r := r) (n := i)
    have s2 := getK_size hs (k := rK r i)
    have s3 : (catB (partsL m r i)).size + ((getK m (rK r i)).getD noT).size ≤ 9223372036854775807 := by omega
    simp only [t0, t1, t6, t7, h2, h3, hz1, r3_app, hz3, rK_app', hg, e2, c9, s3, hw, go_sem]
    refine ⟨by omega, ?_, by omega⟩
    rw [partsL_snoc, catB_snoc]
    rfl
theorem k_spec_l13Text {r : Nat} (hr : r ≤ 1000000000) (hs : ∀ p ∈ m, p.v.size ≤ 40) (hm : Rows h 2 mv (prsL m)) (hl : m.length ≤ 1048576) : C T X n_spec_l13Text [mv, .int .i64 (r : Int)] h = some (.string (textS m r), h) := by
  refine C_go t_spec_l13Text rfl ?_
  unfold F_spec_l13Text
  simp only [go_sem]
  refine w_for m.length (fun i t loc h' => h' = h ∧ t 0 = mv ∧ t 1 = .int .i64 (r : Int) ∧ t 5 = .string (catB (((m.take i).filter (isR r)).map (·.v))) ∧ t 6 = .int .i64 (i : Int)) ⟨rfl, rfl, rfl, by rw [List.take_zero]; rfl, rfl⟩ ?_
  rintro i t loc h' hi ⟨rfl, t0, t1, t5, t6⟩
  simp only [t0, t6, hm.lnm, go_sem]
  refine w_open (by simp only [go_sem]; rfl) ?_ ?_ <;> intro hc
  · have hi1 : i < m.length := by omega
    have hw : IntKind.i64.wrap ((i : Int) + 1) = ((i + 1 : Nat) : Int) := w64 (by omega) (by omega)
    have el := hm.el (f := prR) p0 hi1
    have cl0 := hm.cell (f := prR) p0 hi1 (o := 0) (by omega)
    have cl1 := hm.cell (f := prR) p0 hi1 (o := 1) (by omega)
    have tk := take_snocD' (d := p0) hi1
    have hsq := hs _ (getD_mem (d := p0) hi1)
    obtain ⟨q, hq⟩ : ∃ q, q = m.getD i p0 := ⟨_, rfl⟩
    rw [← hq] at el cl0 cl1 tk hsq
    have k0 : ldC h' (elemP mv 2 i 0) 1 = some [.string q.k] := cl0
    have k1 : ldC h' (elemP mv 2 i 1) 1 = some [.string q.v] := cl1
    have h2 := k_spec_l13Two (X := X) (h := h') (n := r) hr
    have hz := twoT_size (n := r) (by omega)
    have hz1 : (⟨[114]⟩ : Array UInt8).size + (twoT r).size ≤ 9223372036854775807 := by rw [asz]; omega
    have s1 := textS_size (l := m.take i) (fun p hp => hs p (List.mem_of_mem_take hp)) (f := isR r)
    rw [List.length_take] at s1
    have s3 : (catB (((m.take i).filter (isR r)).map (·.v))).size + q.v.size ≤ 9223372036854775807 := by omega
    have no : isR r q = false → catB (((m.take (i + 1)).filter (isR r)).map (·.v)) = catB (((m.take i).filter (isR r)).map (·.v)) := fun e => by
      rw [tk, List.filter_append, List.filter_cons_of_neg (by rw [e]; decide), List.filter_nil, List.append_nil]
    by_cases c1 : (q.k.size : Int) = 5
    · have hsl : slSV (.string q.k) none (some (.int .i64 3)) = some (.string (q.k.extract 0 3)) := sl_to (b := 3) (by omega)
      by_cases c2 : q.k.extract 0 3 = strOfNums (114 :: twoL r)
      · have c2' : ((q.k.extract 0 3).toList == (strOfNums (114 :: twoL r)).toList) = true := by rw [str_eq]; exact decide_eq_true c2
        simp only [t0, t1, t5, t6, el.1, el.2.1, k0, k1, c1, hsl, h2, hz1, r3_app, c2', s3, hw, go_sem]
        refine ⟨List.prefix_refl _, hi1, ?_⟩
        rw [tk, List.filter_append, List.filter_cons_of_pos (by unfold isR; simp [c2]; omega), List.filter_nil, List.map_append]
        exact congrArg _ catB_snoc.symm
      · have c2' : ((q.k.extract 0 3).toList == (strOfNums (114 :: twoL r)).toList) = false := by rw [str_eq]; exact decide_eq_false c2
        simp only [t0, t1, t5, t6, el.1, el.2.1, k0, k1, c1, hsl, h2, hz1, r3_app, c2', hw, go_sem]
        refine ⟨List.prefix_refl _, hi1, congrArg _ (no ?_).symm⟩
        unfold isR
        simp [c2]
    · simp only [t0, t1, t5, t6, el.1, el.2.1, k0, k1, c1, hw, go_sem]
      refine ⟨hi1, congrArg _ (no ?_).symm⟩
      unfold isR
      rw [decide_eq_false (by omega)]
      rfl
  · have hin : i = m.length := by omega
    subst hin
    rw [List.take_length] at t5
    simp only [t5, go_sem]
    rfl
theorem k_spec_l13Pool {r : Nat} (hr : r ≤ 1000000000) (hs : ∀ p ∈ m, p.v.size ≤ 40) (hm : Rows h 2 mv (prsL m)) (hl : m.length ≤ lim) : ∃ v hh, C T X n_spec_l13Pool [mv, .int .i64 (r : Int)] h = some (v, hh) ∧ h <+: hh ∧ Own hh h.length hh.length 1 y_int v (ints (bytL ((getK m (qK r)).getD noT))) := by
  refine C_ex t_spec_l13Pool rfl ?_
  unfold F_spec_l13Pool
  have h2 := k_spec_l13Two (X := X) (h := h) (n := r) hr
  have hz := twoT_size (n := r) (by omega)
  have hz1 : (⟨[113]⟩ : Array UInt8).size + (twoT r).size ≤ 9223372036854775807 := by rw [asz]; omega
  have hg := k_spec_l13Get (X := X) (k := qK r) hm hl
  unfold getV at hg
  have hsz := getK_size hs (k := qK r)
  obtain ⟨w, hw0⟩ : ∃ w, w = (getK m (qK r)).getD noT := ⟨_, rfl⟩
  rw [← hw0] at hg hsz ⊢
  simp only [h2, hz1, qK_app, hg, zeros, fillAt, go_sem]
  refine w_for w.size (fun i t loc h' => t 5 = .string w ∧ t 8 = .int .i64 i ∧ h <+: h' ∧ ∃ v, t 7 = v ∧ Own h' h.length h'.length 1 y_int v (ints ((List.range i).map fun i => ((byt w i : Nat) : Int)))) ⟨rfl, rfl, List.prefix_append _ _, _, rfl, Acc.new.own⟩ ?_
  rintro i t loc h' hi ⟨t5, t8, hp, v, t7, o⟩
  simp only [t5, t8, go_sem]
  refine w_open (by simp only [go_sem]; rfl) ?_ ?_ <;> intro hc
  · have hi1 : i < w.size := by omega
    have hw : IntKind.i64.wrap ((i : Int) + 1) = ((i + 1 : Nat) : Int) := w64 (by omega) (by omega)
    have e0 : ixV (.string w) (.int .i64 i) = some (.int .u8 (byt w i : Nat)) := ix_byt hi1
    have b0 := byt_lt (s := w) (i := i)
    have w0 : IntKind.i64.wrap ((byt w i : Nat) : Int) = ((byt w i : Nat) : Int) := w64 (by omega) (by omega)
    obtain ⟨v2, h2, c3, q1, q2, o2⟩ := o.push1 (pre_len hp) [.int .i64 ((byt w i : Nat) : Int)] rfl (by rw [ints_len]; unfold lim; simp; omega)
    rw [Nat.max_eq_right q1] at o2
    simp only [t5, t7, t8, e0, w0, zeros, fillAt, c3, hw, go_sem]
    exact ⟨hi1, pre_push hp (Nat.le_refl _) q1 q2, v2, rfl, by rw [List.map_append]; simpa [ints] using o2⟩
  · have hin : i = w.size := by omega
    subst hin
    simp only [t7, go_sem]
    refine ⟨o.live, ?_⟩
    obtain ⟨f1, f2⟩ := o.fin hp
    exact ⟨f1, f2⟩
theorem k_impl_CertParts {s0 : ByteArray} (hl0 : s0.size ≤ 1048576) : ∃ v hh, C T X n_impl_CertParts [.string s0] h = some (v, hh) ∧ h <+: hh ∧ Own hh h.length hh.length 1 y_string v (texts (cut s0)) := by
  refine C_ex t_impl_CertParts rfl ?_
  unfold F_impl_CertParts
  simp only [zeros, fillAt, go_sem]
  refine w_meas s0.size (fun n t loc h' => h <+: h' ∧ ∃ (s : ByteArray) (L : List ByteArray) (v : Value), t 0 = .string s ∧ t 3 = v ∧ s.size = n ∧ Own h' h.length h'.length 1 y_string v (texts L) ∧ L ++ cut s = cut s0 ∧ L.length + s.size ≤ s0.size) ⟨List.prefix_refl _, s0, [], _, rfl, rfl, rfl, Own.nil, rfl, by simp⟩ ?_
  rintro n t loc h' ⟨hp, s, L, v, t0, t3, hn, o, hc, hs⟩
  simp only [t0, t3, go_sem]
  refine w_open (by simp only [t0, t3, go_sem]; rfl) ?_ ?_ <;> intro hc'
  · have f1 : slSV (.string s) none (some (.int .i64 40)) = some (.string (s.extract 0 40)) := sl_to (b := 40) (by omega)
    have f2 : slSV (.string s) (some (.int .i64 40)) none = some (.string (s.extract 40 s.size)) := sl_from (a := 40) (by omega)
    obtain ⟨v2, h2, c3, q1, q2, o2⟩ := o.push1 (pre_len hp) [.string (s.extract 0 40)] rfl (by unfold texts lim; rw [List.length_map]; omega)
    rw [Nat.max_eq_right q1] at o2
    have e2 : (s.extract 40 s.size).size = s.size - 40 := by rw [ByteArray.size_extract]; omega
    simp only [t0, t3, f1, f2, zeros, fillAt, c3, go_sem]
    refine ⟨s.size - 40, by omega, pre_push hp (Nat.le_refl _) q1 q2, _, L ++ [s.extract 0 40], v2, rfl, rfl, e2, by simpa [texts, txR] using o2, ?_, by rw [e2]; simp; omega⟩
    rw [List.append_assoc, List.singleton_append, ← cut_big (by omega), hc]
  · by_cases c0 : s.size = 0
    · rw [cut_none c0, List.append_nil] at hc
      have c1 : (s.toList == ByteArray.toList ⟨⟨[]⟩⟩) = true := by rw [str_eq]; exact decide_eq_true (size_noT.1 c0)
      simp only [t0, t3, c1, go_sem]
      refine ⟨o.live, ?_⟩
      obtain ⟨f1, f2⟩ := o.fin hp
      exact ⟨f1, by rw [← hc]; exact f2⟩
    · rw [cut_small (by omega) c0] at hc
      obtain ⟨v2, h2, c3, q1, q2, o2⟩ := o.push1 (pre_len hp) [.string s] rfl (by unfold texts lim; rw [List.length_map]; omega)
      rw [Nat.max_eq_right q1] at o2
      have c1 : (s.toList == ByteArray.toList ⟨⟨[]⟩⟩) = false := by rw [str_eq]; exact decide_eq_false (fun e => c0 (size_noT.2 e))
      simp only [t0, t3, c1, zeros, fillAt, c3, go_sem]
      have o3 : Own h2 h.length h2.length 1 y_string v2 (texts (cut s0)) := by rw [← hc]; simpa [texts, txR] using o2
      refine ⟨o3.live, ?_⟩
      obtain ⟨f1, f2⟩ := o3.fin (pre_push hp (Nat.le_refl _) q1 q2)
      exact ⟨f1, f2⟩
theorem k_spec_CertParts {s0 : ByteArray} (hl0 : s0.size ≤ 1048576) : ∃ v hh, C T X n_spec_CertParts [.string s0] h = some (v, hh) ∧ h <+: hh ∧ Own hh h.length hh.length 1 y_string v (texts (cut s0)) := by
  refine C_ex t_spec_CertParts rfl ?_
  unfold F_spec_CertParts
  simp only [zeros, fillAt, go_sem]
  refine w_meas s0.size (fun n t loc h' => h <+: h' ∧ ∃ (s : ByteArray) (L : List ByteArray) (v : Value), t 0 = .string s ∧ t 3 = v ∧ s.size = n ∧ Own h' h.length h'.length 1 y_string v (texts L) ∧ L ++ cut s = cut s0 ∧ L.length + s.size ≤ s0.size) ⟨List.prefix_append _ _, s0, [], _, rfl, rfl, rfl, Acc.new.own, rfl, by simp⟩ ?_
  rintro n t loc h' ⟨hp, s, L, v, t0, t3, hn, o, hc, hs⟩
  simp only [t0, t3, go_sem]
  refine w_open (by simp only [t0, t3, go_sem]; rfl) ?_ ?_ <;> intro hc'
  · have f1 : slSV (.string s) none (some (.int .i64 40)) = some (.string (s.extract 0 40)) := sl_to (b := 40) (by omega)
    have f2 : slSV (.string s) (some (.int .i64 40)) none = some (.string (s.extract 40 s.size)) := sl_from (a := 40) (by omega)
    obtain ⟨v2, h2, c3, q1, q2, o2⟩ := o.push1 (pre_len hp) [.string (s.extract 0 40)] rfl (by unfold texts lim; rw [List.length_map]; omega)
    rw [Nat.max_eq_right q1] at o2
    have e2 : (s.extract 40 s.size).size = s.size - 40 := by rw [ByteArray.size_extract]; omega
    simp only [t0, t3, f1, f2, zeros, fillAt, c3, go_sem]
    refine ⟨s.size - 40, by omega, pre_push hp (Nat.le_refl _) q1 q2, _, L ++ [s.extract 0 40], v2, rfl, rfl, e2, by simpa [texts, txR] using o2, ?_, by rw [e2]; simp; omega⟩
    rw [List.append_assoc, List.singleton_append, ← cut_big (by omega), hc]
  · by_cases c0 : s.size = 0
    · rw [cut_none c0, List.append_nil] at hc
      have c1 : ¬ (s.size : Int) > 0 := by omega
      simp only [t0, t3, c1, go_sem]
      refine ⟨o.live, ?_⟩
      obtain ⟨f1, f2⟩ := o.fin hp
      exact ⟨f1, by rw [← hc]; exact f2⟩
    · rw [cut_small (by omega) c0] at hc
      obtain ⟨v2, h2, c3, q1, q2, o2⟩ := o.push1 (pre_len hp) [.string s] rfl (by unfold texts lim; rw [List.length_map]; omega)
      rw [Nat.max_eq_right q1] at o2
      have c1 : (s.size : Int) > 0 := by omega
      simp only [t0, t3, c1, zeros, fillAt, c3, go_sem]
      have o3 : Own h2 h.length h2.length 1 y_string v2 (texts (cut s0)) := by rw [← hc]; simpa [texts, txR] using o2
      refine ⟨o3.live, ?_⟩
      obtain ⟨f1, f2⟩ := o3.fin (pre_push hp (Nat.le_refl _) q1 q2)
      exact ⟨f1, f2⟩
theorem dec_bad {s : ByteArray} {i : Nat} (hi : i < s.size) (hb : byt s i < 48 ∨ 57 < byt s i) : rdDec s = none := by
  refine rdDec_none.2 fun n hn e => ?_
  subst e
  unfold decT at hi hb
  rw [strOfNums_size] at hi
  have h2 := byt_nums (L := decL n) (fun x hx => by have := decL_rng (n + 1) n (by omega) x hx; omega) hi
  have h3 := decL_rng (n + 1) n (by omega) ((decL n).getD i 0) (getD_mem hi)
  omega
theorem dec_val {s : ByteArray} {n : Nat} (h : rdDec s = some n) : valN s s.size = n := by
  obtain ⟨h1, h2⟩ := rdDec_some.1 h
  subst h2
  have e : (decT n).size = (decL n).length := by unfold decT; rw [strOfNums_size]
  have := valN_dec (n := n) (decL n).length (Nat.le_refl _)
  rw [List.take_length, decL_val (n + 1) n (by omega)] at this
  rw [e]
  omega
theorem k_spec_ReadDecimal {s : ByteArray} : C T X n_spec_ReadDecimal [.string s] h = some (.tuple #[.int .i64 (dcN s), .bool (dcB s)], h) := by
  have no : rdDec s = none → (Value.tuple ⟨[.int .i64 0, .bool false]⟩) = .tuple #[.int .i64 (dcN s), .bool (dcB s)] := fun e => by
    unfold dcN dcB
    rw [e]
    rfl
  refine C_go t_spec_ReadDecimal rfl ?_
  unfold F_spec_ReadDecimal
  by_cases c0 : (s.size : Int) > 10
  · simp only [c0, go_sem]
    refine no (rdDec_none.2 fun n hn e => ?_)
    subst e
    have := decT_size (n := n) (k := 10) (by omega) (by omega)
    omega
  simp only [c0, go_sem]
  refine w_for s.size (fun i t loc h' => h' = h ∧ t 0 = .string s ∧ t 4 = .int .i64 ((valN s i : Nat) : Int) ∧ t 5 = .int .i64 (i : Int) ∧ ∀ j, j < i → 48 ≤ byt s j ∧ byt s j ≤ 57) ⟨rfl, rfl, rfl, rfl, fun j hj => by omega⟩ ?_
  rintro i t loc h' hi ⟨rfl, t0, t4, t5, hj⟩
  simp only [t0, t5, go_sem]
  refine w_open (by simp only [go_sem]; rfl) ?_ ?_ <;> intro hc
  · have hi1 : i < s.size := by omega
    have hw : IntKind.i64.wrap ((i : Int) + 1) = ((i + 1 : Nat) : Int) := w64 (by omega) (by omega)
    have e0 : ixV (.string s) (.int .i64 i) = some (.int .u8 (byt s i : Nat)) := ix_byt hi1
    have b0 := byt_lt (s := s) (i := i)
    have hv := valN_lt (s := s) i fun j hj' => (hj j hj').2
    have h10 : 10 ^ i ≤ 10 ^ 10 := Nat.pow_le_pow_right (by omega) (by omega)
    by_cases c1 : ((byt s i : Nat) : Int) < 48
    · simp only [t0, t4, t5, e0, c1, go_sem]
      exact no (dec_bad hi1 (.inl (by omega)))
    by_cases c2 : ((byt s i : Nat) : Int) > 57
    · simp only [t0, t4, t5, e0, c1, c2, go_sem]
      exact no (dec_bad hi1 (.inr (by omega)))
    have w0 : IntKind.i64.wrap ((byt s i : Nat) : Int) = ((byt s i : Nat) : Int) := w64 (by omega) (by omega)
    have w1 : IntKind.i64.wrap (10 * ((valN s i : Nat) : Int)) = 10 * ((valN s i : Nat) : Int) := w64 (by omega) (by omega)
    have w2 : IntKind.i64.wrap (10 * ((valN s i : Nat) : Int) + ((byt s i : Nat) : Int)) = 10 * ((valN s i : Nat) : Int) + ((byt s i : Nat) : Int) := w64 (by omega) (by omega)
    have w3 : IntKind.i64.wrap (10 * ((valN s i : Nat) : Int) + ((byt s i : Nat) : Int) - 48) = ((valN s (i + 1) : Nat) : Int) := by rw [w64 (by omega) (by omega), valN]; omega
    simp only [t0, t4, t5, e0, c1, c2, w0, w1, w2, w3, hw, go_sem]
    refine ⟨hi1, fun j hj' => ?_⟩
    by_cases e : j = i
    · subst e; omega
    · exact hj j (by omega)
  · have hin : i = s.size := by omega
    subst hin
    have hv := valN_lt (s := s) s.size fun j hj' => (hj j hj').2
    have h10 : 10 ^ s.size ≤ 10 ^ 10 := Nat.pow_le_pow_right (by omega) (by omega)
    by_cases c1 : ((valN s s.size : Nat) : Int) > 1000000000
    · simp only [t0, t4, c1, go_sem]
      refine no ?_
      cases e : rdDec s with
      | none => rfl
      | some n => have h1 := dec_val e; have h2 := (rdDec_some.1 e).1; omega
    have hd := k_spec_Decimal (X := X) (h := h') (n := valN s s.size) (by omega)
    by_cases c2 : decT (valN s s.size) = s
    · have c2' : ((decT (valN s s.size)).toList == s.toList) = true := by rw [str_eq]; exact decide_eq_true c2
      have e : rdDec s = some (valN s s.size) := rdDec_some.2 ⟨by omega, c2.symm⟩
      simp only [t0, t4, c1, hd, c2', go_sem]
      unfold dcN dcB
      rw [e]
      rfl
    · have c2' : ((decT (valN s s.size)).toList == s.toList) = false := by rw [str_eq]; exact decide_eq_false c2
      simp only [t0, t4, c1, hd, c2', go_sem]
      refine no ?_
      cases e : rdDec s with
      | none => rfl
      | some n => have h1 := dec_val e; have h2 := (rdDec_some.1 e).2; rw [h1] at c2; exact absurd h2.symm c2
end
end Go.Proofs.YtgmljppiiighmaaGreatDoor.Ab
set_option linter.unusedSimpArgs false
set_option linter.unusedVariables false
set_option linter.unnecessarySimpa false
set_option maxHeartbeats 4000000
namespace Go.Proofs.YtgmljppiiighmaaGreatDoor.Ab
open Go.RowKit
section
variable {X : CallF} {h : Heap} {s : ByteArray} {x : Int}
theorem xor_xr {a b : Int} : xorI .u32 a b = xr a b := rfl
theorem and_1 {a : Int} (h : 0 ≤ a) : andI .u32 a 1 = a % 2 := and1 h
theorem fdiv_2 {a : Int} : a.fdiv (2 ^ min 1 32) = a / 2 := Int.fdiv_eq_ediv_of_nonneg a (by decide)
theorem wu32 {a : Int} (h0 : 0 ≤ a) (h1 : a < 4294967296) : IntKind.u32.wrap a = a := by rw [IntKind.wrap_u32]; omega
theorem k_impl_SumMore (hx : U32 x) (hs : s.size ≤ lim) : C T X n_impl_SumMore [.int .u32 x, .string s] h = some (.int .u32 (sumB s x s.size), h) := by
  unfold lim at hs
  refine C_go t_impl_SumMore rfl ?_
  unfold F_impl_SumMore
  simp only [go_sem]
  refine w_for s.size (fun i t loc h' => h' = h ∧ t 1 = .string s ∧ t 8 = .int .i64 (s.size : Nat) ∧ t 9 = .int .i64 (i : Nat) ∧ t 0 = .int .u32 (sumB s x i)) ⟨rfl, rfl, rfl, rfl, rfl⟩ ?_
  rintro i t loc h' hi ⟨rfl, t1, t8, t9, t0⟩
  simp only [t8, t9, go_sem]
  refine w_open (by simp only [go_sem]; rfl) ?_ ?_ <;> intro hc
  · have hi1 : i < s.size := by omega
    have hw : IntKind.i64.wrap ((i : Int) + 1) = ((i + 1 : Nat) : Int) := w64 (by omega) (by omega)
    have hix := ix_byt hi1
    have hbl := byt_lt (s := s) (i := i)
    have hwb : IntKind.u32.wrap (byt s i : Int) = byt s i := wu32 (by omega) (by omega)
    obtain ⟨y, hy⟩ : ∃ y, y = xr (sumB s x i) (byt s i) := ⟨_, rfl⟩
    have hyr : U32 y := by rw [hy]; exact xr_rng
    have he : sumB s x (i + 1) = bitN y 8 := by rw [hy]; rfl
    simp only [t0, t1, hix, hwb, xor_xr, ← hy, go_sem]
    refine w_for 8 (fun k u lc g => g = h' ∧ u 1 = .string s ∧ u 8 = .int .i64 (s.size : Nat) ∧ u 9 = .int .i64 (i : Nat) ∧ u 0 = .int .u32 (bitN y k) ∧ u 18 = .int .i64 (k : Nat)) ⟨rfl, rfl, rfl, rfl, rfl, rfl⟩ ?_
    rintro k u lc g hk ⟨rfl, u1, u8, u9, u0, u18⟩
    simp only [u18, go_sem]
    have hwk : k < 8 → IntKind.i64.wrap ((k : Int) + 1) = ((k + 1 : Nat) : Int) := fun _ => w64 (by omega) (by omega)
    by_cases hc' : (k : Int) < 8
    · have hr := bitN_rng hyr k
      by_cases hb : bitN y k % 2 = 1
      · have e : bitN y (k + 1) = xr (bitN y k / 2) 3558460437 := by show bitS _ = _; unfold bitS; rw [if_pos hb]
        simp only [hc', u0, u1, u8, u9, u18, and_1 hr.1, fdiv_2, hb, xor_xr, hwk (by omega), go_sem]
        exact ⟨by omega, e.symm ▸ rfl⟩
      · have e : bitN y (k + 1) = bitN y k / 2 := by show bitS _ = _; unfold bitS; rw [if_neg hb]
        simp only [hc', u0, u1, u8, u9, u18, and_1 hr.1, fdiv_2, hb, xor_xr, hwk (by omega), go_sem]
        exact ⟨by omega, e.symm ▸ rfl⟩
    · have : k = 8 := by omega
      subst this
      simp only [hc', u0, u1, u8, u9, hw, go_sem]
      exact ⟨hi1, he ▸ rfl⟩
  · have : i = s.size := by omega
    subst this
    simp only [t0, go_sem]
theorem k_spec_SumMore (hx : U32 x) (hs : s.size ≤ lim) : C T X n_spec_SumMore [.int .u32 x, .string s] h = some (.int .u32 (sumB s x s.size), h) := by
  unfold lim at hs
  refine C_go t_spec_SumMore rfl ?_
  unfold F_spec_SumMore
  simp only [go_sem]
  refine w_for s.size (fun i t loc h' => h' = h ∧ t 1 = .string s ∧ t 5 = .int .i64 (i : Nat) ∧ t 0 = .int .u32 (sumB s x i)) ⟨rfl, rfl, rfl, rfl⟩ ?_
  rintro i t loc h' hi ⟨rfl, t1, t5, t0⟩
  simp only [t1, t5, go_sem]
  refine w_open (by simp only [go_sem]; rfl) ?_ ?_ <;> intro hc
  · have hi1 : i < s.size := by omega
    have hw : IntKind.i64.wrap ((i : Int) + 1) = ((i + 1 : Nat) : Int) := w64 (by omega) (by omega)
    have hix := ix_byt hi1
    have hbl := byt_lt (s := s) (i := i)
    have hwb : IntKind.u32.wrap (byt s i : Int) = byt s i := wu32 (by omega) (by omega)
    obtain ⟨y, hy⟩ : ∃ y, y = xr (sumB s x i) (byt s i) := ⟨_, rfl⟩
    have hyr : U32 y := by rw [hy]; exact xr_rng
    have he : sumB s x (i + 1) = bitN y 8 := by rw [hy]; rfl
    simp only [t0, t1, t5, hix, hwb, xor_xr, ← hy, go_sem]
    refine w_for 8 (fun k u lc g => g = h' ∧ u 1 = .string s ∧ u 5 = .int .i64 (i : Nat) ∧ u 0 = .int .u32 (bitN y k) ∧ u 6 = .int .i64 (k : Nat)) ⟨rfl, rfl, rfl, rfl, rfl⟩ ?_
    rintro k u lc g hk ⟨rfl, u1, u5, u0, u6⟩
    simp only [u6, go_sem]
    have hwk : k < 8 → IntKind.i64.wrap ((k : Int) + 1) = ((k + 1 : Nat) : Int) := fun _ => w64 (by omega) (by omega)
    have hr := bitN_rng hyr k
    have hr' := hr
    unfold U32 at hr'
    have hm : (bitN y k).tmod 2 = bitN y k % 2 := Int.tmod_eq_emod_of_nonneg hr'.1
    have hd : (bitN y k).tdiv 2 = bitN y k / 2 := Int.tdiv_eq_ediv_of_nonneg hr'.1
    have hwd : IntKind.u32.wrap (bitN y k / 2) = bitN y k / 2 := wu32 (by omega) (by omega)
    by_cases hc' : (k : Int) < 8
    · by_cases hb : bitN y k % 2 = 1
      · have e : bitN y (k + 1) = xr (bitN y k / 2) 3558460437 := by show bitS _ = _; unfold bitS; rw [if_pos hb]
        simp only [hc', u0, u1, u5, u6, hm, hd, hwd, hb, xor_xr, hwk (by omega), go_sem]
        exact ⟨by omega, e.symm ▸ rfl⟩
      · have e : bitN y (k + 1) = bitN y k / 2 := by show bitS _ = _; unfold bitS; rw [if_neg hb]
        simp only [hc', u0, u1, u5, u6, hm, hd, hwd, hb, xor_xr, hwk (by omega), go_sem]
        exact ⟨by omega, e.symm ▸ rfl⟩
    · have : k = 8 := by omega
      subst this
      simp only [hc', u0, u1, u5, u6, hw, go_sem]
      exact ⟨hi1, he ▸ rfl⟩
  · have : i = s.size := by omega
    subst this
    simp only [t0, go_sem]
theorem k_impl_SumOf (hs : s.size ≤ lim) : C T X n_impl_SumOf [.string s] h = some (.int .u32 (sumOf s), h) := by
  have c := k_impl_SumMore (X := X) (h := h) (x := 4294967295) (s := s) ⟨by omega, by omega⟩ hs
  refine C_go t_impl_SumOf rfl ?_
  unfold F_impl_SumOf
  simp only [c, List.prefix_refl, go_sem]
  rfl
theorem k_spec_SumOf (hs : s.size ≤ lim) : C T X n_spec_SumOf [.string s] h = some (.int .u32 (sumOf s), h) := by
  have c := k_spec_SumMore (X := X) (h := h) (x := 4294967295) (s := s) ⟨by omega, by omega⟩ hs
  refine C_go t_spec_SumOf rfl ?_
  unfold F_spec_SumOf
  simp only [c, List.prefix_refl, go_sem]
  rfl
theorem sh24 {a : Int} (h : U32 a) : a.fdiv (2 ^ min 24 32) % 256 = a / 16777216 := by
  have e : a.fdiv (2 ^ min 24 32) = a / 16777216 := Int.fdiv_eq_ediv_of_nonneg a (by decide)
  unfold U32 at h
  rw [e]
  omega
theorem sh16 {a : Int} : a.fdiv (2 ^ min 16 32) % 256 = a / 65536 % 256 := by
  have e : a.fdiv (2 ^ min 16 32) = a / 65536 := Int.fdiv_eq_ediv_of_nonneg a (by decide)
  rw [e]
theorem sh8 {a : Int} : a.fdiv (2 ^ min 8 32) % 256 = a / 256 % 256 := by
  have e : a.fdiv (2 ^ min 8 32) = a / 256 := Int.fdiv_eq_ediv_of_nonneg a (by decide)
  rw [e]
theorem sh0 {a : Int} : IntKind.u8.wrap a = a % 256 := IntKind.wrap_u8 ..
theorem str4 {a b c d : Int} : strLV 4 (some [.int .u8 a, .int .u8 b, .int .u8 c, .int .u8 d]) = some (.string (strOfNums [a, b, c, d])) := rfl
theorem k_spec_l02Four (hx : U32 x) : C T X n_spec_l02Four [.int .u32 x] h = some (.string (strOfNums (fourL x)), h) := by
  refine C_go t_spec_l02Four rfl ?_
  unfold F_spec_l02Four
  simp only [sh24 hx, sh16, sh8, sh0, str4, go_sem]
  rfl
def sealV (s : ByteArray) : Value := if s.size ≤ 8000 then .tuple ⟨[.string (sealT s), .bool true]⟩ else .tuple ⟨[.string noT, .bool false]⟩
theorem k_impl_Sealed (hs : s.size ≤ lim) : C T X n_impl_Sealed [.string s] h = some (sealV s, h) := by
  have c := k_impl_SumOf (X := X) (h := h) hs
  have hr := sumOf_rng (s := s)
  unfold lim at hs
  refine C_go t_impl_Sealed rfl ?_
  unfold F_impl_Sealed sealV
  by_cases hc : s.size ≤ 8000
  · have hc' : ¬ (s.size : Int) > 8000 := by omega
    have hz : s.size + (strOfNums (fourL (sumOf s))).size ≤ 9223372036854775807 := by rw [four_size]; omega
    rw [if_pos hc]
    unfold fourL at hz
    simp only [hc', c, sh24 hr, sh16, sh8, sh0, str4, hz, List.prefix_refl, go_sem]
    try rfl
  · have hc' : (s.size : Int) > 8000 := by omega
    rw [if_neg hc]
    simp only [hc', go_sem]
    try rfl
theorem k_spec_Sealed (hs : s.size ≤ lim) : C T X n_spec_Sealed [.string s] h = some (sealV s, h) := by
  have c := k_spec_SumOf (X := X) (h := h) hs
  have c2 := k_spec_l02Four (X := X) (h := h) (sumOf_rng (s := s))
  unfold lim at hs
  refine C_go t_spec_Sealed rfl ?_
  unfold F_spec_Sealed sealV
  by_cases hc : s.size ≤ 8000
  · have hc' : ¬ (s.size : Int) > 8000 := by omega
    have hz : s.size + (strOfNums (fourL (sumOf s))).size ≤ 9223372036854775807 := by rw [four_size]; omega
    rw [if_pos hc]
    simp only [hc', c, c2, hz, List.prefix_refl, go_sem]
    try rfl
  · have hc' : (s.size : Int) > 8000 := by omega
    rw [if_neg hc]
    simp only [hc', go_sem]
    try rfl
def unV' (t : ByteArray) : Value := .tuple ⟨[.string ((unS t).getD noT), .bool (unS t).isSome]⟩
theorem k_impl_Unsealed (hs : s.size ≤ lim) : C T X n_impl_Unsealed [.string s] h = some (unV' s, h) := by
  have hs' := hs
  unfold lim at hs'
  refine C_go t_impl_Unsealed rfl ?_
  unfold F_impl_Unsealed unV'
  by_cases h4 : (s.size : Int) < 4
  · have e : unS s = none := by unfold unS; rw [if_neg (by omega)]
    rw [e]
    simp only [h4, go_sem]
    rfl
  · have hw : IntKind.i64.wrap ((s.size : Int) - 4) = ((s.size - 4 : Nat) : Int) := by rw [w64 (by omega) (by omega)]; omega
    obtain ⟨b, hb⟩ : ∃ b, b = s.extract 0 (s.size - 4) := ⟨_, rfl⟩
    have hbs : b.size = s.size - 4 := by rw [hb, ByteArray.size_extract]; omega
    have hsl : slSV (.string s) none (some (.int .i64 ((s.size - 4 : Nat) : Int))) = some (.string b) := by rw [hb]; exact sl_to (b := s.size - 4) (by omega)
    have c := k_impl_Sealed (X := X) (h := h) (s := b) (by unfold lim; omega)
    unfold sealV at c
    by_cases h8 : s.size ≤ 8004
    · rw [if_pos (by omega)] at c
      by_cases he : sealT b = s
      · have e : unS s = some b := by unfold unS; rw [if_pos ⟨by omega, h8, by rw [← hb]; exact he⟩, hb]
        rw [e]
        simp only [h4, hw, hsl, c, str_eq, he, List.prefix_refl, go_sem]
        rfl
      · have e : unS s = none := by unfold unS; rw [if_neg (by rintro ⟨_, _, q⟩; rw [← hb] at q; exact he q)]
        rw [e]
        simp only [h4, hw, hsl, c, str_eq, he, List.prefix_refl, go_sem]
        rfl
    · rw [if_neg (by omega)] at c
      have e : unS s = none := by unfold unS; rw [if_neg (by omega)]
      rw [e]
      simp only [h4, hw, hsl, c, List.prefix_refl, go_sem]
      rfl
theorem k_spec_Unsealed (hs : s.size ≤ lim) : C T X n_spec_Unsealed [.string s] h = some (unV' s, h) := by
  have hs' := hs
  unfold lim at hs'
  refine C_go t_spec_Unsealed rfl ?_
  unfold F_spec_Unsealed unV'
  have hw0 : IntKind.i64.wrap ((s.size : Int) - 4) = (s.size : Int) - 4 := w64 (by omega) (by omega)
  by_cases h4 : (s.size : Int) - 4 < 0
  · have e : unS s = none := by unfold unS; rw [if_neg (by omega)]
    rw [e]
    simp only [hw0, h4, go_sem]
    rfl
  by_cases h8 : (s.size : Int) - 4 > 8000
  · have e : unS s = none := by unfold unS; rw [if_neg (by omega)]
    rw [e]
    simp only [hw0, h4, h8, go_sem]
    rfl
  have hw : (s.size : Int) - 4 = ((s.size - 4 : Nat) : Int) := by omega
  rw [hw] at hw0 h4 h8
  obtain ⟨b, hb⟩ : ∃ b, b = s.extract 0 (s.size - 4) := ⟨_, rfl⟩
  have hbs : b.size = s.size - 4 := by rw [hb, ByteArray.size_extract]; omega
  have hsl : slSV (.string s) none (some (.int .i64 ((s.size - 4 : Nat) : Int))) = some (.string b) := by rw [hb]; exact sl_to (b := s.size - 4) (by omega)
  have hsr : slSV (.string s) (some (.int .i64 ((s.size - 4 : Nat) : Int))) none = some (.string (s.extract (s.size - 4) s.size)) := sl_from (a := s.size - 4) (by omega)
  have c := k_spec_SumOf (X := X) (h := h) (s := b) (by unfold lim; omega)
  have c2 := k_spec_l02Four (X := X) (h := h) (sumOf_rng (s := b))
  have ht := unS_tail (t := s) (by omega)
  rw [← hb] at ht
  by_cases he : s.extract (s.size - 4) s.size = strOfNums (fourL (sumOf b))
  · have e : unS s = some b := by unfold unS; rw [if_pos ⟨by omega, by omega, by rw [← hb]; exact ht.1 he⟩, hb]
    rw [e]
    simp only [hw, hw0, h4, h8, hsl, hsr, c, c2, str_eq, he, List.prefix_refl, go_sem]
    rfl
  · have e : unS s = none := by unfold unS; rw [if_neg (by rintro ⟨_, _, q⟩; rw [← hb] at q; exact he (ht.2 q))]
    rw [e]
    simp only [hw, hw0, h4, h8, hsl, hsr, c, c2, str_eq, he, List.prefix_refl, go_sem]
    rfl
end
end Go.Proofs.YtgmljppiiighmaaGreatDoor.Ab
set_option linter.unusedSimpArgs false
set_option linter.unusedVariables false
set_option linter.unnecessarySimpa false
set_option maxHeartbeats 4000000
namespace Go.Proofs.YtgmljppiiighmaaGreatDoor.Ab
open Go.RowKit
section
variable {h h' : Heap} {lo hi lo2 hi2 : Nat} {ty : TypeId} {v w : Value} {gs : List Gp} {l : List Int} {z : Int}
theorem OwnG.norm (o : OwnG h lo hi ty v gs) : ∃ vs : List Value, vs.length = gs.length ∧ OwnGs h lo hi ty v gs vs := by
  obtain ⟨vs, h1, h2, h3, h4⟩ := o
  have e : ∀ i, i < gs.length → ((List.range gs.length).map fun j => vs.getD j nilV).getD i nilV = vs.getD i nilV := fun i hi => by simp [hi]
  refine ⟨(List.range gs.length).map fun j => vs.getD j nilV, by simp, ?_, fun i hi => by rw [e i hi]; exact h2 i hi, fun i hi => by rw [e i hi]; exact h3 i hi, fun i j hij hj => by rw [e i (by omega), e j hj]; exact h4 i j hij hj⟩
  have : gRows ((List.range gs.length).map fun j => vs.getD j nilV) gs = gRows vs gs := by
    unfold gRows
    apply List.map_congr_left
    intro i hi
    have hi' : i < gs.length := by simpa using hi
    unfold gRow
    rw [e i hi']
  rw [this]
  exact h1
theorem gRows_push {vs : List Value} (hv : vs.length = gs.length) : gRows (vs ++ [w]) (gs ++ [⟨l, z⟩]) = gRows vs gs ++ [[w, .int .i64 z]] := by
  unfold gRows
  rw [List.length_append, List.length_singleton, List.range_succ, List.map_append]
  congr 1
  · apply List.map_congr_left
    intro i hi
    have hi' : i < gs.length := by simpa using hi
    unfold gRow
    have e1 : (vs ++ [w]).getD i nilV = vs.getD i nilV := by simp [List.getElem?_append_left (show i < vs.length by omega)]
    have e2 : (gs ++ [(⟨l, z⟩ : Gp)]).getD i g0 = gs.getD i g0 := by simp [List.getElem?_append_left hi']
    rw [e1, e2]
  · unfold gRow
    have e1 : (vs ++ [w]).getD gs.length nilV = w := by rw [← hv]; simp
    have e2 : (gs ++ [(⟨l, z⟩ : Gp)]).getD gs.length g0 = ⟨l, z⟩ := by simp
    simp only [List.map_cons, List.map_nil]
    rw [e1, e2]
theorem OwnG.push (o : OwnG h lo hi ty v gs) (hlo : lo ≤ h.length) (hhi : hi ≤ h.length) (q : Own h lo2 hi2 1 y_int w (ints l)) (hll : lo ≤ lo2) (hd : hi ≤ lo2) (hd2 : hi2 ≤ h.length) (hl : gs.length < lim) :
    ∃ v' h', appLW h 2 ty 1 v (some [w, .int .i64 z]) = some (v', h') ∧ h.length ≤ h'.length ∧ (∀ b, b < lo → h'[b]? = h[b]?) ∧ OwnG h' lo h'.length ty v' (gs ++ [⟨l, z⟩]) := by
  obtain ⟨vs, hvl, h2, h3, h4, h5⟩ := o.norm
  have hwsepv : Sep v w := h2.sep q (.inl hd)
  have hws : ∀ i, i < gs.length → Sep (vs.getD i nilV) w := fun i hi => (h3 i hi).sep q (.inl hd)
  obtain ⟨v', h', e, g, b, c, o'⟩ := push_is h2 hlo [[w, .int .i64 z]] (fun r hr => by rw [List.mem_singleton.1 hr]; rfl) (by simp) (by simp; omega)
  simp only [List.flatten_cons, List.flatten_nil, List.append_nil, List.length_cons, List.length_nil, Nat.zero_add] at e
  have same : ∀ {x : Value} {rr : List (List Value)} {p r : Nat}, Own h p r 1 y_int x rr → r ≤ h.length → Sep v x → Own h' p r 1 y_int x rr := by
    intro x rr p r ox hr hs
    refine ⟨ox.len, ?_⟩
    rcases ox.is with hn | ⟨c, l1, l2, rfl, hc⟩
    · exact .inl hn
    · exact .inr ⟨c, l1, l2, rfl, by rw [b c (by omega) (by simp only [Sep, tlo, thi] at hs ⊢; omega)]; exact hc⟩
  have hv'sep : ∀ {x : Value}, Sep v x → (x = nilV ∨ thi x ≤ h.length) → Sep v' x := by
    intro x hs hx
    rcases c with ⟨rfl, c1, c2, c3⟩ | ⟨_, _, c2, c3⟩
    · rcases hx with rfl | hx
      · exact sep_nil
      · exact .inr (by omega)
    · unfold Sep at hs ⊢; omega
  have hwin : w = nilV ∨ thi w ≤ h.length := by
    rcases q.within with h | ⟨_, h, _⟩
    · exact .inl h
    · exact .inr (by omega)
  have hlv : lo ≤ tlo v' := by
    rcases c with ⟨_, c1, _⟩ | ⟨hv, _, c2, _⟩
    · omega
    · rcases h2.within with k | k
      · exact absurd k hv
      · omega
  have hnz : thi v' ≤ h'.length ∧ tlo v' < thi v' := by
    rcases c with ⟨_, c1, c2, c3⟩ | ⟨hv, c1, c2, c3⟩
    · omega
    · rcases h2.within with k | k
      · exact absurd k hv
      · omega
  refine ⟨v', h', e, g, fun x hx => b x (by omega) ?_, vs ++ [w], ?_, fun i hi' => ?_, fun i hi' => ?_, fun i j hij hj => ?_⟩
  · rcases h2.within with rfl | ⟨k1, k2, _⟩
    · exact .inr (Nat.zero_le _)
    · exact .inl (by omega)
  · rw [gRows_push hvl]
    exact o'.wide (by omega) hnz.1
  · by_cases hil : i < gs.length
    · have e1 : (vs ++ [w]).getD i nilV = vs.getD i nilV := by simp [List.getElem?_append_left (show i < vs.length by omega)]
      have e2 : (gs ++ [(⟨l, z⟩ : Gp)]).getD i g0 = gs.getD i g0 := by simp [List.getElem?_append_left hil]
      rw [e1, e2]
      exact (same (h3 i hil) hhi (h4 i hil)).wide (Nat.le_refl _) (by omega)
    · have hil : i = gs.length := by simp at hi'; omega
      subst hil
      have e1 : (vs ++ [w]).getD gs.length nilV = w := by rw [← hvl]; simp
      have e2 : (gs ++ [(⟨l, z⟩ : Gp)]).getD gs.length g0 = ⟨l, z⟩ := by simp
      rw [e1, e2]
      exact (same q hd2 hwsepv).wide hll (by omega)
  · by_cases hil : i < gs.length
    · have e1 : (vs ++ [w]).getD i nilV = vs.getD i nilV := by simp [List.getElem?_append_left (show i < vs.length by omega)]
      rw [e1]
      refine hv'sep (h4 i hil) ?_
      rcases (h3 i hil).within with h | ⟨_, h, _⟩
      · exact .inl h
      · exact .inr (by omega)
    · have hil : i = gs.length := by simp at hi'; omega
      subst hil
      have e1 : (vs ++ [w]).getD gs.length nilV = w := by rw [← hvl]; simp
      rw [e1]
      exact hv'sep hwsepv hwin
  · have hil : i < gs.length := by simp at hj; omega
    have e1 : (vs ++ [w]).getD i nilV = vs.getD i nilV := by simp [List.getElem?_append_left (show i < vs.length by omega)]
    rw [e1]
    by_cases hjl : j < gs.length
    · have e2 : (vs ++ [w]).getD j nilV = vs.getD j nilV := by simp [List.getElem?_append_left (show j < vs.length by omega)]
      rw [e2]
      exact h5 i j hij hjl
    · have hjl : j = gs.length := by simp at hj; omega
      subst hjl
      have e2 : (vs ++ [w]).getD gs.length nilV = w := by rw [← hvl]; simp
      rw [e2]
      exact hws i hil
theorem OwnG.nil : OwnG h lo hi ty nilV [] := ⟨[], Own.nil, fun i hi => (by simp at hi), fun i hi => (by simp at hi), fun i j _ hi => (by simp at hi)⟩
theorem OwnG.cells' (o : OwnG h lo hi ty v gs) : cellsOf v = some [v] := by obtain ⟨vs, o, _⟩ := o; exact o.cells
end
end Go.Proofs.YtgmljppiiighmaaGreatDoor.Ab
set_option linter.unusedSimpArgs false
set_option linter.unusedVariables false
set_option linter.unnecessarySimpa false
set_option maxHeartbeats 4000000
namespace Go.Proofs.YtgmljppiiighmaaGreatDoor.Ab
open Go.RowKit
/-- A loop that is left in one state, wherever it is left. -/
def ExJ (id : Nat) (J : (Nat → Value) → (Nat → Option (List Value)) → Heap → Prop) (e : Exit) (s : St) : Prop := e = .exit id ∧ s.al = (fun _ => none) ∧ J s.t s.loc s.h
section
variable {T : FuncId → Option Fun} {X : CallF} {t : Nat → Value} {loc : Nat → Option (List Value)} {h : Heap} {Q : Exit → St → Prop}
theorem w_measX {x : IR} (id : Nat) (N : Nat) (I : Nat → (Nat → Value) → (Nat → Option (List Value)) → Heap → Prop) (J : (Nat → Value) → (Nat → Option (List Value)) → Heap → Prop) (h1 : I N t loc h)
    (step : ∀ (n : Nat) (t : Nat → Value) (loc : Nat → Option (List Value)) (h : Heap), I n t loc h → W T X x ⟨t, loc, fun _ => none, h⟩ (Mx n I (ExJ id J)))
    (rest : ∀ (t : Nat → Value) (loc : Nat → Option (List Value)) (h : Heap), J t loc h → Q (.exit id) ⟨t, loc, fun _ => none, h⟩) : W T X (.loop x) ⟨t, loc, fun _ => none, h⟩ Q := by
  refine (w_meas N I h1 step).mono T X ?_
  rintro e ⟨t, loc, al, h⟩ ⟨rfl, rfl, hj⟩
  exact rest t loc h hj
theorem exj_exit {id : Nat} {J : (Nat → Value) → (Nat → Option (List Value)) → Heap → Prop} : ExJ id J (.exit id) ⟨t, loc, fun _ => none, h⟩ ↔ J t loc h := ⟨fun h => h.2.2, fun h => ⟨rfl, rfl, h⟩⟩
end
attribute [go_sem ↓] exj_exit
/-- Since a memory only the reader was moved, and what stands above it. -/
structure Rdr (b : Nat) (ty : TypeId) (s : ByteArray) (h0 h' : Heap) (p : Nat × Bool) : Prop where
  len : h0.length ≤ h'.length
  old : ∀ c, c < h0.length → c ≠ b → h'[c]? = h0[c]?
  at_ : h'[b]? = some (rdB ty s p)
  le : p.1 ≤ s.size
section
variable {b lo hi sz : Nat} {ty ty' : TypeId} {s : ByteArray} {h0 h1 h2 h' : Heap} {p q : Nat × Bool} {v : Value} {rws : List (List Value)} {gs : List Gp}
theorem Rdr.refl (hb : h0[b]? = some (rdB ty s p)) (hp : p.1 ≤ s.size) : Rdr b ty s h0 h0 p := ⟨Nat.le_refl _, fun _ _ _ => rfl, hb, hp⟩
theorem Rdr.trans (a : Rdr b ty s h0 h1 p) (c : Rdr b ty s h1 h2 q) : Rdr b ty s h0 h2 q :=
  ⟨Nat.le_trans a.len c.len, fun i hi hb => by rw [c.old i (by have := a.len; omega) hb, a.old i hi hb], c.at_, c.le⟩
theorem Rdr.num (a : Rdr b ty s h0 h' p) : Rdr b ty s h0 (h'.set b (rdB ty s (numStep s p).2)) (numStep s p).2 :=
  ⟨by rw [set_len]; exact a.len, fun i hi hb => by rw [List.getElem?_set_ne (Ne.symm hb)]; exact a.old i hi hb, rd_set a.at_, numStep_le a.le⟩
theorem Rdr.push (a : Rdr b ty s h0 h' p) (hb : b < h0.length) (hl : h'.length ≤ h1.length) (hk : ∀ c, c < h0.length → h1[c]? = h'[c]?) : Rdr b ty s h0 h1 p :=
  ⟨Nat.le_trans a.len hl, fun i hi hne => by rw [hk i hi]; exact a.old i hi hne, by rw [hk b hb]; exact a.at_, a.le⟩
theorem num_same {x : Blk} : Same b (b + 1) h' (h'.set b x) := ⟨set_len, fun c hc => List.getElem?_set_ne (by omega)⟩
theorem Own.num (o : Own h' lo hi sz ty' v rws) (hb : b < lo) {x : Blk} : Own (h'.set b x) lo hi sz ty' v rws := o.same num_same (.inr (by omega))
theorem OwnG.num (o : OwnG h' lo hi ty' v gs) (hb : b < lo) {x : Blk} : OwnG (h'.set b x) lo hi ty' v gs := o.same num_same (.inr (by omega))
theorem Own.rdr (o : Own h0 lo hi sz ty' v rws) (a : Rdr b ty s h0 h' p) (hb : b < lo) (hh : hi ≤ h0.length) : Own h' lo hi sz ty' v rws := by
  refine ⟨o.len, ?_⟩
  rcases o.is with hn | ⟨c, l1, l2, rfl, hc⟩
  · exact .inl hn
  · exact .inr ⟨c, l1, l2, rfl, by rw [a.old c (by omega) (by omega)]; exact hc⟩
theorem OwnG.rdr (o : OwnG h0 lo hi ty' v gs) (a : Rdr b ty s h0 h' p) (hb : b < lo) (hh : hi ≤ h0.length) : OwnG h' lo hi ty' v gs := by
  obtain ⟨vs, h1, h2, h3, h4⟩ := o
  exact ⟨vs, h1.rdr a hb hh, fun i hi' => (h2 i hi').rdr a hb hh, h3, h4⟩
theorem Rdr.num1 (a : Rdr b ty s h0 h' p) (i : Nat) : (h'.set b (rdB ty s (sS s p i))).set b (rdB ty s (sS s p (i + 1))) = h'.set b (rdB ty s (sS s p (i + 1))) := List.set_set ..
theorem Rdr.nums (a : Rdr b ty s h0 h' p) : ∀ i, Rdr b ty s h0 (h'.set b (rdB ty s (sS s p i))) (sS s p i)
  | 0 => ⟨by rw [set_len]; exact a.len, fun i hi hb => by rw [List.getElem?_set_ne (Ne.symm hb)]; exact a.old i hi hb, rd_set a.at_, a.le⟩
  | i + 1 => by
    have := (a.nums i).num
    rw [show (numStep s (sS s p i)).2 = sS s p (i + 1) from rfl, a.num1] at this
    exact this
end
section
variable {X : CallF} {b : Nat} {s : ByteArray} {h0 h' : Heap} {p : Nat × Bool}
theorem num_i (a : Rdr b y_reader s h0 h' p) (hs : s.size ≤ lim) : C T X n_impl_reader_num [pk b 0] h' = some (.int .i64 (sV s p 0), h'.set b (rdB y_reader s (sS s p 1))) := k_impl_num a.at_ hs a.le
theorem num_in (a : Rdr b y_reader s h0 h' p) (hs : s.size ≤ lim) (i : Nat) : C T X n_impl_reader_num [pk b 0] (h'.set b (rdB y_reader s (sS s p i))) = some (.int .i64 (sV s p i), h'.set b (rdB y_reader s (sS s p (i + 1)))) := by
  have := k_impl_num (X := X) (a.nums i).at_ hs (a.nums i).le
  rw [show (numStep s (sS s p i)).2 = sS s p (i + 1) from rfl, a.num1] at this
  exact this
theorem num_s (a : Rdr b y_l12Cur s h0 h' p) (hs : s.size ≤ lim) : C T X n_spec_l12Var [pk b 0] h' = some (.int .i64 (sV s p 0), h'.set b (rdB y_l12Cur s (sS s p 1))) := k_spec_l12Var a.at_ hs a.le
theorem num_sn (a : Rdr b y_l12Cur s h0 h' p) (hs : s.size ≤ lim) (i : Nat) : C T X n_spec_l12Var [pk b 0] (h'.set b (rdB y_l12Cur s (sS s p i))) = some (.int .i64 (sV s p i), h'.set b (rdB y_l12Cur s (sS s p (i + 1)))) := by
  have := k_spec_l12Var (X := X) (a.nums i).at_ hs (a.nums i).le
  rw [show (numStep s (sS s p i)).2 = sS s p (i + 1) from rfl, a.num1] at this
  exact this
theorem num_rng {q : Nat × Bool} (hq : q.1 ≤ s.size) : 0 ≤ (numStep s q).1 ∧ (numStep s q).1 ≤ 1000000000 := by
  unfold numStep
  split
  · simp
  · split
    · rename_i n k hr
      have := rvAt_bnd hr
      simp only
      omega
    · simp
end
section
variable {h hh : Heap} {sz : Nat} {ty : TypeId} {v : Value} {gs : List Gp}
theorem OwnG.flatG {lo hi : Nat} (o : OwnG h lo hi ty v gs) (hf : prim v = true) {h2 : Heap} {lo2 hi2 : Nat} : OwnG h2 lo2 hi2 ty v gs := by
  obtain ⟨vs, o1, _⟩ := o
  rcases o1.is with ⟨rfl, e⟩ | ⟨b, _, _, rfl, _⟩
  · have : gs = [] := by simpa using e
    rw [this]
    exact OwnG.nil
  · simp [prim] at hf
theorem Own.flatP {lo hi : Nat} {rws : List (List Value)} (o : Own h lo hi sz ty v rws) (hf : prim v = true) {h2 : Heap} {lo2 hi2 : Nat} : Own h2 lo2 hi2 sz ty v rws := by
  rcases o.is with ⟨rfl, rfl⟩ | ⟨b, _, _, rfl, _⟩
  · exact Own.nil
  · simp [prim] at hf
end
end Go.Proofs.YtgmljppiiighmaaGreatDoor.Ab
set_option linter.unusedSimpArgs false
set_option linter.unusedVariables false
set_option linter.unnecessarySimpa false
set_option maxHeartbeats 4000000
namespace Go.Proofs.YtgmljppiiighmaaGreatDoor.Ab
open Go.RowKit
section
variable {X : CallF} {h : Heap} {b : Nat} {s : ByteArray} {p : Nat × Bool}
theorem fin_rdr {h2 : Heap} {ty : TypeId} {q : Nat × Bool} {v z : Value} {rws : List (List Value)} (hb : b < h.length) (a : Rdr b ty s h h2 q) (o : Own h2 h.length h2.length 1 y_int v rws) : ∃ hh, finish h (.agg ⟨[v, z]⟩, h2) = (.agg ⟨[v, z]⟩, hh) ∧ Rdr b ty s h hh q ∧ Own hh h.length hh.length 1 y_int v rws := by
  unfold finish
  split
  · rename_i hc
    refine ⟨h, rfl, ⟨Nat.le_refl _, fun _ _ _ => rfl, ?_, a.le⟩, ?_⟩
    · rw [← get_of_pre hc.2 hb]
      exact a.at_
    · have hf := hc.1
      rcases o.is with ⟨rfl, rfl⟩ | ⟨c, _, _, rfl, _⟩
      · exact Own.nil
      · simp [flat, prim] at hf
  · exact ⟨h2, rfl, a, o⟩
theorem k_impl_group (hb : h[b]? = some (rdB y_reader s p)) (hs : s.size ≤ lim) (hp : p.1 ≤ s.size) :
    ∃ v hh, C T X n_impl_reader_group [pk b 0] h = some (.agg ⟨[v, .int .i64 (gStep Int.toNat s p).1.z]⟩, hh) ∧ Rdr b y_reader s h hh (gStep Int.toNat s p).2 ∧ Own hh h.length hh.length 1 y_int v (ints (gStep Int.toNat s p).1.ms) := by
  suffices hx : ∃ w hh, C T X n_impl_reader_group [pk b 0] h = some (w, hh) ∧ ∃ v, w = .agg ⟨[v, .int .i64 (gStep Int.toNat s p).1.z]⟩ ∧ Rdr b y_reader s h hh (gStep Int.toNat s p).2 ∧ Own hh h.length hh.length 1 y_int v (ints (gStep Int.toNat s p).1.ms) by
    obtain ⟨w, hh, c, v, rfl, r⟩ := hx
    exact ⟨v, hh, c, r⟩
  refine C_ex t_impl_reader_group rfl ?_
  have hbl := lt_of_get hb
  have hr0 := Rdr.refl hb hp
  have c0 := num_i (X := X) hr0 hs
  have hr1 := hr0.nums 1
  obtain ⟨h1, hh1⟩ : ∃ h1, h1 = h.set b (rdB y_reader s (sS s p 1)) := ⟨_, rfl⟩
  rw [← hh1] at c0 hr1
  have hl1 : h1.length = h.length := by rw [hh1, set_len]
  unfold F_impl_reader_group
  simp only [c0, go_sem]
  have hrg := num_rng hp
  obtain ⟨N, hN⟩ : ∃ N : Nat, (numStep s p).1 = N := ⟨(numStep s p).1.toNat, by omega⟩
  have hN9 : N ≤ 1000000000 := by omega
  have hv0 : sV s p 0 = N := hN
  rw [hv0]
  have hq1 : sS s p 1 = (numStep s p).2 := rfl
  refine w_meas N (fun m t loc h' => m ≤ N ∧ t 0 = pk b 0 ∧ loc 2 = some [nilV, .int .i64 0] ∧ ∃ L q v, t 4 = .int .i64 (m : Nat) ∧ loc 3 = some [v, .int .i64 0] ∧ Rdr b y_reader s h h' q ∧ Own h' h.length h'.length 1 y_int v (ints L) ∧ RdTo (numStep s) N (numStep s p).2 L m q)
    ⟨Nat.le_refl _, rfl, rfl, [], _, _, rfl, rfl, hr1, Own.nil, RdTo.start⟩ ?_
  rintro k t loc h' ⟨hkN, t0, l2, L, q, v, t4, l3, hr, o, hto⟩
  have hpk : ∀ j, faV h' (pk b 0) j = some (pk b j) := fun j => rd_fa hr.at_
  by_cases hk : (k : Int) > 0
  · cases hq : q.2 with
    | false =>
      have cn := num_i (X := X) hr hs
      have hrn := hr.nums 1
      have o1 : Own (h'.set b (rdB y_reader s (sS s q 1))) h.length h'.length 1 y_int v (ints L) := o.num hbl
      obtain ⟨h2, hh2⟩ : ∃ h2, h2 = h'.set b (rdB y_reader s (sS s q 1)) := ⟨_, rfl⟩
      rw [← hh2] at cn hrn o1
      have hl2 : h2.length = h'.length := by rw [hh2, set_len]
      have hLN := hto.len
      rw [← hl2] at o1
      obtain ⟨v3, h3, c3, q1, q2, o3⟩ := o1.push1 hrn.len [.int .i64 (sV s q 0)] rfl (by rw [ints_len]; unfold lim; omega)
      have hw : IntKind.i64.wrap ((k : Int) - 1) = ((k - 1 : Nat) : Int) := by
        rw [w64 (by omega) (by omega)]
        omega
      simp only [t0, l2, l3, t4, hk, hpk, rd_chk hr.at_, rd_ld2 hr.at_, hq, cn, zeros, fillAt, c3, o3.cells, hw, go_sem]
      have hkk : k = (k - 1) + 1 := by omega
      rw [hkk] at hto
      refine ⟨k - 1, by omega, by omega, L ++ [sV s q 0], sS s q 1, v3, rfl, rfl, hrn.push hbl q1 (fun c hc => q2 c (.inl hc)), ?_, hto.next hq⟩
      rw [Nat.max_eq_right q1] at o3
      simpa [ints] using o3
    | true =>
      have hd := hto.done (.inr hq)
      have hg : gStep Int.toNat s p = (⟨L, sV s q 0⟩, sS s q 1) := by
        unfold gStep
        rw [hN, Int.toNat_natCast, hd]
        rfl
      have cn := num_i (X := X) hr hs
      have hrn := hr.nums 1
      have o1 : Own (h'.set b (rdB y_reader s (sS s q 1))) h.length h'.length 1 y_int v (ints L) := o.num hbl
      obtain ⟨h2, hh2⟩ : ∃ h2, h2 = h'.set b (rdB y_reader s (sS s q 1)) := ⟨_, rfl⟩
      rw [← hh2] at cn hrn o1
      have hl2 : h2.length = h'.length := by rw [hh2, set_len]
      rw [← hl2] at o1
      obtain ⟨hf, e, f1, f2⟩ := fin_rdr (z := .int .i64 (sV s q 0)) hbl hrn o1
      simp only [t0, l2, l3, t4, hk, hpk, rd_chk hr.at_, rd_ld2 hr.at_, hq, cn, go_sem]
      rw [e, hg]
      exact ⟨v, rfl, f1, f2⟩
  · have hk0 : k = 0 := by omega
    have hd := hto.done (.inl hk0)
    have hq : True := trivial
    have hg : gStep Int.toNat s p = (⟨L, sV s q 0⟩, sS s q 1) := by
      unfold gStep
      rw [hN, Int.toNat_natCast, hd]
      rfl
    have cn := num_i (X := X) hr hs
    have hrn := hr.nums 1
    have o1 : Own (h'.set b (rdB y_reader s (sS s q 1))) h.length h'.length 1 y_int v (ints L) := o.num hbl
    obtain ⟨h2, hh2⟩ : ∃ h2, h2 = h'.set b (rdB y_reader s (sS s q 1)) := ⟨_, rfl⟩
    rw [← hh2] at cn hrn o1
    have hl2 : h2.length = h'.length := by rw [hh2, set_len]
    rw [← hl2] at o1
    obtain ⟨hf, e, f1, f2⟩ := fin_rdr (z := .int .i64 (sV s q 0)) hbl hrn o1
    simp only [t0, l2, l3, t4, hk, hpk, rd_chk hr.at_, rd_ld2 hr.at_, hq, cn, go_sem]
    rw [e, hg]
    exact ⟨v, rfl, f1, f2⟩
theorem k_impl_ReadCert (hs2 : s.size ≤ 1048576) : ∃ v hh, C T X n_impl_ReadCert [.string s] h = some (v, hh) ∧ h <+: hh ∧ ∃ ew mw yw gw, v = .tuple ⟨[certV (rdI s).size ew mw yw gw, .bool (rdI s).ok]⟩ ∧ ∃ i1 i2 i3 i4, (h.length ≤ i1 ∧ i1 ≤ i2 ∧ i2 ≤ i3 ∧ i3 ≤ i4 ∧ i4 ≤ hh.length) ∧ Own hh i1 i2 5 y_Edge ew (edges (rdI s).es) ∧ Own hh i2 i3 2 y_Couple mw (cps (rdI s).m) ∧ Own hh i3 i4 1 y_int yw (ints (rdI s).ys) ∧ OwnG hh i4 hh.length y_Group gw (rdI s).gs := by
  have hs : s.size ≤ lim := by unfold lim; omega
  refine C_ex t_impl_ReadCert rfl ?_
  obtain ⟨g, hg⟩ : ∃ g : Heap, g = h ++ [rdB y_reader s (0, false)] := ⟨_, rfl⟩
  have hbw : bxW h y_reader 3 (.agg ⟨[.string s, .int .i64 0, .bool false]⟩) = some (pk h.length 0, g) := by rw [hg]; rfl
  obtain ⟨b, hb⟩ : ∃ b, b = h.length := ⟨_, rfl⟩
  rw [← hb] at hbw
  have hgb : g[b]? = some (rdB y_reader s (0, false)) := by rw [hg, hb]; simp
  have hgl : g.length = b + 1 := by rw [hg, hb]; simp
  have hbl : b < g.length := by omega
  have hpg : h <+: g := by rw [hg]; exact List.prefix_append _ _
  have r0 : Rdr b y_reader s g g (0, false) := Rdr.refl hgb (Nat.zero_le _)
  have c1 := num_i (X := X) r0 hs
  have c2 := num_in (X := X) r0 hs 1
  have r2 := r0.nums 2
  obtain ⟨g2, hg2⟩ : ∃ g2, g2 = g.set b (rdB y_reader s (sS s (0, false) 2)) := ⟨_, rfl⟩
  rw [← hg2] at c2 r2
  have hz : sV s (0, false) 0 = (rz s).1 := rfl
  have hne : sV s (0, false) 1 = (rne s).1 := rfl
  have hq2 : sS s (0, false) 2 = (rne s).2 := rfl
  rw [hz] at c1
  rw [hne] at c2
  rw [hq2] at r2
  obtain ⟨size, hsz⟩ : ∃ z, z = (rz s).1 := ⟨_, rfl⟩
  rw [← hsz] at c1
  have hszr : 0 ≤ size ∧ size ≤ 1000000000 := by rw [hsz]; exact num_rng (Nat.zero_le _)
  have hner := num_rng (s := s) (q := (rz s).2) (numStep_le (Nat.zero_le _))
  rw [show numStep s (rz s).2 = rne s from rfl] at hner
  obtain ⟨N, hN⟩ : ∃ N : Nat, (rne s).1 = N := ⟨(rne s).1.toNat, by omega⟩
  have hN9 : N ≤ 1000000000 := by omega
  rw [hN] at c2
  have hre : re Int.toNat s = rdN (eStep s) N (rne s).2 := by unfold re; rw [hN, Int.toNat_natCast]
  unfold F_impl_ReadCert
  simp only [hbw, c1, c2, go_sem]
  -- the edges
  refine w_measX 0 N (fun m t loc h' => m ≤ N ∧ t 4 = pk b 0 ∧ loc 2 = some [.int .i64 0, nilV, nilV, nilV, nilV] ∧ ∃ L q v, t 6 = .int .i64 (m : Nat) ∧ loc 5 = some [.int .i64 size, v, nilV, nilV, nilV] ∧ Rdr b y_reader s g2 h' q ∧ Own h' g2.length h'.length 5 y_Edge v (edges L) ∧ RdTo (eStep s) N (rne s).2 L m q)
    (fun t loc h' => t 4 = pk b 0 ∧ loc 2 = some [.int .i64 0, nilV, nilV, nilV, nilV] ∧ ∃ v, loc 5 = some [.int .i64 size, v, nilV, nilV, nilV] ∧ Rdr b y_reader s g2 h' (re Int.toNat s).2 ∧ Own h' g2.length h'.length 5 y_Edge v (edges (re Int.toNat s).1))
    ⟨Nat.le_refl _, rfl, rfl, [], _, _, rfl, rfl, Rdr.refl r2.at_ r2.le, Own.nil, RdTo.start⟩ ?_ ?_
  · rintro k t loc h' ⟨hkN, t4, l2, L, q, v, t6, l5, hr, o, hto⟩
    have hpk : ∀ j, faV h' (pk b 0) j = some (pk b j) := fun j => rd_fa hr.at_
    by_cases hk : (k : Int) > 0
    · cases hq : q.2 with
      | false =>
        have d0 := num_i (X := X) hr hs
        have d1 := num_in (X := X) hr hs 1
        have d2 := num_in (X := X) hr hs 2
        have d3 := num_in (X := X) hr hs 3
        have d4 := num_in (X := X) hr hs 4
        have hrn := hr.nums 5
        have hb2 : b < g2.length := lt_of_get r2.at_
        have o1 : Own (h'.set b (rdB y_reader s (sS s q 5))) g2.length h'.length 5 y_Edge v (edges L) := o.num hb2
        obtain ⟨h2, hh2⟩ : ∃ h2, h2 = h'.set b (rdB y_reader s (sS s q 5)) := ⟨_, rfl⟩
        rw [← hh2] at d4 hrn o1
        have hl2 : h2.length = h'.length := by rw [hh2, set_len]
        have hLN := hto.len
        rw [← hl2] at o1
        obtain ⟨v3, h3, c3, q1, q2, o3⟩ := o1.push1 hrn.len (edgeR (eStep s q).1) rfl (by rw [List.length_map]; unfold lim; omega)
        have hw : IntKind.i64.wrap ((k : Int) - 1) = ((k - 1 : Nat) : Int) := by
          rw [w64 (by omega) (by omega)]
          omega
        unfold edgeR eStep at c3
        simp only [t4, l2, l5, t6, hk, hpk, rd_chk hr.at_, rd_ld2 hr.at_, hq, d0, d1, d2, d3, d4, zeros, fillAt, c3, o3.cells, hw, go_sem]
        have hkk : k = (k - 1) + 1 := by omega
        rw [hkk] at hto
        refine ⟨k - 1, by omega, by omega, L ++ [(eStep s q).1], sS s q 5, v3, rfl, rfl, hrn.push hb2 q1 (fun c hc => q2 c (.inl hc)), ?_, hto.next hq⟩
        rw [Nat.max_eq_right q1] at o3
        simpa using o3
      | true =>
        have hd := hto.done (.inr hq)
        simp only [t4, l2, l5, t6, hk, hpk, rd_chk hr.at_, rd_ld2 hr.at_, hq, go_sem]
        rw [hre, hd]
        exact ⟨v, rfl, hr, o⟩
    · have hd := hto.done (.inl (by omega))
      simp only [t4, l2, l5, t6, hk, hpk, go_sem]
      rw [hre, hd]
      exact ⟨v, rfl, hr, o⟩
  rintro t loc g3 ⟨t4, l2, ev, l5, r3, oe⟩
  have hb3 : b < g3.length := lt_of_get r3.at_
  have n1 := num_i (X := X) r3 hs
  rw [show sV s (re Int.toNat s).2 0 = (rnm Int.toNat s).1 from rfl] at n1
  have r4' := r3.nums 1
  obtain ⟨g4, hg4⟩ : ∃ g4, g4 = g3.set b (rdB y_reader s (sS s (re Int.toNat s).2 1)) := ⟨_, rfl⟩
  have oe4 : Own g4 g2.length g3.length 5 y_Edge ev (edges (re Int.toNat s).1) := by rw [hg4]; exact oe.num (lt_of_get r2.at_)
  rw [← hg4] at n1 r4'
  have hl4 : g4.length = g3.length := by rw [hg4, set_len]
  rw [show sS s (re Int.toNat s).2 1 = (rnm Int.toNat s).2 from rfl] at r4'
  have r4 : Rdr b y_reader s g4 g4 (rnm Int.toNat s).2 := Rdr.refl r4'.at_ r4'.le
  have hmr := num_rng (s := s) (q := (re Int.toNat s).2) r3.le
  rw [show numStep s (re Int.toNat s).2 = rnm Int.toNat s from rfl] at hmr
  obtain ⟨M, hM⟩ : ∃ M : Nat, (rnm Int.toNat s).1 = M := ⟨(rnm Int.toNat s).1.toNat, by omega⟩
  have hM9 : M ≤ 1000000000 := by omega
  rw [hM] at n1
  have hrm : rm Int.toNat s = rdN (cStep s) M (rnm Int.toNat s).2 := by unfold rm; rw [hM, Int.toNat_natCast]
  simp only [t4, l2, l5, n1, go_sem]
  -- the couples
  have hb4 : b < g4.length := by omega
  refine w_measX 2 M (fun m t loc h' => m ≤ M ∧ t 4 = pk b 0 ∧ loc 2 = some [.int .i64 0, nilV, nilV, nilV, nilV] ∧ ∃ L q v, t 6 = .int .i64 (m : Nat) ∧ loc 5 = some [.int .i64 size, ev, v, nilV, nilV] ∧ Rdr b y_reader s g4 h' q ∧ Own h' g4.length h'.length 2 y_Couple v (cps L) ∧ RdTo (cStep s) M (rnm Int.toNat s).2 L m q)
    (fun t loc h' => t 4 = pk b 0 ∧ loc 2 = some [.int .i64 0, nilV, nilV, nilV, nilV] ∧ ∃ v, loc 5 = some [.int .i64 size, ev, v, nilV, nilV] ∧ Rdr b y_reader s g4 h' (rm Int.toNat s).2 ∧ Own h' g4.length h'.length 2 y_Couple v (cps (rm Int.toNat s).1))
    ⟨Nat.le_refl _, rfl, rfl, [], _, _, rfl, rfl, r4, Own.nil, RdTo.start⟩ ?_ ?_
  · rintro k t loc h' ⟨hkN, t4, l2, L, q, v, t6, l5, hr, o, hto⟩
    have hpk : ∀ j, faV h' (pk b 0) j = some (pk b j) := fun j => rd_fa hr.at_
    by_cases hk : (k : Int) > 0
    · cases hq : q.2 with
      | false =>
        have d0 := num_i (X := X) hr hs
        have d1 := num_in (X := X) hr hs 1
        have hrn := hr.nums 2
        have o1 : Own (h'.set b (rdB y_reader s (sS s q 2))) g4.length h'.length 2 y_Couple v (cps L) := o.num hb4
        obtain ⟨h2, hh2⟩ : ∃ h2, h2 = h'.set b (rdB y_reader s (sS s q 2)) := ⟨_, rfl⟩
        rw [← hh2] at d1 hrn o1
        have hl2 : h2.length = h'.length := by rw [hh2, set_len]
        have hLN := hto.len
        rw [← hl2] at o1
        obtain ⟨v3, h3, c3, q1, q2, o3⟩ := o1.push1 hrn.len (cpR (cStep s q).1) rfl (by rw [List.length_map]; unfold lim; omega)
        have hw : IntKind.i64.wrap ((k : Int) - 1) = ((k - 1 : Nat) : Int) := by
          rw [w64 (by omega) (by omega)]
          omega
        unfold cpR cStep at c3
        simp only [t4, l2, l5, t6, hk, hpk, rd_chk hr.at_, rd_ld2 hr.at_, hq, d0, d1, zeros, fillAt, c3, o3.cells, hw, go_sem]
        have hkk : k = (k - 1) + 1 := by omega
        rw [hkk] at hto
        refine ⟨k - 1, by omega, by omega, L ++ [(cStep s q).1], sS s q 2, v3, rfl, rfl, hrn.push hb4 q1 (fun c hc => q2 c (.inl hc)), ?_, hto.next hq⟩
        rw [Nat.max_eq_right q1] at o3
        simpa using o3
      | true =>
        have hd := hto.done (.inr hq)
        simp only [t4, l2, l5, t6, hk, hpk, rd_chk hr.at_, rd_ld2 hr.at_, hq, go_sem]
        rw [hrm, hd]
        exact ⟨v, rfl, hr, o⟩
    · have hd := hto.done (.inl (by omega))
      simp only [t4, l2, l5, t6, hk, hpk, go_sem]
      rw [hrm, hd]
      exact ⟨v, rfl, hr, o⟩
  rintro t loc g5 ⟨t4, l2, mv, l5, r5, om⟩
  have hb5 : b < g5.length := lt_of_get r5.at_
  have r5s : Rdr b y_reader s g5 g5 (rm Int.toNat s).2 := Rdr.refl r5.at_ r5.le
  obtain ⟨Y, hY⟩ : ∃ Y : Nat, size = Y := ⟨size.toNat, by omega⟩
  have hY9 : Y ≤ 1000000000 := by omega
  have hry : ry Int.toNat s = rdN (numStep s) Y (rm Int.toNat s).2 := by unfold ry; rw [← hsz, hY, Int.toNat_natCast]
  simp only [t4, l2, l5, hY, go_sem]
  -- the numbers of the vertices
  refine w_measX 4 Y (fun m t loc h' => m ≤ Y ∧ t 4 = pk b 0 ∧ loc 2 = some [.int .i64 0, nilV, nilV, nilV, nilV] ∧ ∃ L q v, t 9 = .int .i64 (m : Nat) ∧ loc 5 = some [.int .i64 Y, ev, mv, v, nilV] ∧ Rdr b y_reader s g5 h' q ∧ Own h' g5.length h'.length 1 y_int v (ints L) ∧ RdTo (numStep s) Y (rm Int.toNat s).2 L m q)
    (fun t loc h' => t 4 = pk b 0 ∧ loc 2 = some [.int .i64 0, nilV, nilV, nilV, nilV] ∧ ∃ v, loc 5 = some [.int .i64 Y, ev, mv, v, nilV] ∧ Rdr b y_reader s g5 h' (ry Int.toNat s).2 ∧ Own h' g5.length h'.length 1 y_int v (ints (ry Int.toNat s).1))
    ⟨Nat.le_refl _, rfl, rfl, [], _, _, rfl, rfl, r5s, Own.nil, RdTo.start⟩ ?_ ?_
  · rintro k t loc h' ⟨hkN, t4, l2, L, q, v, t9, l5, hr, o, hto⟩
    have hpk : ∀ j, faV h' (pk b 0) j = some (pk b j) := fun j => rd_fa hr.at_
    by_cases hk : (k : Int) > 0
    · cases hq : q.2 with
      | false =>
        have d0 := num_i (X := X) hr hs
        have hrn := hr.nums 1
        have o1 : Own (h'.set b (rdB y_reader s (sS s q 1))) g5.length h'.length 1 y_int v (ints L) := o.num hb5
        obtain ⟨h2, hh2⟩ : ∃ h2, h2 = h'.set b (rdB y_reader s (sS s q 1)) := ⟨_, rfl⟩
        rw [← hh2] at d0 hrn o1
        have hl2 : h2.length = h'.length := by rw [hh2, set_len]
        have hLN := hto.len
        rw [← hl2] at o1
        obtain ⟨v3, h3, c3, q1, q2, o3⟩ := o1.push1 hrn.len [.int .i64 (sV s q 0)] rfl (by rw [ints_len]; unfold lim; omega)
        have hw : IntKind.i64.wrap ((k : Int) - 1) = ((k - 1 : Nat) : Int) := by
          rw [w64 (by omega) (by omega)]
          omega
        simp only [t4, l2, l5, t9, hk, hpk, rd_chk hr.at_, rd_ld2 hr.at_, hq, d0, zeros, fillAt, c3, o3.cells, hw, go_sem]
        have hkk : k = (k - 1) + 1 := by omega
        rw [hkk] at hto
        refine ⟨k - 1, by omega, by omega, L ++ [sV s q 0], sS s q 1, v3, rfl, rfl, hrn.push hb5 q1 (fun c hc => q2 c (.inl hc)), ?_, hto.next hq⟩
        rw [Nat.max_eq_right q1] at o3
        simpa [ints] using o3
      | true =>
        have hd := hto.done (.inr hq)
        simp only [t4, l2, l5, t9, hk, hpk, rd_chk hr.at_, rd_ld2 hr.at_, hq, go_sem]
        rw [hry, hd]
        exact ⟨v, rfl, hr, o⟩
    · have hd := hto.done (.inl (by omega))
      simp only [t4, l2, l5, t9, hk, hpk, go_sem]
      rw [hry, hd]
      exact ⟨v, rfl, hr, o⟩
  rintro t loc g6 ⟨t4, l2, yv, l5, r6, oy⟩
  have hb6 : b < g6.length := lt_of_get r6.at_
  have n2 := num_i (X := X) r6 hs
  rw [show sV s (ry Int.toNat s).2 0 = (rgn Int.toNat s).1 from rfl] at n2
  have r7' := r6.nums 1
  obtain ⟨g7, hg7⟩ : ∃ g7, g7 = g6.set b (rdB y_reader s (sS s (ry Int.toNat s).2 1)) := ⟨_, rfl⟩
  have oy7 : Own g7 g5.length g6.length 1 y_int yv (ints (ry Int.toNat s).1) := by rw [hg7]; exact oy.num hb5
  rw [← hg7] at n2 r7'
  have hl7 : g7.length = g6.length := by rw [hg7, set_len]
  have hb7 : b < g7.length := by omega
  rw [show sS s (ry Int.toNat s).2 1 = (rgn Int.toNat s).2 from rfl] at r7'
  have r7 : Rdr b y_reader s g7 g7 (rgn Int.toNat s).2 := Rdr.refl r7'.at_ r7'.le
  have hgr := num_rng (s := s) (q := (ry Int.toNat s).2) r6.le
  rw [show numStep s (ry Int.toNat s).2 = rgn Int.toNat s from rfl] at hgr
  obtain ⟨G, hG⟩ : ∃ G : Nat, (rgn Int.toNat s).1 = G := ⟨(rgn Int.toNat s).1.toNat, by omega⟩
  have hG9 : G ≤ 1000000000 := by omega
  rw [hG] at n2
  have hrgs : rg Int.toNat s = rdN (gStep Int.toNat s) G (rgn Int.toNat s).2 := by unfold rg; rw [hG, Int.toNat_natCast]
  simp only [t4, l2, l5, n2, go_sem]
  -- the groups
  refine w_measX 6 G (fun m t loc h' => m ≤ G ∧ t 4 = pk b 0 ∧ loc 2 = some [.int .i64 0, nilV, nilV, nilV, nilV] ∧ ∃ L q v, t 6 = .int .i64 (m : Nat) ∧ loc 5 = some [.int .i64 Y, ev, mv, yv, v] ∧ Rdr b y_reader s g7 h' q ∧ OwnG h' g7.length h'.length y_Group v L ∧ RdTo (gStep Int.toNat s) G (rgn Int.toNat s).2 L m q)
    (fun t loc h' => t 4 = pk b 0 ∧ loc 2 = some [.int .i64 0, nilV, nilV, nilV, nilV] ∧ ∃ v, loc 5 = some [.int .i64 Y, ev, mv, yv, v] ∧ Rdr b y_reader s g7 h' (rg Int.toNat s).2 ∧ OwnG h' g7.length h'.length y_Group v (rg Int.toNat s).1)
    ⟨Nat.le_refl _, rfl, rfl, [], _, _, rfl, rfl, r7, OwnG.nil, RdTo.start⟩ ?_ ?_
  · rintro k t loc h' ⟨hkN, t4, l2, L, q, v, t6, l5, hr, o, hto⟩
    have hpk : ∀ j, faV h' (pk b 0) j = some (pk b j) := fun j => rd_fa hr.at_
    by_cases hk : (k : Int) > 0
    · cases hq : q.2 with
      | false =>
        obtain ⟨x, h2, d0, hrx, ox⟩ := k_impl_group (X := X) hr.at_ hs hr.le
        have hrn := hr.trans hrx
        have o1 : OwnG h2 g7.length h'.length y_Group v L := o.rdr hrx hb7 (Nat.le_refl _)
        have hLN := hto.len
        obtain ⟨v3, h3, c3, q1, q2, o3⟩ := o1.push (z := (gStep Int.toNat s q).1.z) hrn.len hrx.len ox hr.len (Nat.le_refl _) (Nat.le_refl _) (by unfold lim; omega)
        have hw : IntKind.i64.wrap ((k : Int) - 1) = ((k - 1 : Nat) : Int) := by
          rw [w64 (by omega) (by omega)]
          omega
        simp only [t4, l2, l5, t6, hk, hpk, rd_chk hr.at_, rd_ld2 hr.at_, hq, d0, ox.cells, zeros, fillAt, c3, o3.cells', hw, go_sem]
        have hkk : k = (k - 1) + 1 := by omega
        rw [hkk] at hto
        exact ⟨k - 1, by omega, by omega, L ++ [(gStep Int.toNat s q).1], (gStep Int.toNat s q).2, v3, rfl, rfl, hrn.push hb7 q1 q2, o3, hto.next hq⟩
      | true =>
        have hd := hto.done (.inr hq)
        simp only [t4, l2, l5, t6, hk, hpk, rd_chk hr.at_, rd_ld2 hr.at_, hq, go_sem]
        rw [hrgs, hd]
        exact ⟨v, rfl, hr, o⟩
    · have hd := hto.done (.inl (by omega))
      simp only [t4, l2, l5, t6, hk, hpk, go_sem]
      rw [hrgs, hd]
      exact ⟨v, rfl, hr, o⟩
  rintro t loc g8 ⟨t4, l2, gv, l5, r8, og⟩
  have ce := k_impl_ends (X := X) r8.at_
  -- all of one's own
  have lenA : g.length ≤ g2.length := by rw [hg2, set_len]; exact Nat.le_refl _
  have len8 := r8.len
  have len6 := r6.len
  have len5 := r5.len
  have len3 := r3.len
  have hpg8 : h <+: g8 := by
    have k2 : ∀ c, c < h.length → g2[c]? = h[c]? := fun c hc => by
      rw [hg2, List.getElem?_set_ne (by omega), hg, List.getElem?_append_left hc]
    have k3 : ∀ c, c < h.length → g3[c]? = h[c]? := fun c hc => by rw [r3.old c (by omega) (by omega), k2 c hc]
    have k4 : ∀ c, c < h.length → g4[c]? = h[c]? := fun c hc => by rw [hg4, List.getElem?_set_ne (by omega), k3 c hc]
    have k5 : ∀ c, c < h.length → g5[c]? = h[c]? := fun c hc => by rw [r5.old c (by omega) (by omega), k4 c hc]
    have k6 : ∀ c, c < h.length → g6[c]? = h[c]? := fun c hc => by rw [r6.old c (by omega) (by omega), k5 c hc]
    have k7 : ∀ c, c < h.length → g7[c]? = h[c]? := fun c hc => by rw [hg7, List.getElem?_set_ne (by omega), k6 c hc]
    exact pre_of_get (by omega) fun c hc => by rw [r8.old c (by omega) (by omega), k7 c hc]
  have hbg2 : b < g2.length := by omega
  have oe8 : Own g8 g2.length g3.length 5 y_Edge ev (edges (re Int.toNat s).1) := by
    have a5 := oe4.rdr r5 hbg2 (by omega)
    have a6 := a5.rdr r6 hbg2 (by omega)
    have a7 : Own g7 g2.length g3.length 5 y_Edge ev (edges (re Int.toNat s).1) := by rw [hg7]; exact a6.num hbg2
    exact a7.rdr r8 hbg2 (by omega)
  have om8 : Own g8 g4.length g5.length 2 y_Couple mv (cps (rm Int.toNat s).1) := by
    have a6 := om.rdr r6 hb4 (by omega)
    have a7 : Own g7 g4.length g5.length 2 y_Couple mv (cps (rm Int.toNat s).1) := by rw [hg7]; exact a6.num hb4
    exact a7.rdr r8 hb4 (by omega)
  have oy8 : Own g8 g5.length g6.length 1 y_int yv (ints (ry Int.toNat s).1) := oy7.rdr r8 hb5 (by omega)
  by_cases ok : CokI s
  · have hR : rdI s = ⟨(rz s).1, (re Int.toNat s).1, (rm Int.toNat s).1, (ry Int.toNat s).1, (rg Int.toNat s).1, true⟩ := if_pos ok
    obtain ⟨k1, k2, k3, k4⟩ := read_bnd ok.1
    have cc := k_impl_Certifies (X := X) (size := (Y : Int)) oe8.rows om8.rows oy8.rows og.rows (by have := (cert_lens ok.2.2).2.1; unfold lim; omega) (by omega) ⟨by omega, by omega, fun x hx => by have := k4 x hx; omega⟩
    have hcy : CertOk (Y : Int) (re Int.toNat s).1 (rm Int.toNat s).1 (ry Int.toNat s).1 (rg Int.toNat s).1 := by rw [← hY, hsz]; exact ok.2.2
    unfold graphV proofV at cc
    have e1 : (rg Int.toNat s).2.2 = false := ok.1
    have e2 : ((rg Int.toNat s).2.1 = s.size) = True := eq_true ok.2.1
    have ce' : C T X n_impl_reader_ends [pk b 0] g8 = some (.bool true, g8) := by rw [ce, e1, ok.2.1]; simp
    simp only [t4, l2, l5, ce', cc, hcy, go_sem]
    rw [hR]
    simp only
    rw [← hsz, hY]
    obtain ⟨hh, e, p1, hc⟩ := finish_cases (v := .tuple ⟨[.agg ⟨[.int .i64 (Y : Int), ev, mv, yv, gv]⟩, .bool true]⟩) hpg8
    rw [e]
    dsimp only
    rcases hc with rfl | ⟨hf, rfl⟩
    · exact ⟨p1, ev, mv, yv, gv, rfl, g2.length, g3.length, g5.length, g6.length, ⟨by omega, by omega, by omega, by omega, by omega⟩, oe8, om8.wide (by omega) (Nat.le_refl _), oy8, og.wide (by omega) (Nat.le_refl _)⟩
    · have hf' : prim ev = true ∧ prim mv = true ∧ prim yv = true ∧ prim gv = true := by simpa [flat, flat1, prim] using hf
      exact ⟨p1, ev, mv, yv, gv, rfl, List.length hh, List.length hh, List.length hh, List.length hh, ⟨by omega, by omega, by omega, by omega, pre_len p1⟩, oe8.flatP hf'.1, om8.flatP hf'.2.1, oy8.flatP hf'.2.2.1, og.flatG hf'.2.2.2⟩
  · have hR : rdI s = ⟨0, [], [], [], [], false⟩ := if_neg ok
    by_cases e1 : (!(rg Int.toNat s).2.2 && decide ((rg Int.toNat s).2.1 = s.size)) = true
    · have e2 : (rg Int.toNat s).2.2 = false ∧ (rg Int.toNat s).2.1 = s.size := by simpa using e1
      obtain ⟨k1, k2, k3, k4⟩ := read_bnd e2.1
      have hnl : (re Int.toNat s).1.length ≤ N := by rw [hre]; exact rdN_len
      have cc := k_impl_Certifies (X := X) (size := (Y : Int)) oe8.rows om8.rows oy8.rows og.rows (by unfold lim; omega) (by omega) ⟨by omega, by omega, fun x hx => by have := k4 x hx; omega⟩
      have hcy : ¬ CertOk (Y : Int) (re Int.toNat s).1 (rm Int.toNat s).1 (ry Int.toNat s).1 (rg Int.toNat s).1 := by rw [← hY, hsz]; exact fun k => ok ⟨e2.1, e2.2, k⟩
      unfold graphV proofV at cc
      have ce' : C T X n_impl_reader_ends [pk b 0] g8 = some (.bool true, g8) := by rw [ce, e1]
      simp only [t4, l2, l5, ce', cc, hcy, go_sem]
      rw [finish_flat rfl hpg8, hR]
      exact ⟨List.prefix_refl _, nilV, nilV, nilV, nilV, rfl, h.length, h.length, h.length, h.length, ⟨Nat.le_refl _, Nat.le_refl _, Nat.le_refl _, Nat.le_refl _, Nat.le_refl _⟩, Own.nil, Own.nil, Own.nil, OwnG.nil⟩
    · have ce' : C T X n_impl_reader_ends [pk b 0] g8 = some (.bool false, g8) := by rw [ce]; simp only [Bool.not_eq_true] at e1; rw [e1]
      simp only [t4, l2, l5, ce', go_sem]
      rw [finish_flat rfl hpg8, hR]
      exact ⟨List.prefix_refl _, nilV, nilV, nilV, nilV, rfl, h.length, h.length, h.length, h.length, ⟨Nat.le_refl _, Nat.le_refl _, Nat.le_refl _, Nat.le_refl _, Nat.le_refl _⟩, Own.nil, Own.nil, Own.nil, OwnG.nil⟩
end
end Go.Proofs.YtgmljppiiighmaaGreatDoor.Ab
