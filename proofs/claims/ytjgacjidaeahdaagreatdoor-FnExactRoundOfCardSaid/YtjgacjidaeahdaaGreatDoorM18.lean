/- Joined: K52, P15, K7, K8, P1, K9, P6. No conditions. -/
import Derived.Test.YtjgacjidaeahdaaGreatDoorM17
import Derived.Test.YtjgacjidaeahdaaGreatDoorM5
import Derived.Test.YtjgacjidaeahdaaGreatDoorM15
import Derived.Test.YtjgacjidaeahdaaGreatDoorM16
import Derived.Test.YtjgacjidaeahdaaGreatDoorM4
set_option linter.unusedSimpArgs false
set_option linter.unusedVariables false
set_option linter.unnecessarySimpa false
set_option maxHeartbeats 4000000
namespace Go.Proofs.YtjgacjidaeahdaaGreatDoor.Ab
open Go.RowKit
theorem catB_snoc {l : List ByteArray} {x : ByteArray} : catB (l ++ [x]) = catB l ++ x := by unfold catB; rw [List.foldl_append]; rfl
theorem partsL_snoc {m : List Pr} {r i : Nat} : partsL m r (i + 1) = partsL m r i ++ [partV m r i] := by unfold partsL; rw [List.range_succ, List.map_append]; rfl
theorem catB_size : ∀ {l : List ByteArray}, (∀ x ∈ l, x.size ≤ 40) → (catB l).size ≤ 40 * l.length
  | [], _ => by show noT.size ≤ _; exact Nat.zero_le _
  | x :: l, h => by
    rw [catB_cons, ByteArray.size_append, List.length_cons]
    have h1 := h x List.mem_cons_self
    have h2 := catB_size fun y hy => h y (List.mem_cons_of_mem _ hy)
    omega
theorem getK_size {m : List Pr} (hs : ∀ p ∈ m, p.v.size ≤ 40) {k : ByteArray} : ((getK m k).getD noT).size ≤ 40 := by
  cases hg : getK m k with
  | none => exact Nat.zero_le _
  | some v =>
    obtain ⟨i, h1, h2, h3⟩ := getK_some hg
    rw [Option.getD_some, ← h3]
    exact hs _ (getD_mem h1)
theorem partsL_size {m : List Pr} (hs : ∀ p ∈ m, p.v.size ≤ 40) {r n : Nat} : (catB (partsL m r n)).size ≤ 40 * n := by
  have := catB_size (l := partsL m r n) fun x hx => by
    obtain ⟨i, _, rfl⟩ := List.mem_map.1 hx
    exact getK_size hs
  simpa [partsL] using this
theorem textS_size {l : List Pr} (hs : ∀ p ∈ l, p.v.size ≤ 40) {f : Pr → Bool} : (catB ((l.filter f).map (·.v))).size ≤ 40 * l.length := by
  have := catB_size (l := (l.filter f).map (·.v)) fun x hx => by
    obtain ⟨p, hp, rfl⟩ := List.mem_map.1 hx
    exact hs p (List.mem_filter.1 hp).1
  have h2 := List.length_filter_le f l
  rw [List.length_map] at this
  omega
theorem r3_app {r : Nat} : (⟨⟨[114]⟩⟩ : ByteArray) ++ twoT r = strOfNums (114 :: twoL r) := by
  rw [show (⟨⟨[114]⟩⟩ : ByteArray) = strOfNums [114] from rfl]; exact strOfNums_app
theorem rK_app' {r n : Nat} : strOfNums (114 :: twoL r) ++ twoT n = rK r n := by rw [← r3_app]; exact rK_app
theorem r3_size {r : Nat} (h : r ≤ 1000000000) : (strOfNums (114 :: twoL r)).size ≤ 11 := by
  rw [← r3_app, ByteArray.size_append, lit_size]
  have := twoT_size h
  omega
theorem sl_from {s : ByteArray} {a : Nat} (h : a ≤ s.size) : slSV (.string s) (some (.int .i64 (a : Int))) none = some (.string (s.extract a s.size)) := by
  simp only [slSV, bnd]
  rw [if_pos ⟨by omega, by omega, by omega⟩]
  rfl
theorem sl_to {s : ByteArray} {b : Nat} (h : b ≤ s.size) : slSV (.string s) none (some (.int .i64 (b : Int))) = some (.string (s.extract 0 b)) := by
  simp only [slSV, bnd]
  rw [if_pos ⟨by omega, by omega, by omega⟩]
  rfl
theorem sl_mid {s : ByteArray} {a b : Nat} (h : a ≤ b) (hb : b ≤ s.size) : slSV (.string s) (some (.int .i64 (a : Int))) (some (.int .i64 (b : Int))) = some (.string (s.extract a b)) := by
  simp only [slSV, bnd]
  rw [if_pos ⟨by omega, by omega, by omega⟩]
  rfl
theorem cutF_fuel : ∀ (f g : Nat) (s : ByteArray), s.size < f → s.size < g → cutF f s = cutF g s
  | 0, g, s, h, _ => by omega
  | f + 1, 0, s, _, h => by omega
  | f + 1, g + 1, s, h1, h2 => by
    unfold cutF
    split
    · rw [cutF_fuel f g _ (by rw [ByteArray.size_extract]; omega) (by rw [ByteArray.size_extract]; omega)]
    · rfl
theorem cut_big {s : ByteArray} (h : 40 < s.size) : cut s = s.extract 0 40 :: cut (s.extract 40 s.size) := by
  unfold cut
  rw [cutF, if_pos h, cutF_fuel s.size ((s.extract 40 s.size).size + 1) _ (by rw [ByteArray.size_extract]; omega) (by omega)]
theorem cut_small {s : ByteArray} (h : ¬ 40 < s.size) (h0 : ¬ s.size = 0) : cut s = [s] := by
  unfold cut
  rw [cutF, if_neg h, if_neg h0]
theorem cut_none {s : ByteArray} (h0 : s.size = 0) : cut s = [] := by
  unfold cut
  rw [cutF, if_neg (by omega), if_pos h0]
theorem size_noT {s : ByteArray} : s.size = 0 ↔ s = noT := by
  constructor
  · intro h
    apply ByteArray.ext
    apply Array.toList_inj.1
    have : s.data.toList.length = 0 := by simpa using h
    rw [List.length_eq_zero_iff.1 this]
  · rintro rfl; rfl
/-- The bytes of a text. -/
def bytL (s : ByteArray) : List Int := (List.range s.size).map fun i => ((byt s i : Nat) : Int)
theorem bytL_len {s : ByteArray} : (bytL s).length = s.size := by simp [bytL]
theorem take_snocD' {α : Type} {d : α} {l : List α} {i : Nat} (hi : i < l.length) : l.take (i + 1) = l.take i ++ [l.getD i d] := by
  rw [List.take_add_one, List.getElem?_eq_getElem hi, List.getD_eq_getElem?_getD, List.getElem?_eq_getElem hi]
  rfl
def valN (s : ByteArray) : Nat → Nat
  | 0 => 0
  | i + 1 => 10 * valN s i + (byt s i - 48)
theorem valN_lt {s : ByteArray} : ∀ i, (∀ j, j < i → byt s j ≤ 57) → valN s i < 10 ^ i
  | 0, _ => by simp [valN]
  | i + 1, h => by
    have h1 := valN_lt i fun j hj => h j (by omega)
    have h2 := h i (by omega)
    rw [valN, Nat.pow_succ]
    omega
theorem valN_dec {n : Nat} : ∀ i, i ≤ (decL n).length → ((valN (decT n) i : Nat) : Int) = valD ((decL n).take i)
  | 0, _ => by simp [valN, valD]
  | i + 1, h => by
    have h1 := valN_dec (n := n) i (by omega)
    have h2 := byt_nums (L := decL n) (fun x hx => by have := decL_rng (n + 1) n (by omega) x hx; omega) (i := i) (by omega)
    have h3 := decL_rng (n + 1) n (by omega) ((decL n).getD i 0) (getD_mem (l := decL n) (by omega))
    rw [take_snocD' (l := decL n) (d := (0 : Int)) (by omega), valD_snoc, ← h1, valN]
    unfold decT
    omega
section
variable {X : CallF} {h : Heap} {m : List Pr} {mv : Value}
theorem k_impl_certOf [LibX X] {r n : Nat} (hr : r ≤ 1000000000) (hp : IsParts m r n) (hs : ∀ p ∈ m, p.v.size ≤ 40) (hm : Rows h 2 mv (prsL m)) (hl : m.length ≤ lim) : C T X n_impl_certOf [mv, .int .i64 (r : Int)] h = some (.tuple ⟨[.string (catB (partsL m r n)), .int .i64 (n : Int)]⟩, h) := by
  refine C_go t_impl_certOf rfl ?_
  unfold F_impl_certOf
  simp only [go_sem]
  have hn := hp.1
  refine w_for n (fun i t loc h' => h' = h ∧ t 0 = mv ∧ t 1 = .int .i64 (r : Int) ∧ t 6 = .string (catB (partsL m r i)) ∧ t 7 = .int .i64 (i : Int) ∧ i ≤ n) ⟨rfl, rfl, rfl, rfl, rfl, Nat.zero_le _⟩ ?_
  rintro i t loc h' hi ⟨rfl, t0, t1, t6, t7, hi2⟩
  have hw : IntKind.i64.wrap ((i : Int) + 1) = ((i + 1 : Nat) : Int) := w64 (by omega) (by omega)
  have h2 := k_impl_two (X := X) (h := h') (n := r) (by omega)
  have h3 := k_impl_two (X := X) (h := h') (n := i) (by omega)
  have hz := twoT_size (n := r) (by omega)
  have hz' := twoT_size (n := i) (by omega)
  have hz1 : (⟨[114]⟩ : Array UInt8).size + (twoT r).size ≤ 9223372036854775807 := by rw [asz]; omega
  have hz2 := r3_size (r := r) (by omega)
  have hz3 : (strOfNums (114 :: twoL r)).size + (twoT i).size ≤ 9223372036854775807 := by omega
  have hg := k_impl_get (X := X) (k := rK r i) hm hl
  unfold getV at hg
  by_cases c : i = n
  · rcases hp.2.2 with e | e
    · cases e2 : (getK m (rK r i)).isSome with
      | true =>
        have c9 : (i : Int) > 99 := by omega
        simp only [t0, t1, t6, t7, h2, h3, hz1, r3_app, hz3, rK_app', hg, e2, c9, go_sem]
        rw [c]
      | false =>
        simp only [t0, t1, t6, t7, h2, h3, hz1, r3_app, hz3, rK_app', hg, e2, go_sem]
        rw [c]
    · have e2 : (getK m (rK r i)).isSome = false := by rw [c, e]; rfl
      simp only [t0, t1, t6, t7, h2, h3, hz1, r3_app, hz3, rK_app', hg, e2, go_sem]
      rw [c]
  · have e2 : (getK m (rK r i)).isSome = true := hp.2.1 i (by omega)
    have c9 : ¬ (i : Int) > 99 := by omega
    have s1 := partsL_size hs (r := r) (n := i)
    have s2 := getK_size hs (k := rK r i)
    have s3 : (catB (partsL m r i)).size + ((getK m (rK r i)).getD noT).size ≤ 9223372036854775807 := by omega
    simp only [t0, t1, t6, t7, h2, h3, hz1, r3_app, hz3, rK_app', hg, e2, c9, s3, hw, go_sem]
    refine ⟨by omega, ?_, by omega⟩
    rw [partsL_snoc, catB_snoc]
    rfl
theorem k_spec_l13Text {r : Nat} (hr : r ≤ 1000000000) (hs : ∀ p ∈ m, p.v.size ≤ 40) (hm : Rows h 2 mv (prsL m)) (hl : m.length ≤ 1048576) : C T X n_spec_l13Text [mv, .int .i64 (r : Int)] h = some (.string (textS m r), h) := by
  refine C_go t_spec_l13Text rfl ?_
  unfold F_spec_l13Text
  simp only [go_sem]
  refine w_for m.length (fun i t loc h' => h' = h ∧ t 0 = mv ∧ t 1 = .int .i64 (r : Int) ∧ t 5 = .string (catB (((m.take i).filter (isR r)).map (·.v))) ∧ t 6 = .int .i64 (i : Int)) ⟨rfl, rfl, rfl, by rw [List.take_zero]; rfl, rfl⟩ ?_
  rintro i t loc h' hi ⟨rfl, t0, t1, t5, t6⟩
  simp only [t0, t6, hm.lnm, go_sem]
  refine w_open (by simp only [go_sem]; rfl) ?_ ?_ <;> intro hc
  · have hi1 : i < m.length := by omega
    have hw : IntKind.i64.wrap ((i : Int) + 1) = ((i + 1 : Nat) : Int) := w64 (by omega) (by omega)
    have el := hm.el (f := prR) p0 hi1
    have cl0 := hm.cell (f := prR) p0 hi1 (o := 0) (by omega)
    have cl1 := hm.cell (f := prR) p0 hi1 (o := 1) (by omega)
    have tk := take_snocD' (d := p0) hi1
    have hsq := hs _ (getD_mem (d := p0) hi1)
    obtain ⟨q, hq⟩ : ∃ q, q = m.getD i p0 := ⟨_, rfl⟩
    rw [← hq] at el cl0 cl1 tk hsq
    have k0 : ldC h' (elemP mv 2 i 0) 1 = some [.string q.k] := cl0
    have k1 : ldC h' (elemP mv 2 i 1) 1 = some [.string q.v] := cl1
    have h2 := k_spec_l13Two (X := X) (h := h') (n := r) hr
    have hz := twoT_size (n := r) (by omega)
    have hz1 : (⟨[114]⟩ : Array UInt8).size + (twoT r).size ≤ 9223372036854775807 := by rw [asz]; omega
    have s1 := textS_size (l := m.take i) (fun p hp => hs p (List.mem_of_mem_take hp)) (f := isR r)
    rw [List.length_take] at s1
    have s3 : (catB (((m.take i).filter (isR r)).map (·.v))).size + q.v.size ≤ 9223372036854775807 := by omega
    have no : isR r q = false → catB (((m.take (i + 1)).filter (isR r)).map (·.v)) = catB (((m.take i).filter (isR r)).map (·.v)) := fun e => by
      rw [tk, List.filter_append, List.filter_cons_of_neg (by rw [e]; decide), List.filter_nil, List.append_nil]
    by_cases c1 : (q.k.size : Int) = 5
    · have hsl : slSV (.string q.k) none (some (.int .i64 3)) = some (.string (q.k.extract 0 3)) := sl_to (b := 3) (by omega)
      by_cases c2 : q.k.extract 0 3 = strOfNums (114 :: twoL r)
      · have c2' : ((q.k.extract 0 3).toList == (strOfNums (114 :: twoL r)).toList) = true := by rw [str_eq]; exact decide_eq_true c2
        simp only [t0, t1, t5, t6, el.1, el.2.1, k0, k1, c1, hsl, h2, hz1, r3_app, c2', s3, hw, go_sem]
        refine ⟨List.prefix_refl _, hi1, ?_⟩
        rw [tk, List.filter_append, List.filter_cons_of_pos (by unfold isR; simp [c2]; omega), List.filter_nil, List.map_append]
        exact congrArg _ catB_snoc.symm
      · have c2' : ((q.k.extract 0 3).toList == (strOfNums (114 :: twoL r)).toList) = false := by rw [str_eq]; exact decide_eq_false c2
        simp only [t0, t1, t5, t6, el.1, el.2.1, k0, k1, c1, hsl, h2, hz1, r3_app, c2', hw, go_sem]
        refine ⟨List.prefix_refl _, hi1, congrArg _ (no ?_).symm⟩
        unfold isR
        simp [c2]
    · simp only [t0, t1, t5, t6, el.1, el.2.1, k0, k1, c1, hw, go_sem]
      refine ⟨hi1, congrArg _ (no ?_).symm⟩
      unfold isR
      rw [decide_eq_false (by omega)]
      rfl
  · have hin : i = m.length := by omega
    subst hin
    rw [List.take_length] at t5
    simp only [t5, go_sem]
    rfl
theorem k_spec_l13Pool {r : Nat} (hr : r ≤ 1000000000) (hs : ∀ p ∈ m, p.v.size ≤ 40) (hm : Rows h 2 mv (prsL m)) (hl : m.length ≤ lim) : ∃ v hh, C T X n_spec_l13Pool [mv, .int .i64 (r : Int)] h = some (v, hh) ∧ h <+: hh ∧ Own hh h.length hh.length 1 y_int v (ints (bytL ((getK m (qK r)).getD noT))) := by
  refine C_ex t_spec_l13Pool rfl ?_
  unfold F_spec_l13Pool
  have h2 := k_spec_l13Two (X := X) (h := h) (n := r) hr
  have hz := twoT_size (n := r) (by omega)
  have hz1 : (⟨[113]⟩ : Array UInt8).size + (twoT r).size ≤ 9223372036854775807 := by rw [asz]; omega
  have hg := k_spec_l13Get (X := X) (k := qK r) hm hl
  unfold getV at hg
  have hsz := getK_size hs (k := qK r)
  obtain ⟨w, hw0⟩ : ∃ w, w = (getK m (qK r)).getD noT := ⟨_, rfl⟩
  rw [← hw0] at hg hsz ⊢
  simp only [h2, hz1, qK_app, hg, zeros, fillAt, go_sem]
  refine w_for w.size (fun i t loc h' => t 5 = .string w ∧ t 8 = .int .i64 i ∧ h <+: h' ∧ ∃ v, t 7 = v ∧ Own h' h.length h'.length 1 y_int v (ints ((List.range i).map fun i => ((byt w i : Nat) : Int)))) ⟨rfl, rfl, List.prefix_append _ _, _, rfl, Acc.new.own⟩ ?_
  rintro i t loc h' hi ⟨t5, t8, hp, v, t7, o⟩
  simp only [t5, t8, go_sem]
  refine w_open (by simp only [go_sem]; rfl) ?_ ?_ <;> intro hc
  · have hi1 : i < w.size := by omega
    have hw : IntKind.i64.wrap ((i : Int) + 1) = ((i + 1 : Nat) : Int) := w64 (by omega) (by omega)
    have e0 : ixV (.string w) (.int .i64 i) = some (.int .u8 (byt w i : Nat)) := ix_byt hi1
    have b0 := byt_lt (s := w) (i := i)
    have w0 : IntKind.i64.wrap ((byt w i : Nat) : Int) = ((byt w i : Nat) : Int) := w64 (by omega) (by omega)
    obtain ⟨v2, h2, c3, q1, q2, o2⟩ := o.push1 (pre_len hp) [.int .i64 ((byt w i : Nat) : Int)] rfl (by rw [ints_len]; unfold lim; simp; omega)
    rw [Nat.max_eq_right q1] at o2
    simp only [t5, t7, t8, e0, w0, zeros, fillAt, c3, hw, go_sem]
    exact ⟨hi1, pre_push hp (Nat.le_refl _) q1 q2, v2, rfl, by rw [List.map_append]; simpa [ints] using o2⟩
  · have hin : i = w.size := by omega
    subst hin
    simp only [t7, go_sem]
    refine ⟨o.live, ?_⟩
    obtain ⟨f1, f2⟩ := o.fin hp
    exact ⟨f1, f2⟩
theorem k_impl_CertParts {s0 : ByteArray} (hl0 : s0.size ≤ 1048576) : ∃ v hh, C T X n_impl_CertParts [.string s0] h = some (v, hh) ∧ h <+: hh ∧ Own hh h.length hh.length 1 y_string v (texts (cut s0)) := by
  refine C_ex t_impl_CertParts rfl ?_
  unfold F_impl_CertParts
  simp only [zeros, fillAt, go_sem]
  refine w_meas s0.size (fun n t loc h' => h <+: h' ∧ ∃ (s : ByteArray) (L : List ByteArray) (v : Value), t 0 = .string s ∧ t 3 = v ∧ s.size = n ∧ Own h' h.length h'.length 1 y_string v (texts L) ∧ L ++ cut s = cut s0 ∧ L.length + s.size ≤ s0.size) ⟨List.prefix_refl _, s0, [], _, rfl, rfl, rfl, Own.nil, rfl, by simp⟩ ?_
  rintro n t loc h' ⟨hp, s, L, v, t0, t3, hn, o, hc, hs⟩
  simp only [t0, t3, go_sem]
  refine w_open (by simp only [t0, t3, go_sem]; rfl) ?_ ?_ <;> intro hc'
  · have f1 : slSV (.string s) none (some (.int .i64 40)) = some (.string (s.extract 0 40)) := sl_to (b := 40) (by omega)
    have f2 : slSV (.string s) (some (.int .i64 40)) none = some (.string (s.extract 40 s.size)) := sl_from (a := 40) (by omega)
    obtain ⟨v2, h2, c3, q1, q2, o2⟩ := o.push1 (pre_len hp) [.string (s.extract 0 40)] rfl (by unfold texts lim; rw [List.length_map]; omega)
    rw [Nat.max_eq_right q1] at o2
    have e2 : (s.extract 40 s.size).size = s.size - 40 := by rw [ByteArray.size_extract]; omega
    simp only [t0, t3, f1, f2, zeros, fillAt, c3, go_sem]
    refine ⟨s.size - 40, by omega, pre_push hp (Nat.le_refl _) q1 q2, _, L ++ [s.extract 0 40], v2, rfl, rfl, e2, by simpa [texts, txR] using o2, ?_, by rw [e2]; simp; omega⟩
    rw [List.append_assoc, List.singleton_append, ← cut_big (by omega), hc]
  · by_cases c0 : s.size = 0
    · rw [cut_none c0, List.append_nil] at hc
      have c1 : (s.toList == ByteArray.toList ⟨⟨[]⟩⟩) = true := by rw [str_eq]; exact decide_eq_true (size_noT.1 c0)
      simp only [t0, t3, c1, go_sem]
      refine ⟨o.live, ?_⟩
      obtain ⟨f1, f2⟩ := o.fin hp
      exact ⟨f1, by rw [← hc]; exact f2⟩
    · rw [cut_small (by omega) c0] at hc
      obtain ⟨v2, h2, c3, q1, q2, o2⟩ := o.push1 (pre_len hp) [.string s] rfl (by unfold texts lim; rw [List.length_map]; omega)
      rw [Nat.max_eq_right q1] at o2
      have c1 : (s.toList == ByteArray.toList ⟨⟨[]⟩⟩) = false := by rw [str_eq]; exact decide_eq_false (fun e => c0 (size_noT.2 e))
      simp only [t0, t3, c1, zeros, fillAt, c3, go_sem]
      have o3 : Own h2 h.length h2.length 1 y_string v2 (texts (cut s0)) := by rw [← hc]; simpa [texts, txR] using o2
      refine ⟨o3.live, ?_⟩
      obtain ⟨f1, f2⟩ := o3.fin (pre_push hp (Nat.le_refl _) q1 q2)
      exact ⟨f1, f2⟩
theorem k_spec_CertParts {s0 : ByteArray} (hl0 : s0.size ≤ 1048576) : ∃ v hh, C T X n_spec_CertParts [.string s0] h = some (v, hh) ∧ h <+: hh ∧ Own hh h.length hh.length 1 y_string v (texts (cut s0)) := by
  refine C_ex t_spec_CertParts rfl ?_
  unfold F_spec_CertParts
  simp only [zeros, fillAt, go_sem]
  refine w_meas s0.size (fun n t loc h' => h <+: h' ∧ ∃ (s : ByteArray) (L : List ByteArray) (v : Value), t 0 = .string s ∧ t 3 = v ∧ s.size = n ∧ Own h' h.length h'.length 1 y_string v (texts L) ∧ L ++ cut s = cut s0 ∧ L.length + s.size ≤ s0.size) ⟨List.prefix_append _ _, s0, [], _, rfl, rfl, rfl, Acc.new.own, rfl, by simp⟩ ?_
  rintro n t loc h' ⟨hp, s, L, v, t0, t3, hn, o, hc, hs⟩
  simp only [t0, t3, go_sem]
  refine w_open (by simp only [t0, t3, go_sem]; rfl) ?_ ?_ <;> intro hc'
  · have f1 : slSV (.string s) none (some (.int .i64 40)) = some (.string (s.extract 0 40)) := sl_to (b := 40) (by omega)
    have f2 : slSV (.string s) (some (.int .i64 40)) none = some (.string (s.extract 40 s.size)) := sl_from (a := 40) (by omega)
    obtain ⟨v2, h2, c3, q1, q2, o2⟩ := o.push1 (pre_len hp) [.string (s.extract 0 40)] rfl (by unfold texts lim; rw [List.length_map]; omega)
    rw [Nat.max_eq_right q1] at o2
    have e2 : (s.extract 40 s.size).size = s.size - 40 := by rw [ByteArray.size_extract]; omega
    simp only [t0, t3, f1, f2, zeros, fillAt, c3, go_sem]
    refine ⟨s.size - 40, by omega, pre_push hp (Nat.le_refl _) q1 q2, _, L ++ [s.extract 0 40], v2, rfl, rfl, e2, by simpa [texts, txR] using o2, ?_, by rw [e2]; simp; omega⟩
    rw [List.append_assoc, List.singleton_append, ← cut_big (by omega), hc]
  · by_cases c0 : s.size = 0
    · rw [cut_none c0, List.append_nil] at hc
      have c1 : ¬ (s.size : Int) > 0 := by omega
      simp only [t0, t3, c1, go_sem]
      refine ⟨o.live, ?_⟩
      obtain ⟨f1, f2⟩ := o.fin hp
      exact ⟨f1, by rw [← hc]; exact f2⟩
    · rw [cut_small (by omega) c0] at hc
      obtain ⟨v2, h2, c3, q1, q2, o2⟩ := o.push1 (pre_len hp) [.string s] rfl (by unfold texts lim; rw [List.length_map]; omega)
      rw [Nat.max_eq_right q1] at o2
      have c1 : (s.size : Int) > 0 := by omega
      simp only [t0, t3, c1, zeros, fillAt, c3, go_sem]
      have o3 : Own h2 h.length h2.length 1 y_string v2 (texts (cut s0)) := by rw [← hc]; simpa [texts, txR] using o2
      refine ⟨o3.live, ?_⟩
      obtain ⟨f1, f2⟩ := o3.fin (pre_push hp (Nat.le_refl _) q1 q2)
      exact ⟨f1, f2⟩
theorem dec_bad {s : ByteArray} {i : Nat} (hi : i < s.size) (hb : byt s i < 48 ∨ 57 < byt s i) : rdDec s = none := by
  refine rdDec_none.2 fun n hn e => ?_
  subst e
  unfold decT at hi hb
  rw [strOfNums_size] at hi
  have h2 := byt_nums (L := decL n) (fun x hx => by have := decL_rng (n + 1) n (by omega) x hx; omega) hi
  have h3 := decL_rng (n + 1) n (by omega) ((decL n).getD i 0) (getD_mem hi)
  omega
theorem dec_val {s : ByteArray} {n : Nat} (h : rdDec s = some n) : valN s s.size = n := by
  obtain ⟨h1, h2⟩ := rdDec_some.1 h
  subst h2
  have e : (decT n).size = (decL n).length := by unfold decT; rw [strOfNums_size]
  have := valN_dec (n := n) (decL n).length (Nat.le_refl _)
  rw [List.take_length, decL_val (n + 1) n (by omega)] at this
  rw [e]
  omega
theorem k_spec_ReadDecimal {s : ByteArray} : C T X n_spec_ReadDecimal [.string s] h = some (.tuple #[.int .i64 (dcN s), .bool (dcB s)], h) := by
  have no : rdDec s = none → (Value.tuple ⟨[.int .i64 0, .bool false]⟩) = .tuple #[.int .i64 (dcN s), .bool (dcB s)] := fun e => by
    unfold dcN dcB
    rw [e]
    rfl
  refine C_go t_spec_ReadDecimal rfl ?_
  unfold F_spec_ReadDecimal
  by_cases c0 : (s.size : Int) > 10
  · simp only [c0, go_sem]
    refine no (rdDec_none.2 fun n hn e => ?_)
    subst e
    have := decT_size (n := n) (k := 10) (by omega) (by omega)
    omega
  simp only [c0, go_sem]
  refine w_for s.size (fun i t loc h' => h' = h ∧ t 0 = .string s ∧ t 4 = .int .i64 ((valN s i : Nat) : Int) ∧ t 5 = .int .i64 (i : Int) ∧ ∀ j, j < i → 48 ≤ byt s j ∧ byt s j ≤ 57) ⟨rfl, rfl, rfl, rfl, fun j hj => by omega⟩ ?_
  rintro i t loc h' hi ⟨rfl, t0, t4, t5, hj⟩
  simp only [t0, t5, go_sem]
  refine w_open (by simp only [go_sem]; rfl) ?_ ?_ <;> intro hc
  · have hi1 : i < s.size := by omega
    have hw : IntKind.i64.wrap ((i : Int) + 1) = ((i + 1 : Nat) : Int) := w64 (by omega) (by omega)
    have e0 : ixV (.string s) (.int .i64 i) = some (.int .u8 (byt s i : Nat)) := ix_byt hi1
    have b0 := byt_lt (s := s) (i := i)
    have hv := valN_lt (s := s) i fun j hj' => (hj j hj').2
    have h10 : 10 ^ i ≤ 10 ^ 10 := Nat.pow_le_pow_right (by omega) (by omega)
    by_cases c1 : ((byt s i : Nat) : Int) < 48
    · simp only [t0, t4, t5, e0, c1, go_sem]
      exact no (dec_bad hi1 (.inl (by omega)))
    by_cases c2 : ((byt s i : Nat) : Int) > 57
    · simp only [t0, t4, t5, e0, c1, c2, go_sem]
      exact no (dec_bad hi1 (.inr (by omega)))
    have w0 : IntKind.i64.wrap ((byt s i : Nat) : Int) = ((byt s i : Nat) : Int) := w64 (by omega) (by omega)
    have w1 : IntKind.i64.wrap (10 * ((valN s i : Nat) : Int)) = 10 * ((valN s i : Nat) : Int) := w64 (by omega) (by omega)
    have w2 : IntKind.i64.wrap (10 * ((valN s i : Nat) : Int) + ((byt s i : Nat) : Int)) = 10 * ((valN s i : Nat) : Int) + ((byt s i : Nat) : Int) := w64 (by omega) (by omega)
    have w3 : IntKind.i64.wrap (10 * ((valN s i : Nat) : Int) + ((byt s i : Nat) : Int) - 48) = ((valN s (i + 1) : Nat) : Int) := by rw [w64 (by omega) (by omega), valN]; omega
    simp only [t0, t4, t5, e0, c1, c2, w0, w1, w2, w3, hw, go_sem]
    refine ⟨hi1, fun j hj' => ?_⟩
    by_cases e : j = i
    · subst e; omega
    · exact hj j (by omega)
  · have hin : i = s.size := by omega
    subst hin
    have hv := valN_lt (s := s) s.size fun j hj' => (hj j hj').2
    have h10 : 10 ^ s.size ≤ 10 ^ 10 := Nat.pow_le_pow_right (by omega) (by omega)
    by_cases c1 : ((valN s s.size : Nat) : Int) > 1000000000
    · simp only [t0, t4, c1, go_sem]
      refine no ?_
      cases e : rdDec s with
      | none => rfl
      | some n => have h1 := dec_val e; have h2 := (rdDec_some.1 e).1; omega
    have hd := k_spec_Decimal (X := X) (h := h') (n := valN s s.size) (by omega)
    by_cases c2 : decT (valN s s.size) = s
    · have c2' : ((decT (valN s s.size)).toList == s.toList) = true := by rw [str_eq]; exact decide_eq_true c2
      have e : rdDec s = some (valN s s.size) := rdDec_some.2 ⟨by omega, c2.symm⟩
      simp only [t0, t4, c1, hd, c2', go_sem]
      unfold dcN dcB
      rw [e]
      rfl
    · have c2' : ((decT (valN s s.size)).toList == s.toList) = false := by rw [str_eq]; exact decide_eq_false c2
      simp only [t0, t4, c1, hd, c2', go_sem]
      refine no ?_
      cases e : rdDec s with
      | none => rfl
      | some n => have h1 := dec_val e; have h2 := (rdDec_some.1 e).2; rw [h1] at c2; exact absurd h2.symm c2
end
end Go.Proofs.YtjgacjidaeahdaaGreatDoor.Ab
set_option linter.unusedSimpArgs false
set_option linter.unusedVariables false
set_option linter.unnecessarySimpa false
set_option maxHeartbeats 4000000
namespace Go.Proofs.YtjgacjidaeahdaaGreatDoor.Ab
open Go.RowKit
theorem strOfNums_app' {l m : List Int} : strOfNums l ++ strOfNums m = strOfNums (l ++ m) := by
  apply ByteArray.ext
  apply Array.toList_inj.1
  rw [ByteArray.data_append, Array.toList_append, strOfNums_data, strOfNums_data, strOfNums_data, List.map_append]
theorem ext_tail {c : Int} {L : List Int} : (strOfNums (c :: L)).extract 1 (strOfNums (c :: L)).size = strOfNums L := by
  apply ByteArray.ext
  apply Array.toList_inj.1
  rw [ByteArray.data_extract, Array.toList_extract, strOfNums_data, strOfNums_data, strOfNums_size]
  simp
  exact List.take_of_length_le (by simp)
theorem head_one {s : ByteArray} (h : 1 ≤ s.size) : s.extract 0 1 = strOfNums [((byt s 0 : Nat) : Int)] := by
  have hs : (s.extract 0 1).size = 1 := by rw [ByteArray.size_extract]; omega
  have hb := byt_lt (s := s) (i := 0)
  refine bytes_ext (by rw [hs]; rfl) (fun x hx => ?_) fun i hi => ?_
  · simp at hx; omega
  · have : i = 0 := by simpa using hi
    subst this
    have := byt_ext (s := s) (a := 0) (b := 1) (i := 0) (by omega) h
    rw [this]
    rfl
theorem cons_iff {s : ByteArray} {c : Nat} {L : List Int} (hc : c < 256) (h : 1 ≤ s.size) : s = strOfNums ((c : Int) :: L) ↔ byt s 0 = c ∧ s.extract 1 s.size = strOfNums L := by
  constructor
  · intro e
    subst e
    exact ⟨by rw [k_byte (by omega)]; omega, ext_tail⟩
  · rintro ⟨h1, h2⟩
    rw [← ext_cat h, head_one h, h1, h2, strOfNums_app']
    rfl
theorem pT_iff {v : ByteArray} {R : Nat} (hR : R ≤ 6) (h : 1 ≤ v.size) : (∃ r, r < R ∧ v = pT r) ↔ byt v 0 = 112 ∧ ∃ n, rdDec (v.extract 1 v.size) = some n ∧ n < R := by
  have key : ∀ r, v = pT r ↔ byt v 0 = 112 ∧ v.extract 1 v.size = decT r := fun r => cons_iff (c := 112) (by omega) h
  constructor
  · rintro ⟨r, h1, h2⟩
    obtain ⟨h3, h4⟩ := (key r).1 h2
    exact ⟨h3, r, rdDec_some.2 ⟨by omega, h4⟩, h1⟩
  · rintro ⟨h1, n, h2, h3⟩
    exact ⟨n, h3, (key n).2 ⟨h1, (rdDec_some.1 h2).2⟩⟩
theorem kv1 {k : ByteArray} {i : Nat} (hk : 1 ≤ k.size) (h0 : byt k 0 = 118) : rdTwo (k.extract 1 k.size) = some i ↔ k = vK i ∧ i < 100 := key1 (c := 118) (by omega) hk h0
theorem kq1 {k : ByteArray} {i : Nat} (hk : 1 ≤ k.size) (h0 : byt k 0 = 113) : rdTwo (k.extract 1 k.size) = some i ↔ k = qK i ∧ i < 100 := key1 (c := 113) (by omega) hk h0
theorem ke2 {k : ByteArray} {a b : Nat} (hk : k.size = 5) (h0 : byt k 0 = 101) : (rdTwo (k.extract 1 3) = some a ∧ rdTwo (k.extract 3 5) = some b) ↔ k = eK a b ∧ a < 100 ∧ b < 100 := key2 (c := 101) (by omega) hk h0
theorem kr2 {k : ByteArray} {a b : Nat} (hk : k.size = 5) (h0 : byt k 0 = 114) : (rdTwo (k.extract 1 3) = some a ∧ rdTwo (k.extract 3 5) = some b) ↔ k = rK a b ∧ a < 100 ∧ b < 100 := key2 (c := 114) (by omega) hk h0
theorem vK_inj {a b : Nat} (h : vK a = vK b) : a = b := by
  have := strOfNums_inj (byte_rng (by omega) twoL_rng) (byte_rng (by omega) twoL_rng) h
  have e : twoL a = twoL b := (List.cons.inj this).2
  have e1 := twoL_val (n := a)
  rw [e, twoL_val] at e1
  omega
theorem eK_inj {a b a' b' : Nat} (ha : a < 100) (ha' : a' < 100) (h : eK a b = eK a' b') : a = a' ∧ b = b' := by
  have := strOfNums_inj (byte_rng (by omega) two2_rng) (byte_rng (by omega) two2_rng) h
  have e : twoL a ++ twoL b = twoL a' ++ twoL b' := (List.cons.inj this).2
  obtain ⟨e1, e2⟩ := List.append_inj e (by rw [twoL_len ha, twoL_len ha'])
  have f1 := twoL_val (n := a)
  have f2 := twoL_val (n := b)
  rw [e1, twoL_val] at f1
  rw [e2, twoL_val] at f2
  omega
theorem eK_size {a b : Nat} (ha : a < 100) (hb : b < 100) : (eK a b).size = 5 := by
  unfold eK eL
  rw [strOfNums_size, List.length_cons, List.length_append, twoL_len ha, twoL_len hb]
theorem vK_size {a : Nat} (ha : a < 100) : (vK a).size = 3 := by
  unfold vK vL
  rw [strOfNums_size, List.length_cons, twoL_len ha]
theorem qK_size {a : Nat} (ha : a < 100) : (qK a).size = 3 := by
  unfold qK qL
  rw [strOfNums_size, List.length_cons, twoL_len ha]
section
variable {m : List Pr} {p : Pr} {R : Nat}
theorem id_none (hk : 1 ≤ p.k.size) (h0 : byt p.k 0 = 118) (e : rdTwo (p.k.extract 1 p.k.size) = none) : ¬ IdOk R p := by
  rintro ⟨i, h1, h2, _⟩
  rw [(kv1 hk h0).2 ⟨h2, by omega⟩] at e
  cases e
theorem id_some {i : Nat} (hk : 1 ≤ p.k.size) (h0 : byt p.k 0 = 118) (e : rdTwo (p.k.extract 1 p.k.size) = some i) : IdOk R p ↔ i < 12 ∧ (p.v = aT ∨ p.v = lT ∨ ∃ r, r < R ∧ p.v = pT r) := by
  have hi := (kv1 hk h0).1 e
  constructor
  · rintro ⟨j, h1, h2, h3⟩
    rw [vK_inj (hi.1.symm.trans h2)]
    exact ⟨h1, h3⟩
  · rintro ⟨h1, h2⟩
    exact ⟨i, h1, hi.1, h2⟩
theorem id_noT : (∃ r, r < R ∧ noT = pT r) → False := by
  rintro ⟨r, _, h⟩
  have : noT.size = (pT r).size := by rw [h]
  unfold pT at this
  rw [strOfNums_size] at this
  have h0 : noT.size = 0 := rfl
  simp [h0] at this
theorem link_size (h : LinkI m p) : p.k.size = 5 ∧ p.v.size = 3 := by
  obtain ⟨a, b, h1, h2, h3, h4, _⟩ := h
  exact ⟨by rw [h3]; exact eK_size (by omega) h2, h4.1⟩
theorem link_none (hk : p.k.size = 5) (h0 : byt p.k 0 = 101) (e : rdTwo (p.k.extract 1 3) = none ∨ rdTwo (p.k.extract 3 5) = none) : ¬ LinkI m p := by
  rintro ⟨a, b, h1, h2, h3, _⟩
  obtain ⟨k1, k2⟩ := (ke2 hk h0).2 ⟨h3, by omega, h2⟩
  rw [k1, k2] at e
  rcases e with e | e <;> cases e
theorem link_some {a b : Nat} (hk : p.k.size = 5) (h0 : byt p.k 0 = 101) (e1 : rdTwo (p.k.extract 1 3) = some a) (e2 : rdTwo (p.k.extract 3 5) = some b) : LinkI m p ↔ a < b ∧ Worths p.v ∧ Jn m a ∧ Jn m b := by
  obtain ⟨k1, k2, k3⟩ := (ke2 hk h0).1 ⟨e1, e2⟩
  constructor
  · rintro ⟨a', b', h1, h2, h3, h4, h5, h6⟩
    obtain ⟨f1, f2⟩ := eK_inj (by omega) (by omega) (k1.symm.trans h3)
    subst f1 f2
    exact ⟨h1, h4, h5, h6⟩
  · rintro ⟨h1, h2, h3, h4⟩
    exact ⟨a, b, h1, k3, k1, h2, h3, h4⟩
theorem linkS_none (hk : p.k.size = 5) (h0 : byt p.k 0 = 101) (e : rdTwo (p.k.extract 1 3) = none ∨ rdTwo (p.k.extract 3 5) = none) : ¬ LinkS m p := by
  rintro ⟨a, b, h1, h2, h3, _⟩
  obtain ⟨k1, k2⟩ := (ke2 hk h0).2 ⟨h3, by omega, h2⟩
  rw [k1, k2] at e
  rcases e with e | e <;> cases e
theorem linkS_some {a b : Nat} (hk : p.k.size = 5) (h0 : byt p.k 0 = 101) (e1 : rdTwo (p.k.extract 1 3) = some a) (e2 : rdTwo (p.k.extract 3 5) = some b) : LinkS m p ↔ a < b ∧ Worths p.v ∧ (getK m (vK a)).isSome = true ∧ (getK m (vK b)).isSome = true := by
  obtain ⟨k1, k2, k3⟩ := (ke2 hk h0).1 ⟨e1, e2⟩
  constructor
  · rintro ⟨a', b', h1, h2, h3, h4, h5, h6⟩
    obtain ⟨f1, f2⟩ := eK_inj (by omega) (by omega) (k1.symm.trans h3)
    subst f1 f2
    exact ⟨h1, h4, h5, h6⟩
  · rintro ⟨h1, h2, h3, h4⟩
    exact ⟨a, b, h1, k3, k1, h2, h3, h4⟩
theorem q_none {P : Nat → Prop} (hR : R ≤ 100) (hk : 1 ≤ p.k.size) (h0 : byt p.k 0 = 113) (e : rdTwo (p.k.extract 1 p.k.size) = none) : ¬ ∃ r, r < R ∧ p.k = qK r ∧ P r := by
  rintro ⟨i, h1, h2, _⟩
  rw [(kq1 hk h0).2 ⟨h2, by omega⟩] at e
  cases e
theorem q_some {P : Nat → Prop} {i : Nat} (hk : 1 ≤ p.k.size) (h0 : byt p.k 0 = 113) (e : rdTwo (p.k.extract 1 p.k.size) = some i) : (∃ r, r < R ∧ p.k = qK r ∧ P r) ↔ i < R ∧ P i := by
  have hi := (kq1 hk h0).1 e
  constructor
  · rintro ⟨j, h1, h2, h3⟩
    rw [qK_inj (hi.1.symm.trans h2)]
    exact ⟨h1, h3⟩
  · rintro ⟨h1, h2⟩
    exact ⟨i, h1, hi.1, h2⟩
theorem r_none {P : Nat → Nat → Prop} (hR : R ≤ 100) (hk : p.k.size = 5) (h0 : byt p.k 0 = 114) (e : rdTwo (p.k.extract 1 3) = none ∨ rdTwo (p.k.extract 3 5) = none) : ¬ ∃ r i, r < R ∧ i < 100 ∧ p.k = rK r i ∧ P r i := by
  rintro ⟨a, b, h1, h2, h3, _⟩
  obtain ⟨k1, k2⟩ := (kr2 hk h0).2 ⟨h3, by omega, h2⟩
  rw [k1, k2] at e
  rcases e with e | e <;> cases e
theorem r_some {P : Nat → Nat → Prop} {a b : Nat} (hR : R ≤ 100) (hk : p.k.size = 5) (h0 : byt p.k 0 = 114) (e1 : rdTwo (p.k.extract 1 3) = some a) (e2 : rdTwo (p.k.extract 3 5) = some b) : (∃ r i, r < R ∧ i < 100 ∧ p.k = rK r i ∧ P r i) ↔ a < R ∧ P a b := by
  obtain ⟨k1, k2, k3⟩ := (kr2 hk h0).1 ⟨e1, e2⟩
  constructor
  · rintro ⟨a', b', h1, h2, h3, h4⟩
    obtain ⟨f1, f2⟩ := rK_inj2 (by omega) (by omega) (k1.symm.trans h3)
    subst f1 f2
    exact ⟨h1, h4⟩
  · rintro ⟨h1, h2⟩
    exact ⟨a, b, h1, k3, k1, h2⟩
theorem r_size {P : Nat → Nat → Prop} (hR : R ≤ 100) (h : ∃ r i, r < R ∧ i < 100 ∧ p.k = rK r i ∧ P r i) : p.k.size = 5 := by
  obtain ⟨a, b, h1, h2, h3, _⟩ := h
  rw [h3]
  exact rK_size (by omega) h2
theorem parts_ex (m : List Pr) (r : Nat) : ∃ n, IsParts m r n := by
  have key : ∀ k, k ≤ 100 → (∀ i, i < k → (getK m (rK r i)).isSome = true) ∨ ∃ n, IsParts m r n := by
    intro k
    induction k with
    | zero => intro _; exact .inl fun i hi => by omega
    | succ k ih =>
      intro hk
      rcases ih (by omega) with h | h
      · cases e : getK m (rK r k) with
        | none => exact .inr ⟨k, by omega, h, .inr e⟩
        | some v =>
          refine .inl fun i hi => ?_
          by_cases c : i = k
          · rw [c, e]; rfl
          · exact h i (by omega)
      · exact .inr h
  rcases key 100 (Nat.le_refl _) with h | h
  · exact ⟨100, Nat.le_refl _, h, .inl rfl⟩
  · exact h
end
end Go.Proofs.YtjgacjidaeahdaaGreatDoor.Ab
set_option linter.unusedSimpArgs false
set_option linter.unusedVariables false
set_option linter.unnecessarySimpa false
set_option maxHeartbeats 4000000
namespace Go.Proofs.YtjgacjidaeahdaaGreatDoor.Ab
open Go.RowKit
def rvT : Option (Nat × Nat) → Value
  | some p => .tuple ⟨[.int .i64 p.1, .int .i64 p.2, .bool true]⟩
  | none => .tuple ⟨[.int .i64 0, .int .i64 0, .bool false]⟩
def rvAt (s : ByteArray) (a : Int) : Option (Nat × Nat) := if 0 ≤ a ∧ a ≤ s.size then rdVar s a.toNat else none
theorem rvAt_bnd {s : ByteArray} {a : Int} {m k : Nat} (h : rvAt s a = some (m, k)) : m ≤ 1000000000 ∧ a < k ∧ k ≤ s.size := by
  unfold rvAt rdVar at h
  split at h
  · have := rvGo_bnd h; omega
  · cases h
theorem rvGo_yes {s : ByteArray} {a f i n u : Nat} (h1 : i < s.size) (h2 : byt s i < 128) (h3 : ¬ ((byt s i = 0 ∧ a < i) ∨ 1000000000 < n + byt s i % 128 * u)) : rvGo s a (f + 1) i n u = some (n + byt s i % 128 * u, i + 1) := by
  unfold rvGo; rw [if_pos h1, if_pos h2, if_neg h3]
theorem rvGo_bad {s : ByteArray} {a f i n u : Nat} (h1 : i < s.size) (h2 : byt s i < 128) (h3 : (byt s i = 0 ∧ a < i) ∨ 1000000000 < n + byt s i % 128 * u) : rvGo s a (f + 1) i n u = none := by
  unfold rvGo; rw [if_pos h1, if_pos h2, if_pos h3]
theorem rvGo_more {s : ByteArray} {a f i n u : Nat} (h1 : i < s.size) (h2 : ¬ byt s i < 128) : rvGo s a (f + 1) i n u = rvGo s a f (i + 1) (n + byt s i % 128 * u) (u * 128) := by
  rw [rvGo, if_pos h1, if_neg h2]
theorem rvGo_out {s : ByteArray} {a f i n u : Nat} (h1 : ¬ i < s.size) : rvGo s a f i n u = none := by
  cases f with
  | zero => rfl
  | succ f => unfold rvGo; rw [if_neg h1]
section
variable {X : CallF} {h : Heap} {s : ByteArray} {a : Int}
/-- The numbers fit. -/
theorem rv_fit {n u b j : Nat} (hu : u = 128 ^ j) (hj : j < 5) (hn : n < u) (hb : b < 256) : u ≤ 268435456 ∧ b % 128 * u ≤ 127 * u ∧ n + b % 128 * u < u * 128 ∧ u * 128 = 128 ^ (j + 1) := by
  have h1 : u ≤ 128 ^ 4 := by rw [hu]; exact Nat.pow_le_pow_right (by omega) (by omega)
  have h2 : b % 128 * u ≤ 127 * u := Nat.mul_le_mul_right u (by omega)
  refine ⟨by omega, h2, by omega, by rw [hu, Nat.pow_succ]⟩
theorem k_impl_ReadVar (hs : s.size ≤ lim) (ha : I64 a) : C T X n_impl_ReadVar [.string s, .int .i64 a] h = some (rvT (rvAt s a), h) := by
  unfold lim at hs
  refine C_go t_impl_ReadVar rfl ?_
  unfold F_impl_ReadVar rvAt
  by_cases hc : 0 ≤ a ∧ a ≤ s.size
  rotate_left
  · have hc' : (decide (0 ≤ a) && decide (a ≤ (s.size : Int))) = false := by simp only [Bool.and_eq_false_iff, decide_eq_false_iff_not]; omega
    rw [if_neg hc]
    simp only [k_impl_in, hc', go_sem]
    rfl
  have hc' : (decide (0 ≤ a) && decide (a ≤ (s.size : Int))) = true := by simp only [Bool.and_eq_true, decide_eq_true_eq]; exact hc
  rw [if_pos hc]
  obtain ⟨k, rfl⟩ := Int.eq_ofNat_of_zero_le hc.1
  rw [Int.toNat_natCast]
  have hw5 : IntKind.i64.wrap ((k : Int) + 5) = k + 5 := w64 (by omega) (by omega)
  simp only [k_impl_in, hc', go_sem]
  refine w_for 5 (fun j t loc h' => h' = h ∧ t 0 = .string s ∧ t 1 = .int .i64 k ∧ t 9 = .int .i64 (k + j : Nat) ∧ ∃ n u : Nat, t 7 = .int .i64 n ∧ t 8 = .int .i64 u ∧ u = 128 ^ j ∧ n < u ∧ rdVar s k = rvGo s k (5 - j) (k + j) n u) ⟨rfl, rfl, rfl, rfl, 0, 1, rfl, rfl, rfl, by omega, rfl⟩ ?_
  rintro j t loc h' hj ⟨rfl, t0, t1, t9, n, u, t7, t8, hu, hn, hr⟩
  by_cases h1 : k + j < s.size
  rotate_left
  · have h1' : ¬ ((k + j : Nat) : Int) < (s.size : Int) := by omega
    rw [rvGo_out h1] at hr
    simp only [t0, t1, t7, t8, t9, h1', hw5, hr, go_sem]
    rfl
  have h1' : ((k + j : Nat) : Int) < (s.size : Int) := by omega
  by_cases h2 : j < 5
  rotate_left
  · have h2' : ¬ ((k + j : Nat) : Int) < (k : Int) + 5 := by omega
    have : j = 5 := by omega
    subst this
    have hr' : rdVar s k = none := hr
    simp only [t0, t1, t7, t8, t9, h1', h2', hw5, hr', go_sem]
    rfl
  have h2' : ((k + j : Nat) : Int) < (k : Int) + 5 := by omega
  obtain ⟨b, hb⟩ : ∃ b, b = byt s (k + j) := ⟨_, rfl⟩
  have hb256 : b < 256 := by rw [hb]; exact byt_lt
  obtain ⟨f1, f2, f3, f4⟩ := rv_fit hu h2 hn hb256
  have hix := ix_byt h1
  rw [← hb] at hix
  have hwb : IntKind.i64.wrap (b : Int) = b := w64 (by omega) (by omega)
  have hm1 : IntKind.i64.wrap (((b % 128 : Nat) : Int) * (u : Int)) = ((b % 128 * u : Nat) : Int) := by rw [← Int.natCast_mul]; exact w64 (by omega) (by omega)
  have hm2 : IntKind.i64.wrap ((n : Int) + ((b % 128 * u : Nat) : Int)) = ((n + b % 128 * u : Nat) : Int) := w64 (by omega) (by omega)
  have hm3 : IntKind.i64.wrap ((u : Int) * 128) = ((u * 128 : Nat) : Int) := w64 (by omega) (by omega)
  have hnx : IntKind.i64.wrap (((k + j : Nat) : Int) + 1) = ((k + (j + 1) : Nat) : Int) := w64 (by omega) (by omega)
  have e5 : 5 - j = (5 - (j + 1)) + 1 := by omega
  rw [e5] at hr
  by_cases h3 : b < 128
  rotate_left
  · have h3' : ¬ (b : Int) < 128 := by omega
    rw [rvGo_more h1 (by rw [← hb]; exact h3), ← hb] at hr
    simp only [t0, t1, t7, t8, t9, h1', h2', hw5, hix, hwb, tmod128, hm1, hm2, hm3, h3', hnx, go_sem]
    exact ⟨h2, _, _, rfl, rfl, f4, f3, hr⟩
  have h3' : (b : Int) < 128 := by omega
  by_cases h4 : 1000000000 < n + b % 128 * u
  · have h4' : (1000000000 : Int) < ((n + b % 128 * u : Nat) : Int) := by omega
    rw [rvGo_bad h1 (by rw [← hb]; exact h3) (by rw [← hb]; exact .inr h4)] at hr
    by_cases h5 : b = 0
    · by_cases h6 : 0 < j
      · have h6' : (k : Int) < ((k + j : Nat) : Int) := by omega
        simp only [t0, t1, t7, t8, t9, h1', h2', hw5, hix, hwb, tmod128, hm1, hm2, hm3, h3', decide_eq_true (show ((b : Nat) : Int) = 0 by omega), h6', hr, go_sem]
        rfl
      · have h6' : ¬ (k : Int) < ((k + j : Nat) : Int) := by omega
        simp only [t0, t1, t7, t8, t9, h1', h2', hw5, hix, hwb, tmod128, hm1, hm2, hm3, h3', decide_eq_true (show ((b : Nat) : Int) = 0 by omega), h6', h4', hr, go_sem]
        rfl
    · have h5' : ¬ ((b : Nat) : Int) = 0 := by omega
      simp only [t0, t1, t7, t8, t9, h1', h2', hw5, hix, hwb, tmod128, hm1, hm2, hm3, h3', h5', h4', hr, go_sem]
      rfl
  have h4' : ¬ (1000000000 : Int) < ((n + b % 128 * u : Nat) : Int) := by omega
  by_cases h5 : b = 0
  · by_cases h6 : 0 < j
    · have h6' : (k : Int) < ((k + j : Nat) : Int) := by omega
      rw [rvGo_bad h1 (by rw [← hb]; exact h3) (by rw [← hb]; exact .inl ⟨h5, by omega⟩)] at hr
      simp only [t0, t1, t7, t8, t9, h1', h2', hw5, hix, hwb, tmod128, hm1, hm2, hm3, h3', decide_eq_true (show ((b : Nat) : Int) = 0 by omega), h6', hr, go_sem]
      rfl
    · have h6' : ¬ (k : Int) < ((k + j : Nat) : Int) := by omega
      rw [rvGo_yes h1 (by rw [← hb]; exact h3) (by rw [← hb]; omega), ← hb] at hr
      simp only [t0, t1, t7, t8, t9, h1', h2', hw5, hix, hwb, tmod128, hm1, hm2, hm3, h3', decide_eq_true (show ((b : Nat) : Int) = 0 by omega), h6', h4', hnx, hr, go_sem]
      rfl
  · have h5' : ¬ ((b : Nat) : Int) = 0 := by omega
    rw [rvGo_yes h1 (by rw [← hb]; exact h3) (by rw [← hb]; omega), ← hb] at hr
    simp only [t0, t1, t7, t8, t9, h1', h2', hw5, hix, hwb, tmod128, hm1, hm2, hm3, h3', h5', h4', hnx, hr, go_sem]
    rfl
theorem k_spec_ReadVar (hs : s.size ≤ lim) (ha : I64 a) : C T X n_spec_ReadVar [.string s, .int .i64 a] h = some (rvT (rvAt s a), h) := by
  unfold lim at hs
  refine C_go t_spec_ReadVar rfl ?_
  unfold F_spec_ReadVar rvAt
  by_cases hc : 0 ≤ a ∧ a ≤ s.size
  rotate_left
  · have hc' : (decide (0 ≤ a) && decide (a ≤ (s.size : Int))) = false := by simp only [Bool.and_eq_false_iff, decide_eq_false_iff_not]; omega
    rw [if_neg hc]
    simp only [k_spec_l01In, hc', go_sem]
    rfl
  have hc' : (decide (0 ≤ a) && decide (a ≤ (s.size : Int))) = true := by simp only [Bool.and_eq_true, decide_eq_true_eq]; exact hc
  rw [if_pos hc]
  obtain ⟨k, rfl⟩ := Int.eq_ofNat_of_zero_le hc.1
  rw [Int.toNat_natCast]
  have hw5 : IntKind.i64.wrap ((k : Int) + 5) = k + 5 := w64 (by omega) (by omega)
  simp only [k_spec_l01In, hc', go_sem]
  refine w_for 5 (fun j t loc h' => h' = h ∧ t 0 = .string s ∧ t 1 = .int .i64 k ∧ t 9 = .int .i64 (k + j : Nat) ∧ (∀ x ∈ segN s k (k + j), 128 ≤ x ∧ x < 256) ∧ k + j ≤ s.size ∧ ∃ n u : Nat, t 7 = .int .i64 n ∧ t 8 = .int .i64 u ∧ u = 128 ^ j ∧ n < u ∧ n = valB (segN s k (k + j)) ∧ (segN s k (k + j)).length = j ∧ rdVar s k = rvGo s k (5 - j) (k + j) n u)
    ⟨rfl, rfl, rfl, rfl, (by rw [Nat.add_zero, segN_nil]; intro x hx; cases hx), by omega, 0, 1, rfl, rfl, rfl, by omega, by rw [Nat.add_zero, segN_nil]; rfl, by rw [Nat.add_zero, segN_nil]; rfl, rfl⟩ ?_
  rintro j t loc h' hj ⟨rfl, t0, t1, t9, hall, hle, n, u, t7, t8, hu, hn, hval, hsl, hr⟩
  by_cases h1 : k + j < s.size
  rotate_left
  · have h1' : ¬ ((k + j : Nat) : Int) < (s.size : Int) := by omega
    rw [rvGo_out h1] at hr
    simp only [t0, t1, t7, t8, t9, h1', hw5, hr, go_sem]
    rfl
  have h1' : ((k + j : Nat) : Int) < (s.size : Int) := by omega
  by_cases h2 : j < 5
  rotate_left
  · have h2' : ¬ ((k + j : Nat) : Int) < (k : Int) + 5 := by omega
    have : j = 5 := by omega
    subst this
    have hr' : rdVar s k = none := hr
    simp only [t0, t1, t7, t8, t9, h1', h2', hw5, hr', go_sem]
    rfl
  have h2' : ((k + j : Nat) : Int) < (k : Int) + 5 := by omega
  obtain ⟨b, hb⟩ : ∃ b, b = byt s (k + j) := ⟨_, rfl⟩
  have hb256 : b < 256 := by rw [hb]; exact byt_lt
  obtain ⟨f1, f2, f3, f4⟩ := rv_fit hu h2 hn hb256
  have hix := ix_byt h1
  rw [← hb] at hix
  have hsg := segN_succ (s := s) (a := k) (b := k + j) (by omega) h1
  rw [← hb] at hsg
  have hvs : valB (segN s k (k + j + 1)) = n + b % 128 * u := by
    rw [hsg, valB_snoc, hsl, ← hval, ← hu, Int.toNat_natCast]
  have hwb : IntKind.i64.wrap (b : Int) = b := w64 (by omega) (by omega)
  have hm1 : IntKind.i64.wrap (((b % 128 : Nat) : Int) * (u : Int)) = ((b % 128 * u : Nat) : Int) := by rw [← Int.natCast_mul]; exact w64 (by omega) (by omega)
  have hm2 : IntKind.i64.wrap ((n : Int) + ((b % 128 * u : Nat) : Int)) = ((n + b % 128 * u : Nat) : Int) := w64 (by omega) (by omega)
  have hm3 : IntKind.i64.wrap ((u : Int) * 128) = ((u * 128 : Nat) : Int) := w64 (by omega) (by omega)
  have hnx : IntKind.i64.wrap (((k + j : Nat) : Int) + 1) = ((k + (j + 1) : Nat) : Int) := w64 (by omega) (by omega)
  have e5 : 5 - j = (5 - (j + 1)) + 1 := by omega
  rw [e5] at hr
  by_cases h3 : b < 128
  rotate_left
  · have h3' : ¬ (b : Int) < 128 := by omega
    rw [rvGo_more h1 (by rw [← hb]; exact h3), ← hb] at hr
    simp only [t0, t1, t7, t8, t9, h1', h2', hw5, hix, hwb, tmod128, hm1, hm2, hm3, h3', hnx, go_sem]
    refine ⟨h2, ?_, by omega, _, _, rfl, rfl, f4, f3, hvs.symm, ?_, hr⟩
    · intro x hx
      rw [← Nat.add_assoc, hsg] at hx
      rcases List.mem_append.1 hx with hx | hx
      · exact hall x hx
      · rw [List.mem_singleton.1 hx]; omega
    · rw [← Nat.add_assoc, hsg, List.length_append, hsl]; rfl
  have h3' : (b : Int) < 128 := by omega
  by_cases h4 : 1000000000 < n + b % 128 * u
  · have h4' : (1000000000 : Int) < ((n + b % 128 * u : Nat) : Int) := by omega
    rw [rvGo_bad h1 (by rw [← hb]; exact h3) (by rw [← hb]; exact .inr h4)] at hr
    simp only [t0, t1, t7, t8, t9, h1', h2', hw5, hix, hwb, tmod128, hm1, hm2, hm3, h3', h4', hr, go_sem]
    rfl
  have h4' : ¬ (1000000000 : Int) < ((n + b % 128 * u : Nat) : Int) := by omega
  have cv := k_spec_l01Var (X := X) (h := h') (n := n + b % 128 * u) (by omega)
  have hslS : slSV (.string s) (some (.int .i64 (k : Int))) (some (.int .i64 ((k + (j + 1) : Nat) : Int))) = some (.string (s.extract k (k + (j + 1)))) := by
    simp only [slSV, bnd]
    rw [if_pos ⟨by omega, by omega, by omega⟩, Int.toNat_natCast, Int.toNat_natCast]
  have hform := varL_form (l := segN s k (k + j)) (b := (b : Int)) hall ⟨by omega, by omega⟩
  rw [← hsg, hvs] at hform
  have heq : (varT (n + b % 128 * u) = s.extract k (k + (j + 1))) ↔ ¬ (b = 0 ∧ 0 < j) := by
    rw [extract_seg, ← Nat.add_assoc]
    unfold varT
    constructor
    · intro h
      have := hform.1 (strOfNums_inj (varL_rng _ _ (Nat.lt_succ_self _)) segN_rng h)
      rintro ⟨h5, h6⟩
      rcases this with q | q
      · rw [q] at hsl; simp at hsl; omega
      · omega
    · intro h
      rw [hform.2]
      by_cases h5 : j = 0
      · refine .inl (List.length_eq_zero_iff.1 ?_)
        omega
      · exact .inr (by omega)
  by_cases h5 : b = 0 ∧ 0 < j
  · have hne : (decide (varT (n + b % 128 * u) = s.extract k (k + (j + 1)))) = false := decide_eq_false fun h => heq.1 h h5
    rw [rvGo_bad h1 (by rw [← hb]; exact h3) (by rw [← hb]; exact .inl ⟨h5.1, by omega⟩)] at hr
    simp only [t0, t1, t7, t8, t9, h1', h2', hw5, hix, hwb, tmod128, hm1, hm2, hm3, h3', h4', hnx, cv, hslS, str_eq, hne, hr, List.prefix_refl, go_sem]
    rfl
  · have hne : (decide (varT (n + b % 128 * u) = s.extract k (k + (j + 1)))) = true := decide_eq_true (heq.2 h5)
    rw [rvGo_yes h1 (by rw [← hb]; exact h3) (by rw [← hb]; omega), ← hb] at hr
    simp only [t0, t1, t7, t8, t9, h1', h2', hw5, hix, hwb, tmod128, hm1, hm2, hm3, h3', h4', hnx, cv, hslS, str_eq, hne, hr, List.prefix_refl, go_sem]
    rfl
end
end Go.Proofs.YtjgacjidaeahdaaGreatDoor.Ab
set_option linter.unusedSimpArgs false
set_option linter.unusedVariables false
set_option linter.unnecessarySimpa false
set_option maxHeartbeats 4000000
namespace Go.Proofs.YtjgacjidaeahdaaGreatDoor.Ab
open Go.RowKit
/-- A reader's place, and the places of its fields. -/
def pk (b k : Nat) : Value := .pointer (some ⟨b, k, some 3⟩)
def rdB (ty : TypeId) (s : ByteArray) (p : Nat × Bool) : Blk := ⟨[.string s, .int .i64 (p.1 : Nat), .bool p.2], 3, ty, true⟩
/-- The next number, and the reader behind it. -/
def numStep (s : ByteArray) (p : Nat × Bool) : Int × (Nat × Bool) := match p.2 with
  | true => (0, (p.1, true))
  | false => match rvAt s p.1 with
    | some (n, k) => (n, (k, false))
    | none => (0, (p.1, true))
section
variable {X : CallF} {h : Heap} {b : Nat} {ty : TypeId} {s : ByteArray} {p : Nat × Bool}
theorem rd_fa (hb : h[b]? = some (rdB ty s p)) {k : Nat} : faV h (pk b 0) k = some (pk b k) := by simp [faV, pk, hb, rdB]
theorem rd_chk (hb : h[b]? = some (rdB ty s p)) : chkV h (pk b 0) = some (pk b 0) := by simp [chkV, ldC, pk, hb, rdB]
theorem rd_ld0 (hb : h[b]? = some (rdB ty s p)) : ldC h (pk b 0) 1 = some [.string s] := by simp [ldC, pk, hb, rdB]
theorem rd_ld1 (hb : h[b]? = some (rdB ty s p)) : ldC h (pk b 1) 1 = some [.int .i64 (p.1 : Nat)] := by simp [ldC, pk, hb, rdB]
theorem rd_ld2 (hb : h[b]? = some (rdB ty s p)) : ldC h (pk b 2) 1 = some [.bool p.2] := by simp [ldC, pk, hb, rdB]
theorem rd_st1 (hb : h[b]? = some (rdB ty s p)) {n : Nat} : stC h (pk b 1) [.int .i64 (n : Int)] = some (h.set b (rdB ty s (n, p.2))) := by simp [stC, pk, hb, rdB, putAt]
theorem rd_st2 (hb : h[b]? = some (rdB ty s p)) {c : Bool} : stC h (pk b 2) [.bool c] = some (h.set b (rdB ty s (p.1, c))) := by simp [stC, pk, hb, rdB, putAt]
theorem rd_set {q : Nat × Bool} (hb : h[b]? = some (rdB ty s p)) : (h.set b (rdB ty s q))[b]? = some (rdB ty s q) := List.getElem?_set_self (lt_of_get hb)
theorem set_len {x : Blk} : (h.set b x).length = h.length := List.length_set ..
theorem k_impl_num (hb : h[b]? = some (rdB ty s p)) (hs : s.size ≤ lim) (hp : p.1 ≤ s.size) : C T X n_impl_reader_num [pk b 0] h = some (.int .i64 (numStep s p).1, h.set b (rdB ty s (numStep s p).2)) := by
  have hs' := hs
  unfold lim at hs'
  have cv := k_impl_ReadVar (X := X) (h := h) hs (a := (p.1 : Int)) ⟨by omega, by omega⟩
  refine C_go t_impl_reader_num rfl ?_
  unfold F_impl_reader_num
  obtain ⟨a, bad⟩ := p
  cases hr : rvAt s (a : Int) with
  | none =>
    rw [hr] at cv
    unfold rvT at cv
    cases bad with
    | true =>
      have hn : numStep s (a, true) = (0, (a, true)) := rfl
      rw [hn]
      simp only [rd_fa hb, rd_chk hb, rd_ld0 hb, rd_ld1 hb, rd_ld2 hb, rd_st2 hb, cv, List.prefix_refl, go_sem]
      exact finish_room set_len
    | false =>
      have hn : numStep s (a, false) = (0, (a, true)) := by simp only [numStep, hr]
      rw [hn]
      simp only [rd_fa hb, rd_chk hb, rd_ld0 hb, rd_ld1 hb, rd_ld2 hb, rd_st2 hb, cv, List.prefix_refl, go_sem]
      exact finish_room set_len
  | some q =>
    obtain ⟨n, k⟩ := q
    rw [hr] at cv
    unfold rvT at cv
    cases bad with
    | true =>
      have hn : numStep s (a, true) = (0, (a, true)) := rfl
      rw [hn]
      simp only [rd_fa hb, rd_chk hb, rd_ld0 hb, rd_ld1 hb, rd_ld2 hb, rd_st2 hb, cv, List.prefix_refl, go_sem]
      exact finish_room set_len
    | false =>
      have hn : numStep s (a, false) = ((n : Int), (k, false)) := by simp only [numStep, hr]
      rw [hn]
      simp only [rd_fa hb, rd_chk hb, rd_ld0 hb, rd_ld1 hb, rd_ld2 hb, rd_st1 hb, cv, List.prefix_refl, go_sem]
      exact finish_room set_len
theorem k_spec_l12Var (hb : h[b]? = some (rdB ty s p)) (hs : s.size ≤ lim) (hp : p.1 ≤ s.size) : C T X n_spec_l12Var [pk b 0] h = some (.int .i64 (numStep s p).1, h.set b (rdB ty s (numStep s p).2)) := by
  have hs' := hs
  unfold lim at hs'
  have cv := k_spec_ReadVar (X := X) (h := h) hs (a := (p.1 : Int)) ⟨by omega, by omega⟩
  refine C_go t_spec_l12Var rfl ?_
  unfold F_spec_l12Var
  obtain ⟨a, bad⟩ := p
  cases hr : rvAt s (a : Int) with
  | none =>
    rw [hr] at cv
    unfold rvT at cv
    cases bad with
    | true =>
      have hn : numStep s (a, true) = (0, (a, true)) := rfl
      rw [hn]
      simp only [rd_fa hb, rd_chk hb, rd_ld0 hb, rd_ld1 hb, rd_ld2 hb, rd_st2 hb, cv, List.prefix_refl, go_sem]
      exact finish_room set_len
    | false =>
      have hn : numStep s (a, false) = (0, (a, true)) := by simp only [numStep, hr]
      rw [hn]
      simp only [rd_fa hb, rd_chk hb, rd_ld0 hb, rd_ld1 hb, rd_ld2 hb, rd_st2 hb, cv, List.prefix_refl, go_sem]
      exact finish_room set_len
  | some q =>
    obtain ⟨n, k⟩ := q
    rw [hr] at cv
    unfold rvT at cv
    cases bad with
    | true =>
      have hn : numStep s (a, true) = (0, (a, true)) := rfl
      rw [hn]
      simp only [rd_fa hb, rd_chk hb, rd_ld0 hb, rd_ld1 hb, rd_ld2 hb, rd_st2 hb, cv, List.prefix_refl, go_sem]
      exact finish_room set_len
    | false =>
      have hn : numStep s (a, false) = ((n : Int), (k, false)) := by simp only [numStep, hr]
      rw [hn]
      simp only [rd_fa hb, rd_chk hb, rd_ld0 hb, rd_ld1 hb, rd_ld2 hb, rd_st1 hb, cv, List.prefix_refl, go_sem]
      exact finish_room set_len
theorem k_impl_ends (hb : h[b]? = some (rdB ty s p)) : C T X n_impl_reader_ends [pk b 0] h = some (.bool (!p.2 && decide (p.1 = s.size)), h) := by
  refine C_go t_impl_reader_ends rfl ?_
  unfold F_impl_reader_ends
  obtain ⟨a, bad⟩ := p
  cases bad with
  | true => simp only [rd_fa hb, rd_chk hb, rd_ld0 hb, rd_ld1 hb, rd_ld2 hb, List.prefix_refl, go_sem]
  | false =>
    by_cases e : a = s.size
    · simp only [rd_fa hb, rd_chk hb, rd_ld0 hb, rd_ld1 hb, rd_ld2 hb, decide_eq_true (show ((a : Nat) : Int) = (s.size : Int) by omega), decide_eq_true e, List.prefix_refl, go_sem]
    · have e' : ¬ ((a : Nat) : Int) = (s.size : Int) := by omega
      simp only [rd_fa hb, rd_chk hb, rd_ld0 hb, rd_ld1 hb, rd_ld2 hb, e', e, List.prefix_refl, go_sem]
/-- The readers and the numbers, one behind the other. -/
def sS (s : ByteArray) (p : Nat × Bool) : Nat → Nat × Bool
  | 0 => p
  | i + 1 => (numStep s (sS s p i)).2
def sV (s : ByteArray) (p : Nat × Bool) (i : Nat) : Int := (numStep s (sS s p i)).1
theorem numStep_le {q : Nat × Bool} (h : q.1 ≤ s.size) : (numStep s q).2.1 ≤ s.size := by
  unfold numStep
  split
  · exact h
  · split
    · rename_i n k hr; exact (rvAt_bnd hr).2.2
    · exact h
theorem rvGo_seg {a : Nat} : ∀ {f i n u m k : Nat}, rvGo s a f i n u = some (m, k) → a ≤ i → (∀ x ∈ segN s a i, 128 ≤ x ∧ x < 256) → n = valB (segN s a i) → u = 128 ^ (segN s a i).length → (segN s a i).length = i - a → segN s a k = varL m
  | 0, _, _, _, _, _, h, _, _, _, _, _ => by cases h
  | f + 1, i, n, u, m, k, h, ha, hall, hn, hu, hl => by
    unfold rvGo at h
    split at h
    · rename_i h1
      have hsg := segN_succ (s := s) ha h1
      have hvs : valB (segN s a (i + 1)) = n + byt s i % 128 * u := by rw [hsg, valB_snoc, ← hn, ← hu, Int.toNat_natCast]
      split at h
      · rename_i h2
        split at h
        · cases h
        · rename_i h3
          simp only [Option.some.injEq, Prod.mk.injEq] at h
          obtain ⟨rfl, rfl⟩ := h
          have hform := varL_form (l := segN s a i) (b := (byt s i : Int)) hall ⟨by omega, by omega⟩
          rw [← hsg, hvs] at hform
          rw [hform.2 ?_]
          by_cases h5 : a < i
          · exact .inr (by omega)
          · exact .inl (List.length_eq_zero_iff.1 (by omega))
      · rename_i h2
        have hbt := byt_lt (s := s) (i := i)
        refine rvGo_seg h (by omega) ?_ hvs.symm ?_ ?_
        · intro x hx
          rw [hsg] at hx
          rcases List.mem_append.1 hx with hx | hx
          · exact hall x hx
          · rw [List.mem_singleton.1 hx]; omega
        · rw [hsg, List.length_append, hu]; simp [Nat.pow_succ]
        · rw [hsg, List.length_append, hl]; simp; omega
    · cases h
theorem segN_len {a k : Nat} (h : k ≤ s.size) : (segN s a k).length = k - a := by
  unfold segN
  rw [List.length_map, List.length_take, List.length_drop, size_list]
  omega
/-- What is read stands there in its own form. -/
theorem rvAt_seg {a n k : Nat} (h : rvAt s (a : Int) = some (n, k)) : segN s a k = varL n ∧ (varL n).length = k - a := by
  have hb := rvAt_bnd h
  have h1 : segN s a k = varL n := by
    unfold rvAt at h
    split at h
    · rw [Int.toNat_natCast] at h
      refine rvGo_seg h (Nat.le_refl _) ?_ ?_ ?_ ?_ <;> rw [segN_nil]
      · intro x hx; cases hx
      · rfl
      · rfl
      · simp
    · cases h
  exact ⟨h1, by rw [← h1]; exact segN_len hb.2.2⟩
end
end Go.Proofs.YtjgacjidaeahdaaGreatDoor.Ab
set_option linter.unusedSimpArgs false
set_option linter.unusedVariables false
set_option linter.unnecessarySimpa false
set_option maxHeartbeats 4000000
namespace Go.Proofs.YtjgacjidaeahdaaGreatDoor.Ab
/-- One can go from one to the other. -/
inductive Conn (R : Int → Int → Prop) (a : Int) : Int → Prop
  | refl : Conn R a a
  | step {b c : Int} (h : Conn R a b) (r : R b c) : Conn R a c
section
variable {R S : Int → Int → Prop} {a b c : Int}
theorem Conn.one (r : R a b) : Conn R a b := .step .refl r
theorem Conn.trans (h : Conn R a b) (k : Conn R b c) : Conn R a c := by
  induction k with
  | refl => exact h
  | step _ r ih => exact .step ih r
theorem Conn.symm (hs : ∀ {x y}, R x y → R y x) (h : Conn R a b) : Conn R b a := by
  induction h with
  | refl => exact .refl
  | step _ r ih => exact (Conn.one (hs r)).trans ih
theorem Conn.imp (hi : ∀ {x y}, R x y → S x y) (h : Conn R a b) : Conn S a b := by
  induction h with
  | refl => exact .refl
  | step _ r ih => exact .step ih (hi r)
theorem Conn.ends (h : Conn R a b) (hr : ∀ {x y}, R x y → S x y) : a = b ∨ ∃ x y, S a x ∧ S y b := by
  induction h with
  | refl => exact .inl rfl
  | step h r ih =>
    rcases ih with rfl | ⟨x, y, h1, _⟩
    · exact .inr ⟨_, _, hr r, hr r⟩
    · exact .inr ⟨x, _, h1, hr r⟩
end
/-- Two vertices have an edge, and neither is left out. -/
def Adj (es : List E) (out : List Int) (a b : Int) : Prop := (∃ e ∈ es, Join a b e) ∧ ¬ a ∈ out ∧ ¬ b ∈ out
theorem Adj.symm {es : List E} {out : List Int} {a b : Int} (h : Adj es out a b) : Adj es out b a := by
  obtain ⟨⟨e, he, hj⟩, h1, h2⟩ := h
  exact ⟨⟨e, he, Or.symm hj⟩, h2, h1⟩
abbrev Cn (es : List E) (out : List Int) (a b : Int) : Prop := Conn (Adj es out) a b
theorem Cn.symm {es : List E} {out : List Int} {a b : Int} (h : Cn es out a b) : Cn es out b a := Conn.symm Adj.symm h
end Go.Proofs.YtjgacjidaeahdaaGreatDoor.Ab
set_option linter.unusedSimpArgs false
set_option linter.unusedVariables false
set_option linter.unnecessarySimpa false
set_option maxHeartbeats 4000000
namespace Go.Proofs.YtjgacjidaeahdaaGreatDoor.Ab
open Go.RowKit
theorem catV_exact {s : ByteArray} : ∀ {l : List Int}, (∀ x ∈ l, 0 ≤ x ∧ x ≤ 1000000000) → (catV s l).size = s.size + (l.map fun x => (varL x.toNat).length).sum
  | [], _ => by simp [catV]
  | n :: l, h => by
    have h1 := h n List.mem_cons_self
    have ih := catV_exact (s := s ++ vt n) (l := l) fun x hx => h x (List.mem_cons_of_mem _ hx)
    have e : catV s (n :: l) = catV (s ++ vt n) l := rfl
    rw [e, ih, ByteArray.size_append]
    have : (vt n).size = (varL n.toNat).length := by unfold vt; rw [if_pos h1]; unfold varT; exact strOfNums_size _
    rw [this]
    simp only [List.map_cons, List.sum_cons]
    omega
section
variable {X : CallF} {h : Heap} {s : ByteArray}
end
end Go.Proofs.YtjgacjidaeahdaaGreatDoor.Ab
set_option linter.unusedSimpArgs false
set_option linter.unusedVariables false
set_option linter.unnecessarySimpa false
set_option maxHeartbeats 4000000
namespace Go.Proofs.YtjgacjidaeahdaaGreatDoor.Ab
open Go.RowKit
section
variable {α : Type} {s : ByteArray} {p q r : Nat × Bool} {l m : List Int}
/-- So many are read, as long as all is well. -/
def rdN (step : Nat × Bool → α × (Nat × Bool)) : Nat → Nat × Bool → List α × (Nat × Bool)
  | 0, p => ([], p)
  | n + 1, p => if p.2 = true then ([], p) else ((step p).1 :: (rdN step n (step p).2).1, (rdN step n (step p).2).2)
/-- On the way. -/
def RdTo (step : Nat × Bool → α × (Nat × Bool)) (n : Nat) (p0 : Nat × Bool) (L : List α) (k : Nat) (p : Nat × Bool) : Prop := rdN step n p0 = (L ++ (rdN step k p).1, (rdN step k p).2)
theorem RdTo.start {step : Nat × Bool → α × (Nat × Bool)} {n : Nat} : RdTo step n p [] n p := by unfold RdTo; simp
theorem RdTo.next {step : Nat × Bool → α × (Nat × Bool)} {n k : Nat} {p0 : Nat × Bool} {L : List α} (h : RdTo step n p0 L (k + 1) p) (hp : p.2 = false) : RdTo step n p0 (L ++ [(step p).1]) k (step p).2 := by
  unfold RdTo at *
  rw [h]
  have e : rdN step (k + 1) p = ((step p).1 :: (rdN step k (step p).2).1, (rdN step k (step p).2).2) := by
    rw [rdN, if_neg (by rw [hp]; simp)]
  rw [e]
  simp
theorem RdTo.done {step : Nat × Bool → α × (Nat × Bool)} {n k : Nat} {p0 : Nat × Bool} {L : List α} (h : RdTo step n p0 L k p) (hp : k = 0 ∨ p.2 = true) : rdN step n p0 = (L, p) := by
  unfold RdTo at h
  rw [h]
  rcases hp with rfl | hp
  · simp [rdN]
  · cases k with
    | zero => simp [rdN]
    | succ k => rw [rdN, if_pos hp]; simp
theorem rdN_len {step : Nat × Bool → α × (Nat × Bool)} : ∀ {n : Nat} {p : Nat × Bool}, (rdN step n p).1.length ≤ n
  | 0, _ => Nat.le_refl 0
  | n + 1, p => by
    rw [rdN]
    split
    · exact Nat.zero_le _
    · have := rdN_len (step := step) (n := n) (p := (step p).2)
      simp only [List.length_cons]
      omega
theorem RdTo.len {step : Nat × Bool → α × (Nat × Bool)} {n k : Nat} {p0 : Nat × Bool} {L : List α} (h : RdTo step n p0 L k p) : L.length ≤ n := by
  have h1 := rdN_len (step := step) (n := n) (p := p0)
  unfold RdTo at h
  rw [h] at h1
  simp only [List.length_append] at h1
  omega
theorem segN_append {a b c : Nat} (h1 : a ≤ b) (h2 : b ≤ c) : segN s a c = segN s a b ++ segN s b c := by
  unfold segN
  rw [← List.map_append]
  congr 1
  have := List.take_append_drop (b - a) ((s.data.toList.drop a).take (c - a))
  rw [List.take_take, Nat.min_eq_left (by omega), List.drop_take, List.drop_drop, show a + (b - a) = b by omega, show c - a - (b - a) = c - b by omega] at this
  exact this.symm
def bysOf (l : List Int) : List Int := l.flatMap fun n => varL n.toNat
theorem bysOf_append : bysOf (l ++ m) = bysOf l ++ bysOf m := by simp [bysOf]
/-- All that was read, well. -/
def Rd (s : ByteArray) (p q : Nat × Bool) (l : List Int) : Prop := p.2 = false ∧ q.2 = false ∧ p.1 ≤ q.1 ∧ q.1 ≤ s.size ∧ segN s p.1 q.1 = bysOf l ∧ ∀ x ∈ l, 0 ≤ x ∧ x ≤ 1000000000
theorem Rd.nil (h : p.2 = false) (hp : p.1 ≤ s.size) : Rd s p p [] := ⟨h, h, Nat.le_refl _, hp, segN_nil, fun x hx => absurd hx List.not_mem_nil⟩
theorem Rd.trans (a : Rd s p q l) (b : Rd s q r m) : Rd s p r (l ++ m) := by
  obtain ⟨a1, a2, a3, a4, a5, a6⟩ := a
  obtain ⟨b1, b2, b3, b4, b5, b6⟩ := b
  refine ⟨a1, b2, by omega, b4, ?_, fun x hx => (List.mem_append.1 hx).elim (a6 x) (b6 x)⟩
  rw [segN_append a3 b3, a5, b5, bysOf_append]
theorem num_bad (h : p.2 = true) : (numStep s p).2.2 = true := by unfold numStep; rw [h]
theorem num_rd (h : (numStep s p).2.2 = false) : Rd s p (numStep s p).2 [(numStep s p).1] := by
  have hp : p.2 = false := by
    cases hb : p.2 with
    | false => rfl
    | true => rw [num_bad hb] at h; cases h
  have h' := h
  unfold numStep at h' ⊢
  rw [hp] at h' ⊢
  simp only at h' ⊢
  cases hr : rvAt s (p.1 : Int) with
  | none => rw [hr] at h'; simp at h'
  | some k =>
    obtain ⟨n, k⟩ := k
    have hb := rvAt_bnd hr
    have hs := rvAt_seg hr
    refine ⟨hp, rfl, by simp only; omega, hb.2.2, ?_, fun x hx => ?_⟩
    · rw [hs.1]
      simp [bysOf]
    · rw [List.mem_singleton.1 hx]
      simp only
      omega
theorem rdN_bad {step : Nat × Bool → α × (Nat × Bool)} {n : Nat} (h : p.2 = true) : (rdN step n p).2.2 = true := by
  cases n with
  | zero => exact h
  | succ n => rw [rdN, if_pos h]; exact h
theorem rdN_rd {step : Nat × Bool → α × (Nat × Bool)} {f : α → List Int} (hs : ∀ p, (step p).2.2 = false → Rd s p (step p).2 (f (step p).1)) : ∀ {n : Nat} {p : Nat × Bool}, p.1 ≤ s.size → (rdN step n p).2.2 = false → Rd s p (rdN step n p).2 ((rdN step n p).1.flatMap f) ∧ (rdN step n p).1.length = n
  | 0, p, hp, h => ⟨Rd.nil h hp, rfl⟩
  | n + 1, p, hp, h => by
    have hf : p.2 = false := by
      cases hb : p.2 with
      | false => rfl
      | true => rw [rdN_bad hb] at h; cases h
    have e : rdN step (n + 1) p = ((step p).1 :: (rdN step n (step p).2).1, (rdN step n (step p).2).2) := by
      rw [rdN, if_neg (by rw [hf]; simp)]
    rw [e] at h ⊢
    simp only at h ⊢
    have h1 : (step p).2.2 = false := by
      cases hb : (step p).2.2 with
      | false => rfl
      | true => rw [rdN_bad hb] at h; cases h
    have r1 := hs p h1
    obtain ⟨r2, r3⟩ := rdN_rd hs (n := n) r1.2.2.2.1 h
    exact ⟨by rw [List.flatMap_cons]; exact r1.trans r2, by rw [List.length_cons, r3]⟩
def eStep (s : ByteArray) (p : Nat × Bool) : E × (Nat × Bool) := (⟨sV s p 0, sV s p 1, sV s p 2, sV s p 3, sV s p 4⟩, sS s p 5)
def cStep (s : ByteArray) (p : Nat × Bool) : Cp × (Nat × Bool) := (⟨sV s p 0, sV s p 1⟩, sS s p 2)
def gStep (cap : Int → Nat) (s : ByteArray) (p : Nat × Bool) : Gp × (Nat × Bool) :=
  (⟨(rdN (numStep s) (cap (numStep s p).1) (numStep s p).2).1, (numStep s (rdN (numStep s) (cap (numStep s p).1) (numStep s p).2).2).1⟩, (numStep s (rdN (numStep s) (cap (numStep s p).1) (numStep s p).2).2).2)
theorem bad_of_not {a b : Bool} (h : a = true → b = true) (hb : b = false) : a = false := by
  cases a with
  | false => rfl
  | true => rw [h rfl] at hb; cases hb
theorem sS_rd {p : Nat × Bool} (hp : p.1 ≤ s.size) : ∀ i, (sS s p i).2 = false → Rd s p (sS s p i) ((List.range i).map fun j => sV s p j)
  | 0, h => Rd.nil h hp
  | i + 1, h => by
    have hn : sS s p (i + 1) = (numStep s (sS s p i)).2 := rfl
    rw [hn] at h ⊢
    have r2 := num_rd h
    have r1 := sS_rd hp i (bad_of_not num_bad h)
    rw [List.range_succ, List.map_append]
    exact r1.trans r2
theorem Rd.le (a : Rd s p q l) : p.1 ≤ s.size := by obtain ⟨_, _, h1, h2, _⟩ := a; omega
theorem sS_rd' {i : Nat} (h : (sS s p (i + 1)).2 = false) : Rd s p (sS s p (i + 1)) ((List.range (i + 1)).map fun j => sV s p j) := by
  have h1 : (sS s p 1).2 = false := by
    have : ∀ k, (sS s p (1 + k)).2 = false → (sS s p 1).2 = false := fun k => by
      induction k with
      | zero => exact id
      | succ k ih => exact fun h => ih (bad_of_not num_bad h)
    exact this i (by rw [Nat.add_comm]; exact h)
  exact sS_rd (num_rd h1).le (i + 1) h
theorem eStep_rd (h : (eStep s p).2.2 = false) : Rd s p (eStep s p).2 ((fun e : E => [e.a, e.b, e.w1, e.w2, e.w3]) (eStep s p).1) := sS_rd' h
theorem cStep_rd (h : (cStep s p).2.2 = false) : Rd s p (cStep s p).2 ((fun e : Cp => [e.a, e.b]) (cStep s p).1) := sS_rd' h
theorem gStep_parts {cap : Int → Nat} (h : (gStep cap s p).2.2 = false) : (rdN (numStep s) (cap (numStep s p).1) (numStep s p).2).2.2 = false ∧ (numStep s p).2.2 = false := by
  have h1 : (rdN (numStep s) (cap (numStep s p).1) (numStep s p).2).2.2 = false := bad_of_not num_bad h
  exact ⟨h1, bad_of_not rdN_bad h1⟩
theorem single_flat : l.flatMap (fun n => [n]) = l := by
  induction l with
  | nil => rfl
  | cons a l ih => rw [List.flatMap_cons, ih]; rfl
/-- A group is well read if no number of members is cut. -/
theorem gStep_rd {cap : Int → Nat} (h : (gStep cap s p).2.2 = false) (hc : ((gStep cap s p).1.ms.length : Int) = (numStep s p).1) : Rd s p (gStep cap s p).2 ((fun g : Gp => (g.ms.length : Int) :: (g.ms ++ [g.z])) (gStep cap s p).1) := by
  obtain ⟨h1, h2⟩ := gStep_parts h
  have r1 := num_rd h2
  have r2 := (rdN_rd (f := fun n => [n]) (fun p h => num_rd h) r1.2.2.2.1 h1).1
  rw [single_flat] at r2
  have r3 := num_rd h
  have := (r1.trans r2).trans r3
  simp only
  rw [hc]
  exact this
end
def rz (s : ByteArray) : Int × (Nat × Bool) := numStep s (0, false)
def rne (s : ByteArray) : Int × (Nat × Bool) := numStep s (rz s).2
def re (cap : Int → Nat) (s : ByteArray) : List E × (Nat × Bool) := rdN (eStep s) (cap (rne s).1) (rne s).2
def rnm (cap : Int → Nat) (s : ByteArray) : Int × (Nat × Bool) := numStep s (re cap s).2
def rm (cap : Int → Nat) (s : ByteArray) : List Cp × (Nat × Bool) := rdN (cStep s) (cap (rnm cap s).1) (rnm cap s).2
def ry (cap : Int → Nat) (s : ByteArray) : List Int × (Nat × Bool) := rdN (numStep s) (cap (rz s).1) (rm cap s).2
def rgn (cap : Int → Nat) (s : ByteArray) : Int × (Nat × Bool) := numStep s (ry cap s).2
def rg (cap : Int → Nat) (s : ByteArray) : List Gp × (Nat × Bool) := rdN (gStep cap s) (cap (rgn cap s).1) (rgn cap s).2
def CokI (s : ByteArray) : Prop := (rg Int.toNat s).2.2 = false ∧ (rg Int.toNat s).2.1 = s.size ∧ CertOk (rz s).1 (re Int.toNat s).1 (rm Int.toNat s).1 (ry Int.toNat s).1 (rg Int.toNat s).1
def cap100 (n : Int) : Nat := min n.toNat 100
def CokS (s : ByteArray) : Prop := (rg cap100 s).2.2 = false ∧ CertOk (rz s).1 (re cap100 s).1 (rm cap100 s).1 (ry cap100 s).1 (rg cap100 s).1 ∧ certT (rz s).1 (re cap100 s).1 (rm cap100 s).1 (ry cap100 s).1 (rg cap100 s).1 = s
theorem grok_len {size : Int} {g : Gp} (h : GrOk size g) (hs : size ≤ 9) : g.ms.length ≤ 9 := by
  have key : ∀ j, j < g.ms.length → (j : Int) ≤ g.ms.getD j 0 := by
    intro j
    induction j with
    | zero => intro hj; exact (h.2 0 hj).1.1
    | succ j ih =>
      intro hj
      have := ih (by omega)
      have := (h.2 (j + 1) hj).2 (by omega)
      simp only [Nat.add_sub_cancel] at this
      omega
  by_cases h9 : g.ms.length ≤ 9
  · exact h9
  · have := key 9 (by omega)
    have := (h.2 9 (by omega)).1.2
    omega
theorem min_lt {n : Int} {k : Nat} (h : cap100 n = k) (hk : k < 100) : cap100 n = n.toNat := by unfold cap100 at *; omega
section
variable {s : ByteArray}
theorem rg_up {cap : Int → Nat} (h : (rg cap s).2.2 = false) : (rgn cap s).2.2 = false ∧ (ry cap s).2.2 = false ∧ (rm cap s).2.2 = false ∧ (rnm cap s).2.2 = false ∧ (re cap s).2.2 = false ∧ (rne s).2.2 = false ∧ (rz s).2.2 = false := by
  have h1 : (rgn cap s).2.2 = false := bad_of_not rdN_bad h
  have h2 : (ry cap s).2.2 = false := bad_of_not num_bad h1
  have h3 : (rm cap s).2.2 = false := bad_of_not rdN_bad h2
  have h4 : (rnm cap s).2.2 = false := bad_of_not rdN_bad h3
  have h5 : (re cap s).2.2 = false := bad_of_not num_bad h4
  have h6 : (rne s).2.2 = false := bad_of_not rdN_bad h5
  exact ⟨h1, h2, h3, h4, h5, h6, bad_of_not num_bad h6⟩
/-- Groups: nothing is cut, or all the same. -/
theorem groups_same : ∀ {n : Nat} {p : Nat × Bool}, ((rdN (gStep Int.toNat s) n p).2.2 = false ∧ (∀ g ∈ (rdN (gStep Int.toNat s) n p).1, g.ms.length < 100)) ∨ ((rdN (gStep cap100 s) n p).2.2 = false ∧ (∀ g ∈ (rdN (gStep cap100 s) n p).1, g.ms.length < 100)) → rdN (gStep cap100 s) n p = rdN (gStep Int.toNat s) n p
  | 0, _, _ => rfl
  | n + 1, p, h => by
    by_cases hp : p.2 = true
    · rw [rdN, rdN, if_pos hp, if_pos hp]
    · have e : ∀ cap, rdN (gStep cap s) (n + 1) p = ((gStep cap s p).1 :: (rdN (gStep cap s) n (gStep cap s p).2).1, (rdN (gStep cap s) n (gStep cap s p).2).2) := fun cap => by rw [rdN, if_neg hp]
      rw [e, e] at *
      simp only at h
      have hg : gStep cap100 s p = gStep Int.toNat s p := by
        have key : cap100 (numStep s p).1 = (numStep s p).1.toNat := by
          rcases h with ⟨h1, h2⟩ | ⟨h1, h2⟩
          · have h3 := h2 _ List.mem_cons_self
            have h4 := gStep_parts (s := s) (bad_of_not rdN_bad h1)
            have h5 := (rdN_rd (f := fun n => [n]) (fun p h => num_rd h) (num_rd h4.2).2.2.2.1 h4.1).2
            unfold gStep at h3
            simp only at h3
            rw [h5] at h3
            unfold cap100
            omega
          · have h3 := h2 _ List.mem_cons_self
            have h4 := gStep_parts (s := s) (bad_of_not rdN_bad h1)
            have h5 := (rdN_rd (f := fun n => [n]) (fun p h => num_rd h) (num_rd h4.2).2.2.2.1 h4.1).2
            unfold gStep at h3
            simp only at h3
            rw [h5] at h3
            exact min_lt rfl h3
        unfold gStep
        rw [key]
      rw [hg] at h ⊢
      have ih := groups_same (n := n) (p := (gStep Int.toNat s p).2) (by
        rcases h with ⟨h1, h2⟩ | ⟨h1, h2⟩
        · exact .inl ⟨h1, fun g q => h2 g (List.mem_cons_of_mem _ q)⟩
        · exact .inr ⟨h1, fun g q => h2 g (List.mem_cons_of_mem _ q)⟩)
      rw [ih]
/-- The bounds of a right certificate. -/
theorem cert_lens {size : Int} {es : List E} {m : List Cp} {ys : List Int} {gs : List Gp} (g : CertOk size es m ys gs) : size ≤ 9 ∧ es.length < 100 ∧ m.length < 100 ∧ (ys.length : Int) = size ∧ gs.length < 100 ∧ ∀ x ∈ gs, x.ms.length < 100 := by
  have h1 := gok_len g.1.1.1
  have h2 := mok_len g.2.1
  have h3 := g.1.1.1.1
  refine ⟨h3.2, by omega, by omega, g.1.1.2.1, by have := g.1.1.2.2; omega, fun x hx => ?_⟩
  obtain ⟨i, hi, rfl⟩ := mem_getD (d := g0) hx
  have := grok_len (g.1.2.2.1 i hi).1 h3.2
  omega
/-- If one of both is a right certificate, both readings are the same. -/
theorem read_same (h : ∃ cap, (cap = Int.toNat ∨ cap = cap100) ∧ (rg cap s).2.2 = false ∧ CertOk (rz s).1 (re cap s).1 (rm cap s).1 (ry cap s).1 (rg cap s).1) :
    re cap100 s = re Int.toNat s ∧ rm cap100 s = rm Int.toNat s ∧ ry cap100 s = ry Int.toNat s ∧ rg cap100 s = rg Int.toNat s := by
  obtain ⟨cap, hcap, hb, hc⟩ := h
  obtain ⟨u1, u2, u3, u4, u5, u6, u7⟩ := rg_up hb
  obtain ⟨k1, k2, k3, k4, k5, k6⟩ := cert_lens hc
  have lz := num_rd (s := s) (p := (0, false)) u7
  have lne := num_rd u6
  have le := rdN_rd (f := fun e : E => [e.a, e.b, e.w1, e.w2, e.w3]) (fun p h => eStep_rd h) lne.2.2.2.1 u5
  have lnm := num_rd u4
  have lm := rdN_rd (f := fun e : Cp => [e.a, e.b]) (fun p h => cStep_rd h) lnm.2.2.2.1 u3
  have ly := rdN_rd (f := fun n => [n]) (fun p h => num_rd h) lm.1.2.2.2.1 u2
  have lng := num_rd u1
  have ce : ∀ n : Int, cap n < 100 → cap100 n = n.toNat := fun n hn => by
    rcases hcap with rfl | rfl
    · unfold cap100; omega
    · exact min_lt rfl hn
  have cz : ∀ n : Int, cap n < 100 → cap n = n.toNat := fun n hn => by
    rcases hcap with rfl | rfl
    · rfl
    · exact min_lt rfl hn
  have n1 : cap (rne s).1 < 100 := by rw [← le.2]; exact k2
  have e1 : re cap100 s = re Int.toNat s := by unfold re; rw [ce _ n1]
  have e1' : re cap s = re Int.toNat s := by unfold re; rw [cz _ n1]
  have n2 : cap (rnm cap s).1 < 100 := by rw [← lm.2]; exact k3
  have en : rnm cap100 s = rnm Int.toNat s := by unfold rnm; rw [e1]
  have en' : rnm cap s = rnm Int.toNat s := by unfold rnm; rw [e1']
  have e2 : rm cap100 s = rm Int.toNat s := by unfold rm; rw [en, ← en', ce _ n2]
  have e2' : rm cap s = rm Int.toNat s := by unfold rm; rw [cz _ n2, en']
  have n3 : cap (rz s).1 < 100 := by
    rw [← ly.2]
    have : ((ry cap s).1.length : Int) = (rz s).1 := k4
    show (ry cap s).1.length < 100
    omega
  have e3 : ry cap100 s = ry Int.toNat s := by unfold ry; rw [e2, ce _ n3]
  have e3' : ry cap s = ry Int.toNat s := by unfold ry; rw [e2', cz _ n3]
  have eg : rgn cap100 s = rgn Int.toNat s := by unfold rgn; rw [e3]
  have eg' : rgn cap s = rgn Int.toNat s := by unfold rgn; rw [e3']
  refine ⟨e1, e2, e3, ?_⟩
  -- the groups' number
  have hlen : (rg cap s).1.length = cap (rgn cap s).1 := by
    have : ∀ {n : Nat} {p : Nat × Bool}, (rdN (gStep cap s) n p).2.2 = false → (rdN (gStep cap s) n p).1.length = n := by
      intro n
      induction n with
      | zero => intro p _; rfl
      | succ n ih =>
        intro p h
        have hp : p.2 = false := bad_of_not rdN_bad h
        rw [rdN, if_neg (by rw [hp]; simp)] at h ⊢
        simp only [List.length_cons]
        rw [ih h]
    exact this hb
  have n4 : cap (rgn cap s).1 < 100 := by rw [← hlen]; exact k5
  unfold rg at hb k6 ⊢
  rw [eg, ← eg', ce _ n4]
  rw [cz _ n4] at hb k6
  rcases hcap with rfl | rfl
  · exact groups_same (.inl ⟨hb, k6⟩)
  · exact groups_same (.inr ⟨hb, k6⟩)
theorem gStep_all {p : Nat × Bool} (h : (gStep Int.toNat s p).2.2 = false) : Rd s p (gStep Int.toNat s p).2 ((fun g : Gp => (g.ms.length : Int) :: (g.ms ++ [g.z])) (gStep Int.toNat s p).1) := by
  refine gStep_rd h ?_
  obtain ⟨h1, h2⟩ := gStep_parts h
  have r := num_rd h2
  have h3 := (rdN_rd (f := fun n => [n]) (fun p h => num_rd h) r.2.2.2.1 h1).2
  have h4 := r.2.2.2.2.2 _ List.mem_cons_self
  unfold gStep
  simp only
  rw [h3]
  omega
/-- What was read well is what the certificate's numbers are. -/
theorem read_rd (hb : (rg Int.toNat s).2.2 = false) (hys : ((ry Int.toNat s).1.length : Int) = (rz s).1) : Rd s (0, false) (rg Int.toNat s).2 (certN (rz s).1 (re Int.toNat s).1 (rm Int.toNat s).1 (ry Int.toNat s).1 (rg Int.toNat s).1) := by
  obtain ⟨u1, u2, u3, u4, u5, u6, u7⟩ := rg_up hb
  have lz := num_rd (s := s) (p := (0, false)) u7
  have lne := num_rd u6
  have le := rdN_rd (f := fun e : E => [e.a, e.b, e.w1, e.w2, e.w3]) (fun p h => eStep_rd h) lne.2.2.2.1 u5
  have lnm := num_rd u4
  have lm := rdN_rd (f := fun e : Cp => [e.a, e.b]) (fun p h => cStep_rd h) lnm.2.2.2.1 u3
  have ly := rdN_rd (f := fun n => [n]) (fun p h => num_rd h) lm.1.2.2.2.1 u2
  have lng := num_rd u1
  have lg := rdN_rd (f := fun g : Gp => (g.ms.length : Int) :: (g.ms ++ [g.z])) (fun p h => gStep_all h) lng.2.2.2.1 hb
  rw [single_flat] at ly
  have q1 := lne.2.2.2.2.2 _ List.mem_cons_self
  have q2 := lnm.2.2.2.2.2 _ List.mem_cons_self
  have q3 := lng.2.2.2.2.2 _ List.mem_cons_self
  have f1 : ((re Int.toNat s).1.length : Int) = (rne s).1 := by
    have : (re Int.toNat s).1.length = (rne s).1.toNat := le.2
    have : 0 ≤ (rne s).1 := q1.1
    omega
  have f2 : ((rm Int.toNat s).1.length : Int) = (rnm Int.toNat s).1 := by
    have : (rm Int.toNat s).1.length = (rnm Int.toNat s).1.toNat := lm.2
    have : 0 ≤ (rnm Int.toNat s).1 := q2.1
    omega
  have f3 : ((rg Int.toNat s).1.length : Int) = (rgn Int.toNat s).1 := by
    have : (rg Int.toNat s).1.length = (rgn Int.toNat s).1.toNat := lg.2
    have : 0 ≤ (rgn Int.toNat s).1 := q3.1
    omega
  have all := lz.trans (lne.trans (le.1.trans (lnm.trans (lm.1.trans (ly.1.trans (lng.trans lg.1))))))
  unfold certN
  rw [f1, f2, f3]
  exact all
theorem catV_bys : ∀ {l : List Int}, (∀ x ∈ l, 0 ≤ x ∧ x ≤ 1000000000) → catV noT l = strOfNums (bysOf l) := by
  intro l h
  have key : ∀ (l : List Int) (a : List Int), (∀ x ∈ l, 0 ≤ x ∧ x ≤ 1000000000) → catV (strOfNums a) l = strOfNums (a ++ bysOf l) := by
    intro l
    induction l with
    | nil => intro a _; simp [catV, bysOf]
    | cons n l ih =>
      intro a h
      have h1 := h n List.mem_cons_self
      have e : catV (strOfNums a) (n :: l) = catV (strOfNums a ++ vt n) l := rfl
      have e2 : strOfNums a ++ vt n = strOfNums (a ++ varL n.toNat) := by
        unfold vt
        rw [if_pos h1]
        unfold varT
        apply ByteArray.ext
        apply Array.toList_inj.1
        rw [ByteArray.data_append, Array.toList_append, strOfNums_data, strOfNums_data, strOfNums_data, List.map_append]
      rw [e, e2, ih _ fun x hx => h x (List.mem_cons_of_mem _ hx)]
      simp [bysOf]
  have := key l [] h
  exact this
theorem seg_all : strOfNums (segN s 0 s.size) = s := by
  rw [← extract_seg]
  simp
theorem bysOf_len {l : List Int} : (bysOf l).length = (l.map fun x => (varL x.toNat).length).sum := by
  unfold bysOf
  induction l with
  | nil => rfl
  | cons a l ih => rw [List.flatMap_cons, List.length_append, ih, List.map_cons, List.sum_cons]
theorem cok_same : CokI s ↔ CokS s := by
  constructor
  · rintro ⟨h1, h2, h3⟩
    obtain ⟨e1, e2, e3, e4⟩ := read_same ⟨Int.toNat, .inl rfl, h1, h3⟩
    have hr := read_rd h1 (cert_lens h3).2.2.2.1
    refine ⟨by rw [e4]; exact h1, by rw [e1, e2, e3, e4]; exact h3, ?_⟩
    rw [e1, e2, e3, e4]
    unfold certT
    rw [catV_bys hr.2.2.2.2.2, ← hr.2.2.2.2.1, h2]
    exact seg_all
  · rintro ⟨h1, h2, h3⟩
    obtain ⟨e1, e2, e3, e4⟩ := read_same ⟨cap100, .inr rfl, h1, h2⟩
    rw [e4] at h1
    rw [e1, e2, e3, e4] at h2 h3
    have hr := read_rd h1 (cert_lens h2).2.2.2.1
    refine ⟨h1, ?_, h2⟩
    have hx := catV_exact (s := noT) hr.2.2.2.2.2
    unfold certT at h3
    rw [h3, ← bysOf_len, ← hr.2.2.2.2.1, segN_len hr.2.2.2.1] at hx
    have : noT.size = 0 := rfl
    simp only at hx
    omega
theorem varL_pos (n : Nat) : 1 ≤ (varL n).length := by unfold varL; split <;> simp
theorem Rd.adv {p q : Nat × Bool} {l : List Int} (a : Rd s p q l) : p.1 + l.length ≤ q.1 ∧ q.1 ≤ s.size := by
  obtain ⟨a1, a2, a3, a4, a5, a6⟩ := a
  have h1 := segN_len (a := p.1) a4
  rw [a5] at h1
  have h2 : l.length ≤ (bysOf l).length := by
    unfold bysOf
    clear a5 a6 h1
    induction l with
    | nil => exact Nat.le_refl _
    | cons n l ih => rw [List.flatMap_cons, List.length_append, List.length_cons]; have := varL_pos n.toNat; omega
  omega
theorem flat_len {α : Type} {f : α → List Int} (hf : ∀ x, 1 ≤ (f x).length) : ∀ {l : List α}, l.length ≤ (l.flatMap f).length ∧ ∀ x ∈ l, (f x).length ≤ (l.flatMap f).length
  | [] => ⟨Nat.le_refl _, fun x h => absurd h List.not_mem_nil⟩
  | a :: l => by
    obtain ⟨h1, h2⟩ := flat_len hf (l := l)
    have := hf a
    rw [List.flatMap_cons, List.length_append, List.length_cons]
    refine ⟨by omega, fun x hx => ?_⟩
    cases List.mem_cons.1 hx with
    | inl q => subst q; omega
    | inr q => have := h2 x q; omega
theorem read_bnd (hb : (rg Int.toNat s).2.2 = false) : (rm Int.toNat s).1.length ≤ s.size ∧ (ry Int.toNat s).1.length ≤ s.size ∧ (rg Int.toNat s).1.length ≤ s.size ∧ ∀ g ∈ (rg Int.toNat s).1, g.ms.length ≤ s.size := by
  obtain ⟨u1, u2, u3, u4, u5, u6, u7⟩ := rg_up hb
  have lnm := num_rd u4
  have lm := rdN_rd (f := fun e : Cp => [e.a, e.b]) (fun p h => cStep_rd h) lnm.2.2.2.1 u3
  have ly := rdN_rd (f := fun n => [n]) (fun p h => num_rd h) lm.1.2.2.2.1 u2
  have lng := num_rd u1
  have lg := rdN_rd (f := fun g : Gp => (g.ms.length : Int) :: (g.ms ++ [g.z])) (fun p h => gStep_all h) lng.2.2.2.1 hb
  have a1 := lm.1.adv
  have a2 := ly.1.adv
  have a3 := lg.1.adv
  have f1 := flat_len (f := fun e : Cp => [e.a, e.b]) (fun x => by simp) (l := (rm Int.toNat s).1)
  have f2 := flat_len (f := fun n : Int => [n]) (fun x => by simp) (l := (ry Int.toNat s).1)
  have f3 := flat_len (f := fun g : Gp => (g.ms.length : Int) :: (g.ms ++ [g.z])) (fun x => by simp) (l := (rg Int.toNat s).1)
  have e1 : ((rm Int.toNat s).1.flatMap fun e : Cp => [e.a, e.b]).length ≤ s.size := by
    have : (rnm Int.toNat s).2.1 + ((rm Int.toNat s).1.flatMap fun e : Cp => [e.a, e.b]).length ≤ (rm Int.toNat s).2.1 := a1.1
    have : (rm Int.toNat s).2.1 ≤ s.size := a1.2
    omega
  have e2 : ((ry Int.toNat s).1.flatMap fun n : Int => [n]).length ≤ s.size := by
    have : (rm Int.toNat s).2.1 + ((ry Int.toNat s).1.flatMap fun n : Int => [n]).length ≤ (ry Int.toNat s).2.1 := a2.1
    have : (ry Int.toNat s).2.1 ≤ s.size := a2.2
    omega
  have e3 : ((rg Int.toNat s).1.flatMap fun g : Gp => (g.ms.length : Int) :: (g.ms ++ [g.z])).length ≤ s.size := by
    have : (rgn Int.toNat s).2.1 + ((rg Int.toNat s).1.flatMap fun g : Gp => (g.ms.length : Int) :: (g.ms ++ [g.z])).length ≤ (rg Int.toNat s).2.1 := a3.1
    have : (rg Int.toNat s).2.1 ≤ s.size := a3.2
    omega
  refine ⟨by omega, by omega, by omega, fun g hg => ?_⟩
  have := f3.2 g hg
  simp only [List.length_cons, List.length_append, List.length_nil] at this
  omega
end
/-- What is told of it. -/
structure CT where
  size : Int
  es : List E
  m : List Cp
  ys : List Int
  gs : List Gp
  ok : Bool
open Classical in
noncomputable def rdI (s : ByteArray) : CT := if CokI s then ⟨(rz s).1, (re Int.toNat s).1, (rm Int.toNat s).1, (ry Int.toNat s).1, (rg Int.toNat s).1, true⟩ else ⟨0, [], [], [], [], false⟩
open Classical in
noncomputable def rdS (s : ByteArray) : CT := if CokS s then ⟨(rz s).1, (re cap100 s).1, (rm cap100 s).1, (ry cap100 s).1, (rg cap100 s).1, true⟩ else ⟨0, [], [], [], [], false⟩
theorem rd_same (s : ByteArray) : rdS s = rdI s := by
  unfold rdS rdI
  by_cases h : CokI s
  · rw [if_pos (cok_same.1 h), if_pos h]
    obtain ⟨e1, e2, e3, e4⟩ := read_same ⟨Int.toNat, .inl rfl, h.1, h.2.2⟩
    rw [e1, e2, e3, e4]
  · rw [if_neg (fun k => h (cok_same.2 k)), if_neg h]
end Go.Proofs.YtjgacjidaeahdaaGreatDoor.Ab
