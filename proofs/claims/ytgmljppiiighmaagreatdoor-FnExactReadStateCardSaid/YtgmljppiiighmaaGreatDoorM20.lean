/- Joined: K57, K81, K82, Op3, LFnExactReadState. No conditions. -/
import Derived.Test.YtgmljppiiighmaaGreatDoorM19
import Derived.Test.YtgmljppiiighmaaGreatDoorM18
import Derived.Test.YtgmljppiiighmaaGreatDoorM17
import Derived.Test.YtgmljppiiighmaaGreatDoorM15
import Derived.Test.YtgmljppiiighmaaGreatDoorM12
import Derived.Test.YtgmljppiiighmaaGreatDoorM4
set_option linter.unusedSimpArgs false
set_option linter.unusedVariables false
set_option linter.unnecessarySimpa false
set_option maxHeartbeats 4000000
namespace Go.Proofs.YtgmljppiiighmaaGreatDoor.Ab
open Go.RowKit
theorem mapIs_v {m : List Pr} (c1 : MapIs m) : ∀ p ∈ m, p.v.size ≤ 40 := fun p hp => by
  obtain ⟨i, hi, e⟩ := List.mem_iff_getElem.1 hp
  have := (c1.2 i hi).1.2
  rw [List.getD_eq_getElem?_getD, List.getElem?_eq_getElem hi, Option.getD_some, e] at this
  exact this
theorem stS_iff {m : List Pr} {R : Nat} (hR : IsRnd m R) : StS cfR m ↔ MapIs m ∧ R ≤ 6 ∧ (∀ i, i < m.length → EntS m R (m.getD i p0)) ∧ (∀ r, r < R → RoundS cfR m r) ∧ (m.filter isRK).length = sumTo (fun r => (cut (textS m r)).length) R := by
  constructor
  · rintro ⟨h1, R', h2, h3, h4, h5, h6⟩
    have := h3.one hR
    subst this
    exact ⟨h1, h2, fun i hi => h4 _ (getD_mem hi), h5, h6⟩
  · rintro ⟨h1, h2, h3, h5, h6⟩
    refine ⟨h1, R, h2, hR, fun p hp => ?_, h5, h6⟩
    obtain ⟨i, hi, e⟩ := List.mem_iff_getElem.1 hp
    have := h3 i hi
    rw [List.getD_eq_getElem?_getD, List.getElem?_eq_getElem hi, Option.getD_some, e] at this
    exact this
theorem sumTo_le {f : Nat → Nat} {b : Nat} : ∀ {n}, (∀ r, r < n → f r ≤ b) → sumTo f n ≤ b * n
  | 0, _ => Nat.zero_le _
  | n + 1, h => by
    have h1 := sumTo_le (n := n) fun r hr => h r (by omega)
    have h2 := h n (by omega)
    unfold sumTo
    rw [Nat.mul_succ]
    omega
section
variable {X : CallF} {h : Heap} {m : List Pr} {mv : Value} {R : Nat}
theorem k_spec_StateOk0 (hm : Rows h 2 mv (prsL m)) (hl : m.length ≤ lim) : C T X n_spec_StateOk [mv] h = some (.bool (tB (StS cfR m)), h) := by
  obtain ⟨R, hR⟩ := rnd_ex m
  rw [tB_iff (stS_iff hR)]
  have h1 := k_spec_MapOk (X := X) hm hl
  refine C_go t_spec_StateOk rfl ?_
  unfold F_spec_StateOk
  by_cases c1 : MapIs m
  rotate_left
  · rw [tB_f c1] at h1
    simp only [h1, go_sem]
    exact (tB_f fun k => c1 k.1).symm
  rw [tB_t c1] at h1
  have hlen := c1.1
  have hs := mapIs_v c1
  have h4 := k_spec_l13Rounds (X := X) hm (by omega) hR
  by_cases c2 : (R : Int) > 6
  · simp only [h1, h4, c2, go_sem]
    exact (tB_f fun k => by have := k.2.1; omega).symm
  have hR6 : R ≤ 6 := by omega
  obtain ⟨B, hB⟩ : ∃ B, B = tB (MapIs m ∧ R ≤ 6 ∧ (∀ i, i < m.length → EntS m R (m.getD i p0)) ∧ (∀ r, r < R → RoundS cfR m r) ∧ (m.filter isRK).length = sumTo (fun r => (cut (textS m r)).length) R) := ⟨_, rfl⟩
  rw [← hB]
  simp only [h1, h4, c2, go_sem]
  refine w_for m.length (fun i t loc h' => h' = h ∧ t 0 = mv ∧ t 3 = .int .i64 (R : Int) ∧ t 4 = .int .i64 (i : Int) ∧ ∀ j, j < i → EntS m R (m.getD j p0)) ⟨rfl, rfl, rfl, rfl, fun j hj => by omega⟩ ?_
  rintro i t loc h' hi ⟨rfl, t0, t3, t4, hj⟩
  simp only [t0, t3, t4, hm.lnm, go_sem]
  refine w_open (by simp only [go_sem]; rfl) ?_ ?_ <;> intro hc
  · have hi1 : i < m.length := by omega
    have hw : IntKind.i64.wrap ((i : Int) + 1) = ((i + 1 : Nat) : Int) := w64 (by omega) (by omega)
    have el := hm.el (f := prR) p0 hi1
    have hks := (c1.2 i hi1).1
    obtain ⟨q, hq⟩ : ∃ q, q = m.getD i p0 := ⟨_, rfl⟩
    have bad : ¬ EntS m R q → B = false := fun hb => by rw [hB]; exact tB_f fun k => hb (by rw [hq]; exact k.2.2.1 i hi1)
    rw [← hq] at el hks
    have hc1 := k_spec_l13KeyOk (X := X) (p := q) hm hl hR6 hks.1.1 hks.2
    by_cases g : EntS m R q
    · rw [tB_t g] at hc1
      simp only [t0, t3, t4, el.1, el.2.1, el.2.2, prR, hc1, hw, go_sem]
      refine ⟨hi1, fun j hj' => ?_⟩
      by_cases e : j = i
      · rw [e, ← hq]; exact g
      · exact hj j (by omega)
    · rw [tB_f g] at hc1
      simp only [t0, t3, t4, el.1, el.2.1, el.2.2, prR, hc1, go_sem]
      exact (bad g).symm
  have hent : ∀ j, j < m.length → EntS m R (m.getD j p0) := fun j hj' => hj j (by omega)
  simp only [t0, t3, go_sem]
  clear t0 t3 t4 hj hc
  have hcl : ∀ r, (cut (textS m r)).length ≤ 4800 := fun r => by
    have h1 := textS_le hs (r := r)
    have h2 := cut_len _ (textS m r) (Nat.lt_succ_self _)
    omega
  refine w_for R (fun i t loc h2 => h' <+: h2 ∧ t 0 = mv ∧ t 3 = .int .i64 (R : Int) ∧ t 5 = .int .i64 ((sumTo (fun r => (cut (textS m r)).length) i : Nat) : Int) ∧ t 6 = .int .i64 (i : Int) ∧ ∀ j, j < i → RoundS cfR m j) ⟨List.prefix_refl _, rfl, rfl, rfl, rfl, fun j hj => by omega⟩ ?_
  rintro i2 t2 loc2 h2 hi2 ⟨p2, t0, t3, t5, t6, hj⟩
  simp only [t0, t3, t5, t6, go_sem]
  refine w_open (by simp only [go_sem]; rfl) ?_ ?_ <;> intro hc2
  · have hi3 : i2 < R := by omega
    have hw : IntKind.i64.wrap ((i2 : Int) + 1) = ((i2 + 1 : Nat) : Int) := w64 (by omega) (by omega)
    obtain ⟨v, hv⟩ := Option.isSome_iff_exists.1 (hR.1 i2 hi3)
    have hro := k_spec_l13RoundOk (X := X) (r := i2) (by omega) hv hs (hm.up p2) (by omega)
    by_cases g : RoundS cfR m i2
    rotate_left
    · rw [tB_f g] at hro
      simp only [t0, t3, t5, t6, hro, go_sem]
      rw [show B = false by rw [hB]; exact tB_f fun k => g (k.2.2.2.1 i2 hi3)]
      exact finish_flat rfl p2
    rw [tB_t g] at hro
    have ht := k_spec_l13Text (X := X) (r := i2) (by omega) hs (hm.up p2) (by omega)
    have s1 := textS_le hs (r := i2)
    obtain ⟨v7, h7, c7, p7, o7⟩ := k_spec_CertParts (X := X) (h := h2) (s0 := textS m i2) (by omega)
    have hln7 : lnV h7 v7 = some (.int .i64 ((cut (textS m i2)).length : Int)) := o7.rows.lnm
    have b1 := sumTo_le (f := fun r => (cut (textS m r)).length) (b := 4800) (n := i2) fun r _ => hcl r
    have b2 := hcl i2
    have hw2 : IntKind.i64.wrap (((sumTo (fun r => (cut (textS m r)).length) i2 : Nat) : Int) + ((cut (textS m i2)).length : Int)) = ((sumTo (fun r => (cut (textS m r)).length) (i2 + 1) : Nat) : Int) := by
      rw [w64 (by omega) (by omega)]
      rfl
    simp only [t0, t3, t5, t6, hro, ht, c7, hln7, hw, hw2, go_sem]
    refine ⟨hi3, p2.trans p7, fun j hj' => ?_⟩
    by_cases e : j = i2
    · rw [e]; exact g
    · exact hj j (by omega)
  have hi4 : i2 = R := by omega
  have hrs : ∀ r, r < R → RoundS cfR m r := fun r hr => hj r (by omega)
  obtain ⟨S, hS⟩ : ∃ S, S = sumTo (fun r => (cut (textS m r)).length) R := ⟨_, rfl⟩
  rw [← hS] at hB
  have hSi : sumTo (fun r => (cut (textS m r)).length) i2 = S := by rw [hi4, hS]
  rw [hSi] at t5
  simp only [t0, t5, hSi, go_sem]
  clear t0 t3 t5 t6 hj hc2
  refine w_for m.length (fun i t loc h3 => h3 = h2 ∧ t 0 = mv ∧ t 5 = .int .i64 (S : Int) ∧ t 7 = .int .i64 ((((m.take i).filter isRK).length : Nat) : Int) ∧ t 8 = .int .i64 (i : Int)) ⟨rfl, rfl, rfl, by rw [List.take_zero]; rfl, rfl⟩ ?_
  rintro i3 t3 loc3 h3 hi3 ⟨rfl, t0, t5, t7, t8⟩
  simp only [t0, t5, t7, t8, (hm.up p2).lnm, go_sem]
  refine w_open (by simp only [go_sem]; rfl) ?_ ?_ <;> intro hc3
  · have hi5 : i3 < m.length := by omega
    have hw : IntKind.i64.wrap ((i3 : Int) + 1) = ((i3 + 1 : Nat) : Int) := w64 (by omega) (by omega)
    have el := (hm.up p2).el (f := prR) p0 hi5
    have cl0 := (hm.up p2).cell (f := prR) p0 hi5 (o := 0) (by omega)
    have hks := (c1.2 i3 hi5).1
    have tk := take_snocD' (d := p0) hi5
    obtain ⟨q, hq⟩ : ∃ q, q = m.getD i3 p0 := ⟨_, rfl⟩
    rw [← hq] at el cl0 hks tk
    have k0 : ldC h3 (elemP mv 2 i3 0) 1 = some [.string q.k] := cl0
    have e0 : ixV (.string q.k) (.int .i64 0) = some (.int .u8 (byt q.k 0 : Nat)) := ix_byt (i := 0) (by omega)
    have lf := List.length_filter_le isRK (m.take i3)
    rw [List.length_take] at lf
    by_cases g : ((byt q.k 0 : Nat) : Int) = 114
    · have hw2 : IntKind.i64.wrap ((((m.take i3).filter isRK).length : Nat) + 1 : Int) = ((((m.take (i3 + 1)).filter isRK).length : Nat) : Int) := by
        rw [w64 (by omega) (by omega), tk, List.filter_append, List.filter_cons_of_pos (by unfold isRK; exact decide_eq_true (by omega)), List.filter_nil, List.length_append]
        rfl
      simp only [t0, t5, t7, t8, el.1, el.2.1, k0, e0, g, hw, hw2, go_sem]
      exact hi5
    · have e1 : (m.take (i3 + 1)).filter isRK = (m.take i3).filter isRK := by
        rw [tk, List.filter_append, List.filter_cons_of_neg (by unfold isRK; rw [decide_eq_false (by omega)]; decide), List.filter_nil, List.append_nil]
      simp only [t0, t5, t7, t8, el.1, el.2.1, k0, e0, g, hw, e1, go_sem]
      exact hi5
  have hi5 : i3 = m.length := by omega
  have hti : m.take i3 = m := by rw [hi5, List.take_length]
  rw [hti] at t7
  simp only [t5, t7, hti, go_sem]
  have hBe : B = decide ((((m.filter isRK).length : Nat) : Int) = (S : Int)) := by
    rw [hB]
    by_cases e : (m.filter isRK).length = S
    · rw [tB_t ⟨c1, hR6, hent, hrs, e⟩, decide_eq_true (by omega)]
    · rw [tB_f fun k => e k.2.2.2.2, decide_eq_false (by omega)]
  rw [hBe]
  exact finish_flat rfl p2
/-- .. which is the program's. -/
theorem k_spec_StateOk (hm : Rows h 2 mv (prsL m)) (hl : m.length ≤ lim) : C T X n_spec_StateOk [mv] h = some (.bool (tB (StI cfR m)), h) := by
  rw [tB_iff (st_same cut_cat)]
  exact k_spec_StateOk0 hm hl
end
end Go.Proofs.YtgmljppiiighmaaGreatDoor.Ab
set_option linter.unusedSimpArgs false
set_option linter.unusedVariables false
set_option linter.unnecessarySimpa false
set_option maxHeartbeats 4000000
namespace Go.Proofs.YtgmljppiiighmaaGreatDoor.Ab
open Go.RowKit
/-- The bytes of a state's first pairs. -/
def stAcc (m : List Pr) (i : Nat) : ByteArray := (m.take i).foldl (fun s p => s ++ (shortT p.k ++ shortT p.v)) (varT m.length)
theorem varT_size {n : Nat} (h : n ≤ 1000000000) : (varT n).size ≤ 5 := by unfold varT; rw [strOfNums_size]; exact varL_len _ h
theorem shortT_size {x : ByteArray} (h : x.size ≤ 1000000000) : (shortT x).size ≤ x.size + 5 := by
  have := varT_size h
  unfold shortT
  rw [ByteArray.size_append]
  omega
theorem stAcc_all {m : List Pr} : stAcc m m.length = stT m := by unfold stAcc stT; rw [List.take_length]
theorem stAcc_next {m : List Pr} {i : Nat} (h : i < m.length) : stAcc m (i + 1) = stAcc m i ++ (shortT (m.getD i p0).k ++ shortT (m.getD i p0).v) := by
  unfold stAcc
  rw [List.take_add_one, List.foldl_append, List.getElem?_eq_getElem h]
  simp [List.getD_eq_getElem?_getD, List.getElem?_eq_getElem h]
theorem stAcc_size {m : List Pr} (hl : m.length ≤ 120) (hp : ∀ p ∈ m, p.k.size ≤ 8 ∧ p.v.size ≤ 40) : ∀ i, i ≤ m.length → (stAcc m i).size ≤ 5 + 58 * i
  | 0, _ => varT_size (by omega)
  | i + 1, h => by
    have ih := stAcc_size hl hp i (by omega)
    have hq := hp _ (getD_mem (d := p0) (show i < m.length by omega))
    have h1 := shortT_size (x := (m.getD i p0).k) (by omega)
    have h2 := shortT_size (x := (m.getD i p0).v) (by omega)
    rw [stAcc_next (by omega), ByteArray.size_append, ByteArray.size_append]
    omega
open Classical in
noncomputable def stV (m : List Pr) : Value := if StI cfR m then .tuple ⟨[.string (sealT (stT m)), .bool true]⟩ else .tuple ⟨[.string noT, .bool false]⟩
section
variable {X : CallF} {h : Heap} {s : ByteArray}
theorem k_spec_l04Short (hs : s.size ≤ 1000000000) : C T X n_spec_l04Short [.string s] h = some (.string (shortT s), h) := by
  have c := k_spec_l01Var (X := X) (h := h) hs
  have hv := varT_size hs
  have hz : (varT s.size).size + s.size ≤ 9223372036854775807 := by omega
  refine C_go t_spec_l04Short rfl ?_
  unfold F_spec_l04Short
  simp only [c, hz, List.prefix_refl, go_sem]
  rfl
end
section
variable {X : CallF} [LibX X] {h : Heap} {m : List Pr} {mv : Value}
end
section
variable {X : CallF} {h : Heap} {m : List Pr} {mv : Value}
open Classical in
theorem k_spec_StateText (hm : Rows h 2 mv (prsL m)) (hl : m.length ≤ lim) : C T X n_spec_StateText [mv] h = some (stV m, h) := by
  have c := k_spec_StateOk (X := X) hm hl
  refine C_go t_spec_StateText rfl ?_
  unfold F_spec_StateText stV
  by_cases st : StI cfR m
  rotate_left
  · rw [tB_f st] at c
    rw [if_neg st]
    simp only [c, List.prefix_refl, go_sem]
    try rfl
  rw [tB_t st] at c
  rw [if_pos st]
  obtain ⟨m1, m2⟩ := map_sz st
  have cv := k_spec_l01Var (X := X) (h := h) (n := m.length) (by omega)
  simp only [c, hm.lnm, cv, List.prefix_refl, go_sem]
  refine w_for m.length (fun i t loc h' => h' = h ∧ t 0 = mv ∧ t 5 = .int .i64 i ∧ t 4 = .string (stAcc m i)) ⟨rfl, rfl, rfl, rfl⟩ ?_
  rintro i t loc h' hi ⟨rfl, t0, t5, t4⟩
  simp only [t0, t5, hm.lnm, go_sem]
  refine w_open (by simp only [go_sem]; rfl) ?_ ?_ <;> intro hc
  · have hi1 : i < m.length := by omega
    have hw : IntKind.i64.wrap ((i : Int) + 1) = ((i + 1 : Nat) : Int) := w64 (by omega) (by omega)
    have el := hm.el (f := prR) p0 hi1
    have cl0 := hm.cell (f := prR) p0 hi1 (o := 0) (by omega)
    have cl1 := hm.cell (f := prR) p0 hi1 (o := 1) (by omega)
    have hz := stAcc_size m1 m2 i (by omega)
    have hn := stAcc_next hi1
    have hq2 := m2 _ (getD_mem (d := p0) hi1)
    obtain ⟨q, hq⟩ : ∃ q, q = m.getD i p0 := ⟨_, rfl⟩
    rw [← hq] at el hn hq2 cl0 cl1
    have k0 : ldC h' (elemP mv 2 i 0) 1 = some [.string q.k] := cl0
    have k1 : ldC h' (elemP mv 2 i 1) 1 = some [.string q.v] := cl1
    have c1 := k_spec_l04Short (X := X) (h := h') (s := q.k) (by omega)
    have c2 := k_spec_l04Short (X := X) (h := h') (s := q.v) (by omega)
    have z1 := shortT_size (x := q.k) (by omega)
    have z2 := shortT_size (x := q.v) (by omega)
    have z3 : (stAcc m i).size + (shortT q.k).size ≤ 9223372036854775807 := by omega
    have z4 : (stAcc m i).size + (shortT q.k).size + (shortT q.v).size ≤ 9223372036854775807 := by omega
    simp only [t0, t4, t5, el.1, el.2.1, k0, k1, c1, c2, z3, z4, hw, List.prefix_refl, go_sem]
    exact ⟨hi1, by rw [hn, ByteArray.append_assoc]⟩
  · have : i = m.length := by omega
    subst this
    have hz := stAcc_size m1 m2 m.length (Nat.le_refl _)
    rw [stAcc_all] at t4 hz
    have c3 := k_spec_Sealed (X := X) (h := h') (s := stT m) (by unfold lim; omega)
    unfold sealV at c3
    rw [if_pos (by omega)] at c3
    simp only [t4, c3, List.prefix_refl, go_sem]
    try rfl
end
end Go.Proofs.YtgmljppiiighmaaGreatDoor.Ab
set_option linter.unusedSimpArgs false
set_option linter.unusedVariables false
set_option linter.unnecessarySimpa false
set_option maxHeartbeats 4000000
namespace Go.Proofs.YtgmljppiiighmaaGreatDoor.Ab
open Go.RowKit
def rsV : Option (ByteArray × Nat) → Value
  | some (x, k) => .tuple ⟨[.string x, .int .i64 (k : Nat), .bool true]⟩
  | none => .tuple ⟨[.string noT, .int .i64 0, .bool false]⟩
open Classical in
/-- What a state's reading tells. -/
noncomputable def rsRes (t : ByteArray) : List Pr × Bool := match unS t with
  | some b => if RdI cfR b then ((stR b (stN b).1.toNat).1, true) else ([], false)
  | none => ([], false)
theorem unS_size {t b : ByteArray} (h : unS t = some b) : b.size ≤ 8000 := (unS_some h).2
section
variable {X : CallF} {h : Heap} {s : ByteArray} {a : Int}
theorem k_impl_ReadShort (hs : s.size ≤ lim) (ha : I64 a) : C T X n_impl_ReadShort [.string s, .int .i64 a] h = some (rsV (rsAt s a), h) := by
  have c := k_impl_ReadVar (X := X) (h := h) hs ha
  refine C_go t_impl_ReadShort rfl ?_
  unfold F_impl_ReadShort rsAt
  unfold lim at hs
  cases hr : rvAt s a with
  | none =>
    rw [hr] at c
    unfold rvT at c
    simp only [c, List.prefix_refl, go_sem]
    rfl
  | some nk =>
    obtain ⟨n, k⟩ := nk
    rw [hr] at c
    unfold rvT at c
    have hb := rvAt_bnd hr
    simp only
    have hw : IntKind.i64.wrap ((s.size : Int) - (k : Int)) = (s.size : Int) - k := w64 (by omega) (by omega)
    by_cases c1 : (n : Int) > 8000
    · rw [if_pos (.inl (by omega))]
      simp only [c, c1, List.prefix_refl, go_sem]
      rfl
    by_cases c2 : (n : Int) > (s.size : Int) - k
    · rw [if_pos (.inr (by omega))]
      simp only [c, c1, c2, hw, List.prefix_refl, go_sem]
      rfl
    rw [if_neg (by omega)]
    have hw2 : IntKind.i64.wrap ((k : Int) + (n : Int)) = ((k + n : Nat) : Int) := w64 (by omega) (by omega)
    have hsl := sl_mid (s := s) (a := k) (b := k + n) (by omega) (by omega)
    simp only [c, c1, c2, hw, hw2, hsl, List.prefix_refl, go_sem]
    rfl
theorem k_spec_ReadShort (hs : s.size ≤ lim) (ha : I64 a) : C T X n_spec_ReadShort [.string s, .int .i64 a] h = some (rsV (rsAt s a), h) := by
  have c := k_spec_ReadVar (X := X) (h := h) hs ha
  refine C_go t_spec_ReadShort rfl ?_
  unfold F_spec_ReadShort rsAt
  unfold lim at hs
  cases hr : rvAt s a with
  | none =>
    rw [hr] at c
    unfold rvT at c
    simp only [c, List.prefix_refl, go_sem]
    rfl
  | some nk =>
    obtain ⟨n, k⟩ := nk
    rw [hr] at c
    unfold rvT at c
    have hb := rvAt_bnd hr
    simp only
    have hw : IntKind.i64.wrap ((s.size : Int) - (k : Int)) = (s.size : Int) - k := w64 (by omega) (by omega)
    by_cases c1 : (n : Int) > 8000
    · rw [if_pos (.inl (by omega))]
      simp only [c, c1, List.prefix_refl, go_sem]
      rfl
    by_cases c2 : (n : Int) > (s.size : Int) - k
    · rw [if_pos (.inr (by omega))]
      simp only [c, c1, c2, hw, List.prefix_refl, go_sem]
      rfl
    rw [if_neg (by omega)]
    have hw2 : IntKind.i64.wrap ((k : Int) + (n : Int)) = ((k + n : Nat) : Int) := w64 (by omega) (by omega)
    have hsl := sl_mid (s := s) (a := k) (b := k + n) (by omega) (by omega)
    simp only [c, c1, c2, hw, hw2, hsl, List.prefix_refl, go_sem]
    rfl
theorem rsAt_bnd {m : Int} {x : ByteArray} {k : Nat} (h : rsAt s m = some (x, k)) : k ≤ s.size := by
  unfold rsAt at h
  cases hr : rvAt s m with
  | none => rw [hr] at h; cases h
  | some nk =>
    obtain ⟨n, k'⟩ := nk
    rw [hr] at h
    simp only at h
    split at h
    · cases h
    · cases h; omega
theorem shStep_le {p : Nat × Bool} (hp : p.1 ≤ s.size) : (shStep s p).2.1 ≤ s.size := by
  unfold shStep
  split
  · exact hp
  · split
    · rename_i h; exact rsAt_bnd h
    · exact hp
variable {b : Nat} {p : Nat × Bool}
theorem k_impl_short (hb : h[b]? = some (rdB y_reader s p)) (hs : s.size ≤ lim) (hp : p.1 ≤ s.size) : C T X n_impl_reader_short [pk b 0] h = some (.string (shStep s p).1, h.set b (rdB y_reader s (shStep s p).2)) := by
  have hs' := hs
  unfold lim at hs'
  have cv := k_impl_ReadShort (X := X) (h := h) hs (a := (p.1 : Int)) ⟨by omega, by omega⟩
  refine C_go t_impl_reader_short rfl ?_
  unfold F_impl_reader_short
  obtain ⟨a, bad⟩ := p
  cases hr : rsAt s (a : Int) with
  | none =>
    rw [hr] at cv
    unfold rsV at cv
    cases bad with
    | true =>
      have hn : shStep s (a, true) = (noT, (a, true)) := rfl
      rw [hn]
      simp only [rd_fa hb, rd_chk hb, rd_ld0 hb, rd_ld1 hb, rd_ld2 hb, rd_st2 hb, cv, List.prefix_refl, go_sem]
      exact finish_room set_len
    | false =>
      have hn : shStep s (a, false) = (noT, (a, true)) := by simp only [shStep, hr]
      rw [hn]
      simp only [rd_fa hb, rd_chk hb, rd_ld0 hb, rd_ld1 hb, rd_ld2 hb, rd_st2 hb, cv, List.prefix_refl, go_sem]
      exact finish_room set_len
  | some q =>
    obtain ⟨n, k⟩ := q
    rw [hr] at cv
    unfold rsV at cv
    cases bad with
    | true =>
      have hn : shStep s (a, true) = (noT, (a, true)) := rfl
      rw [hn]
      simp only [rd_fa hb, rd_chk hb, rd_ld0 hb, rd_ld1 hb, rd_ld2 hb, rd_st2 hb, cv, List.prefix_refl, go_sem]
      exact finish_room set_len
    | false =>
      have hn : shStep s (a, false) = (n, (k, false)) := by simp only [shStep, hr]
      rw [hn]
      simp only [rd_fa hb, rd_chk hb, rd_ld0 hb, rd_ld1 hb, rd_ld2 hb, rd_st1 hb, cv, List.prefix_refl, go_sem]
      exact finish_room set_len
theorem Rdr.sh {h0 h' : Heap} (a : Rdr b y_reader s h0 h' p) : Rdr b y_reader s h0 (h'.set b (rdB y_reader s (shStep s p).2)) (shStep s p).2 :=
  ⟨by rw [set_len]; exact a.len, fun i hi hb => by rw [List.getElem?_set_ne (Ne.symm hb)]; exact a.old i hi hb, rd_set a.at_, shStep_le a.le⟩
end
section
variable {X : CallF} [LibX X] {h : Heap} {s : ByteArray}
open Classical in
theorem k_impl_ReadState (hs : s.size ≤ lim) : ∃ v hh, C T X n_impl_ReadState [.string s] h = some (.tuple ⟨[v, .bool (rsRes s).2]⟩, hh) ∧ h <+: hh ∧ Own hh h.length hh.length 2 y_Pair v (prsL (rsRes s).1) := by
  suffices hx : ∃ w hh, C T X n_impl_ReadState [.string s] h = some (w, hh) ∧ h <+: hh ∧ ∃ v, w = .tuple ⟨[v, .bool (rsRes s).2]⟩ ∧ Own hh h.length hh.length 2 y_Pair v (prsL (rsRes s).1) by
    obtain ⟨w, hh, c, p, v, rfl, o⟩ := hx
    exact ⟨v, hh, c, p, o⟩
  have cu := k_impl_Unsealed (X := X) (h := h) hs
  refine C_ex t_impl_ReadState rfl ?_
  unfold F_impl_ReadState rsRes
  unfold unV' at cu
  cases hu : unS s with
  | none =>
    rw [hu] at cu
    simp only [Option.getD_none, Option.isSome_none] at cu
    simp only [cu, List.prefix_refl, go_sem]
    exact ⟨_, rfl, Own.nil⟩
  | some body =>
    rw [hu] at cu
    simp only [Option.getD_some, Option.isSome_some] at cu
    have hb8 := unS_size hu
    have hbl9 : body.size ≤ lim := by unfold lim; omega
    obtain ⟨g, hg⟩ : ∃ g : Heap, g = h ++ [rdB y_reader body (0, false)] := ⟨_, rfl⟩
    have hbw : bxW h y_reader 3 (.agg ⟨[.string body, .int .i64 0, .bool false]⟩) = some (pk h.length 0, g) := by rw [hg]; rfl
    obtain ⟨b, hb⟩ : ∃ b, b = h.length := ⟨_, rfl⟩
    rw [← hb] at hbw
    have hgb : g[b]? = some (rdB y_reader body (0, false)) := by rw [hg, hb]; simp
    have hgl : g.length = b + 1 := by rw [hg, hb]; simp
    have hbl : b < g.length := by omega
    have hpg : h <+: g := by rw [hg]; exact List.prefix_append _ _
    have r0 : Rdr b y_reader body g g (0, false) := Rdr.refl hgb (Nat.zero_le _)
    have c1 := k_impl_num (X := X) r0.at_ hbl9 r0.le
    have r1 := r0.num
    have hne := num_rng (s := body) (q := (0, false)) (Nat.zero_le _)
    obtain ⟨N, hN⟩ : ∃ N : Nat, (numStep body (0, false)).1 = N := ⟨(numStep body (0, false)).1.toNat, by omega⟩
    have hN9 : N ≤ 1000000000 := by omega
    rw [hN] at c1
    have hst : stR body (stN body).1.toNat = rdN (prStep body) N (stN body).2 := by unfold stR; rw [show (stN body).1 = (N : Int) from hN, Int.toNat_natCast]
    have hq0 : (numStep body (0, false)).2 = (stN body).2 := rfl
    rw [hq0] at c1 r1
    obtain ⟨g1, hg1⟩ : ∃ g1, g1 = g.set b (rdB y_reader body (stN body).2) := ⟨_, rfl⟩
    rw [← hg1] at c1 r1
    have hpg1 : ∀ c, c < h.length → g1[c]? = h[c]? := fun c hc => by
      rw [hg1, List.getElem?_set_ne (by omega), hg, List.getElem?_append_left hc]
    simp only [cu, hbw, c1, List.prefix_refl, zeros, fillAt, go_sem]
    refine w_measX 0 N (fun m t loc h' => m ≤ N ∧ t 6 = pk b 0 ∧ ∃ L q v, t 8 = .int .i64 (m : Nat) ∧ t 7 = v ∧ Rdr b y_reader body g h' q ∧ Own h' g.length h'.length 2 y_Pair v (prsL L) ∧ RdTo (prStep body) N (stN body).2 L m q)
      (fun t loc h' => t 6 = pk b 0 ∧ ∃ v, t 7 = v ∧ Rdr b y_reader body g h' (stR body (stN body).1.toNat).2 ∧ Own h' g.length h'.length 2 y_Pair v (prsL (stR body (stN body).1.toNat).1))
      ⟨Nat.le_refl _, rfl, [], _, _, rfl, rfl, r1, Own.nil, RdTo.start⟩ ?_ ?_
    · rintro k t loc h' ⟨hkN, t6, L, q, v, t8, t7, hr, o, hto⟩
      have hpk : ∀ j, faV h' (pk b 0) j = some (pk b j) := fun j => rd_fa hr.at_
      by_cases hk : (k : Int) > 0
      · cases hq : q.2 with
        | false =>
          have d1 := k_impl_short (X := X) hr.at_ hbl9 hr.le
          have s1 := hr.sh
          obtain ⟨h1, hh1⟩ : ∃ h1, h1 = h'.set b (rdB y_reader body (shStep body q).2) := ⟨_, rfl⟩
          rw [← hh1] at d1 s1
          have d2 := k_impl_short (X := X) s1.at_ hbl9 s1.le
          have s2 := s1.sh
          have o1 : Own h1 g.length h1.length 2 y_Pair v (prsL L) := by
            have : h1.length = h'.length := by rw [hh1, set_len]
            rw [this, hh1]
            exact o.num hbl
          obtain ⟨h2, hh2⟩ : ∃ h2, h2 = h1.set b (rdB y_reader body (shStep body (shStep body q).2).2) := ⟨_, rfl⟩
          rw [← hh2] at d2 s2
          have o2 : Own h2 g.length h2.length 2 y_Pair v (prsL L) := by
            have : h2.length = h1.length := by rw [hh2, set_len]
            rw [this, hh2]
            exact o1.num hbl
          have hLN := hto.len
          obtain ⟨v3, h3, c3, q1, q2, o3⟩ := o2.push1 s2.len [.string (shStep body q).1, .string (shStep body (shStep body q).2).1] rfl (by unfold prsL; rw [List.length_map]; unfold lim; omega)
          have hw : IntKind.i64.wrap ((k : Int) - 1) = ((k - 1 : Nat) : Int) := by rw [w64 (by omega) (by omega)]; omega
          simp only [t6, t7, t8, hk, hpk, rd_chk hr.at_, rd_ld2 hr.at_, hq, d1, d2, zeros, fillAt, c3, hw, go_sem]
          have hkk : k = (k - 1) + 1 := by omega
          rw [hkk] at hto
          refine ⟨k - 1, by omega, by omega, L ++ [(prStep body q).1], (prStep body q).2, v3, rfl, rfl, s2.push hbl q1 (fun c hc => q2 c (.inl hc)), ?_, hto.next hq⟩
          rw [Nat.max_eq_right q1] at o3
          simpa [prsL, prR, prStep] using o3
        | true =>
          have hd := hto.done (.inr hq)
          simp only [t6, t7, t8, hk, hpk, rd_chk hr.at_, rd_ld2 hr.at_, hq, go_sem]
          rw [hst, hd]
          exact ⟨v, rfl, hr, o⟩
      · have hd := hto.done (.inl (by omega))
        simp only [t6, t7, t8, hk, go_sem]
        rw [hst, hd]
        exact ⟨v, rfl, hr, o⟩
    rintro t loc h' ⟨t6, v, t7, hr, o⟩
    have hp : h <+: h' := pre_of_get (by have := hr.len; omega) fun c hc => by
      rw [hr.old c (by omega) (by omega), hg, List.getElem?_append_left hc]
    have ce := k_impl_ends (X := X) hr.at_
    obtain ⟨q, hq⟩ : ∃ q, q = stR body (stN body).1.toNat := ⟨_, rfl⟩
    have hql : q.1.length ≤ N := by rw [hq, hst]; exact rdN_len
    unfold RdI
    rw [← hq] at hr o ce ⊢
    have cs := k_impl_StateOk (X := X) o.rows (by unfold lim; omega)
    have ow : Own h' h.length h'.length 2 y_Pair v (prsL q.1) := o.wide (by omega) (Nat.le_refl _)
    by_cases e1 : q.2.2 = false
    rotate_left
    · have e1' : q.2.2 = true := by simpa using e1
      rw [if_neg (fun k => e1 k.1)]
      rw [e1'] at ce
      simp only [t6, t7, ce, go_sem]
      exact ⟨by rw [finish_flat rfl hp]; exact List.prefix_refl _, by rw [finish_flat rfl hp]; exact ⟨_, rfl, Own.nil⟩⟩
    by_cases e2 : q.2.1 = body.size
    rotate_left
    · rw [if_neg (fun k => e2 k.2.1)]
      rw [e1] at ce
      simp only [t6, t7, ce, e2, go_sem]
      exact ⟨by rw [finish_flat rfl hp]; exact List.prefix_refl _, by rw [finish_flat rfl hp]; exact ⟨_, rfl, Own.nil⟩⟩
    rw [e1, e2] at ce
    by_cases e3 : StI cfR q.1
    rotate_left
    · rw [if_neg (fun k => e3 k.2.2)]
      rw [tB_f e3] at cs
      simp only [t6, t7, ce, cs, List.prefix_refl, go_sem]
      exact ⟨by rw [finish_flat rfl hp]; exact List.prefix_refl _, by rw [finish_flat rfl hp]; exact ⟨_, rfl, Own.nil⟩⟩
    rw [if_pos ⟨e1, e2, e3⟩]
    rw [tB_t e3] at cs
    simp only [t6, t7, ce, cs, List.prefix_refl, o.live, go_sem]
    obtain ⟨hh, e, p1, hc⟩ := finish_cases (v := .tuple ⟨[v, .bool true]⟩) hp
    rw [e]
    rcases hc with rfl | ⟨hf, rfl⟩
    · exact ⟨p1, v, rfl, ow⟩
    · have hf' : prim v = true := by
        rcases ow.is with ⟨rfl, _⟩ | ⟨c, _, _, rfl, _⟩
        · rfl
        · simp [flat, flat1, prim] at hf
      exact ⟨p1, v, rfl, ow.flatP hf'⟩
end
section
variable {X : CallF} {h : Heap} {s : ByteArray}
theorem fin_two {v : Value} {bb : Bool} {hh : Heap} {L : List Pr} (hp : h <+: hh) (o : Own hh h.length hh.length 2 y_Pair v (prsL L)) :
    h <+: (finish h (.tuple ⟨[v, .bool bb]⟩, hh)).2 ∧ ∃ v', (finish h (.tuple ⟨[v, .bool bb]⟩, hh)).1 = .tuple ⟨[v', .bool bb]⟩ ∧ Own (finish h (.tuple ⟨[v, .bool bb]⟩, hh)).2 h.length (finish h (.tuple ⟨[v, .bool bb]⟩, hh)).2.length 2 y_Pair v' (prsL L) := by
  obtain ⟨h3, e, p1, hc⟩ := finish_cases (v := .tuple ⟨[v, .bool bb]⟩) hp
  rw [e]
  rcases hc with rfl | ⟨hf, rfl⟩
  · exact ⟨p1, v, rfl, o⟩
  · have hf' : prim v = true := by
      rcases o.is with ⟨rfl, _⟩ | ⟨c, _, _, rfl, _⟩
      · rfl
      · simp [flat, flat1, prim] at hf
    exact ⟨p1, v, rfl, o.flatP hf'⟩
theorem fin_empty {h' : Heap} (hp : h <+: h') : h <+: (finish h (.tuple ⟨[.slice (some ⟨h'.length, 0, none⟩) 0 0, .bool false]⟩, h' ++ [⟨[], 2, y_Pair, true⟩])).2 ∧ ∃ v', (finish h (.tuple ⟨[.slice (some ⟨h'.length, 0, none⟩) 0 0, .bool false]⟩, h' ++ [⟨[], 2, y_Pair, true⟩])).1 = .tuple ⟨[v', .bool false]⟩ ∧ Own (finish h (.tuple ⟨[.slice (some ⟨h'.length, 0, none⟩) 0 0, .bool false]⟩, h' ++ [⟨[], 2, y_Pair, true⟩])).2 h.length (finish h (.tuple ⟨[.slice (some ⟨h'.length, 0, none⟩) 0 0, .bool false]⟩, h' ++ [⟨[], 2, y_Pair, true⟩])).2.length 2 y_Pair v' (prsL []) :=
  fin_two (hp.trans (List.prefix_append _ _)) ((Acc.new (h := h')).own.wide (pre_len hp) (Nat.le_refl _))
theorem rsV_ext {o : Option (ByteArray × Nat)} : rsV o = .tuple ⟨[.string ((o.map (·.1)).getD noT), .int .i64 (((o.map (·.2)).getD 0 : Nat) : Int), .bool o.isSome]⟩ := by
  cases o with
  | none => rfl
  | some q => rfl
theorem rs_le (o : Option (ByteArray × Nat)) {a : Int} (h : rsAt s a = o) : (o.map (·.2)).getD 0 ≤ s.size := by
  cases o with
  | none => exact Nat.zero_le _
  | some q => exact rsAt_bnd (x := q.1) (k := q.2) h
theorem sh_some {p : Nat × Bool} {x : ByteArray} {k : Nat} (hp : p.2 = false) (h : rsAt s p.1 = some (x, k)) : shStep s p = (x, (k, false)) := by
  unfold shStep
  rw [hp]
  simp only [h]
theorem sh_none {p : Nat × Bool} (hp : p.2 = false) (h : rsAt s p.1 = none) : shStep s p = (noT, (p.1, true)) := by
  unfold shStep
  rw [hp]
  simp only [h]
open Classical in
theorem k_spec_ReadState (hs : s.size ≤ lim) : ∃ v hh, C T X n_spec_ReadState [.string s] h = some (.tuple ⟨[v, .bool (rsRes s).2]⟩, hh) ∧ h <+: hh ∧ Own hh h.length hh.length 2 y_Pair v (prsL (rsRes s).1) := by
  suffices hx : ∃ w hh, C T X n_spec_ReadState [.string s] h = some (w, hh) ∧ h <+: hh ∧ ∃ v, w = .tuple ⟨[v, .bool (rsRes s).2]⟩ ∧ Own hh h.length hh.length 2 y_Pair v (prsL (rsRes s).1) by
    obtain ⟨w, hh, c, p, v, rfl, o⟩ := hx
    exact ⟨v, hh, c, p, o⟩
  have cu := k_spec_Unsealed (X := X) (h := h) hs
  refine C_ex t_spec_ReadState rfl ?_
  unfold F_spec_ReadState
  unfold unV' at cu
  obtain ⟨body, hbody⟩ : ∃ b, b = (unS s).getD noT := ⟨_, rfl⟩
  obtain ⟨okU, hokU⟩ : ∃ b, b = (unS s).isSome := ⟨_, rfl⟩
  rw [← hbody, ← hokU] at cu
  have hb8 : body.size ≤ 8000 := by
    rw [hbody]
    cases hu : unS s with
    | none => exact Nat.zero_le _
    | some b => exact unS_size hu
  have hbl9 : body.size ≤ lim := by unfold lim; omega
  have cv := k_spec_ReadVar (X := X) (h := h) hbl9 (a := 0) ⟨by omega, by omega⟩
  rw [rv_ext0] at cv
  obtain ⟨n, hn⟩ : ∃ n, n = ((rvAt body 0).map (·.1)).getD 0 := ⟨_, rfl⟩
  obtain ⟨a0, ha0⟩ : ∃ n, n = ((rvAt body 0).map (·.2)).getD 0 := ⟨_, rfl⟩
  obtain ⟨ok0, hok0⟩ : ∃ b, b = (rvAt body 0).isSome := ⟨_, rfl⟩
  rw [← hn, ← ha0, ← hok0] at cv
  have hst : (ok0 = true ∧ stN body = ((n : Int), (a0, false)) ∧ a0 ≤ body.size) ∨ (ok0 = false ∧ stN body = (0, (0, true)) ∧ n = 0) := by
    unfold stN numStep
    have e0 : ((0, false) : Nat × Bool).1 = 0 := rfl
    cases hr : rvAt body 0 with
    | none =>
      right
      rw [hr] at hn hok0
      have hr' : rvAt body (((0, false) : Nat × Bool).1 : Int) = none := hr
      simp only at hr' ⊢
      simp only [Int.ofNat_zero, Int.natCast_zero] at hr' ⊢
      exact ⟨hok0, trivial, hn⟩
    | some q =>
      left
      obtain ⟨n', k'⟩ := q
      have hb := rvAt_bnd hr
      rw [hr] at hn hok0 ha0
      simp only [Option.map_some, Option.getD_some, Option.isSome_some] at hn hok0 ha0
      simp only [Int.natCast_zero]
      exact ⟨hok0, by rw [hn, ha0], by omega⟩
  have hn9 : n ≤ 1000000000 := by
    cases hr : rvAt body 0 with
    | none => rw [hr] at hn; simp at hn; omega
    | some q => have := rvAt_bnd (m := q.1) (k := q.2) hr; rw [hr] at hn; simp at hn; omega
  obtain ⟨K, hK⟩ : ∃ K, K = capP (stN body).1 := ⟨_, rfl⟩
  have hKn : ok0 = true → K = min n 121 := fun h => by
    rcases hst with ⟨_, q, _⟩ | ⟨q, _⟩
    · rw [hK, q]; unfold capP; simp
    · rw [h] at q; cases q
  obtain ⟨R, hR⟩ : ∃ R, R = stR body K := ⟨_, rfl⟩
  have hR' : R = rdN (prStep body) K (stN body).2 := hR
  cases okU
  all_goals
    simp only [cu, cv, List.prefix_refl, zeros, fillAt, go_sem]
    refine w_measX 0 121 (fun m t loc h' => t 0 = .string s ∧ t 4 = .string body ∧ t 6 = .int .i64 (n : Nat) ∧ ∃ (i : Nat) (L : List Pr) (v : Value) (okf : Bool) (a : Nat), m + i = 121 ∧ t 10 = .int .i64 (i : Nat) ∧ t 9 = v ∧ h <+: h' ∧ Own h' h.length h'.length 2 y_Pair v (prsL L) ∧ L.length ≤ i ∧ t 5 = .bool okf ∧ t 7 = .int .i64 (a : Nat) ∧ a ≤ body.size ∧
        ((okf = true ∧ (unS s).isSome = true ∧ ok0 = true ∧ ∃ j, j + i = K ∧ RdTo (prStep body) K (stN body).2 L j (a, false)) ∨ (okf = false ∧ ¬ ((unS s).isSome = true ∧ R.2.2 = false))))
      (fun t loc h' => t 0 = .string s ∧ ∃ (L : List Pr) (v : Value) (okf : Bool), t 9 = v ∧ h <+: h' ∧ Own h' h.length h'.length 2 y_Pair v (prsL L) ∧ L.length ≤ 121 ∧ t 5 = .bool okf ∧
        ((okf = true ∧ (unS s).isSome = true ∧ R.1 = L ∧ R.2.2 = false) ∨ (okf = false ∧ ¬ ((unS s).isSome = true ∧ R.2.2 = false)))) ⟨rfl, rfl, rfl, 0, [], _, _, a0, rfl, rfl, rfl, List.prefix_append _ _, Acc.new.own, Nat.le_refl _, rfl, rfl, ?_, ?_⟩ ?_ ?_
    · rcases hst with ⟨_, _, q⟩ | ⟨q1, q2, q3⟩
      · exact q
      · rw [ha0]
        cases hr : rvAt body 0 with
        | none => exact Nat.zero_le _
        | some q => rw [hok0, hr] at q1; cases q1
    · rcases hst with ⟨q1, q2, _⟩ | ⟨q1, q2, q3⟩
      · first
          | exact .inl ⟨q1, hokU.symm, q1, K, rfl, by rw [q2]; exact RdTo.start⟩
          | exact .inr ⟨rfl, fun k => by rw [← hokU] at k; cases k.1⟩
      · refine .inr ⟨by first | rfl | exact q1, fun k => ?_⟩
        have : R.2.2 = true := by rw [hR', q2]; exact rdN_bad rfl
        rw [this] at k
        cases k.2
    · rintro m t loc h' ⟨t0, t4, t6, i, L, v, okf, a, hmi, t10, t9, hp, o, hL, t5, t7, hab, hc⟩
      by_cases c1 : (i : Int) < n
      rotate_left
      · -- all was read
        simp only [t0, t4, t5, t6, t7, t9, t10, c1, go_sem]
        refine ⟨L, v, okf, rfl, hp, o, by omega, rfl, ?_⟩
        rcases hc with ⟨q1, q2, q3, j, q4, q5⟩ | q
        · have hj : j = 0 := by have := hKn q3; omega
          have hd := q5.done (.inl hj)
          exact .inl ⟨q1, q2, by rw [hR', hd], by rw [hR', hd]⟩
        · exact .inr q
      cases hf : okf with
      | false =>
        rw [hf] at t5 hc
        simp only [t0, t4, t5, t6, t7, t9, t10, c1, go_sem]
        refine ⟨L, v, false, rfl, hp, o, by omega, rfl, ?_⟩
        rcases hc with ⟨q1, _⟩ | q
        · cases q1
        · exact .inr q
      | true =>
        rw [hf] at t5 hc
        by_cases c2 : (i : Int) ≤ 120
        rotate_left
        · simp only [t0, t4, t5, t6, t7, t9, t10, c1, c2, go_sem]
          refine ⟨L, v, true, rfl, hp, o, by omega, rfl, ?_⟩
          rcases hc with ⟨q1, q2, q3, j, q4, q5⟩ | ⟨q, _⟩
          · have hj : j = 0 := by have := hKn q3; omega
            have hd := q5.done (.inl hj)
            exact .inl ⟨q1, q2, by rw [hR', hd], by rw [hR', hd]⟩
          · cases q
        rcases hc with ⟨_, q2, q3, j, q4, q5⟩ | ⟨q, _⟩
        rotate_left
        · cases q
        obtain ⟨j', rfl⟩ : ∃ j', j = j' + 1 := ⟨j - 1, by have := hKn q3; omega⟩
        have hw : IntKind.i64.wrap ((i : Int) + 1) = ((i + 1 : Nat) : Int) := w64 (by omega) (by omega)
        have d1 := k_spec_ReadShort (X := X) (h := h') hbl9 (a := (a : Int)) ⟨by omega, by omega⟩
        rw [rsV_ext] at d1
        obtain ⟨o1, ho1⟩ : ∃ o1, o1 = rsAt body (a : Int) := ⟨_, rfl⟩
        have hl1 := rs_le o1 ho1.symm
        rw [← ho1] at d1
        obtain ⟨a1, ha1⟩ : ∃ a1, a1 = (o1.map (·.2)).getD 0 := ⟨_, rfl⟩
        rw [← ha1] at d1 hl1
        have d2 := k_spec_ReadShort (X := X) (h := h') hbl9 (a := (a1 : Int)) ⟨by omega, by omega⟩
        rw [rsV_ext] at d2
        obtain ⟨o2, ho2⟩ : ∃ o2, o2 = rsAt body (a1 : Int) := ⟨_, rfl⟩
        have hl2 := rs_le o2 ho2.symm
        rw [← ho2] at d2
        obtain ⟨v3, h3, c3, p1, p2, o3⟩ := o.push1 (pre_len hp) [.string ((o1.map (·.1)).getD noT), .string ((o2.map (·.1)).getD noT)] rfl (by unfold prsL; rw [List.length_map]; unfold lim; omega)
        rw [Nat.max_eq_right p1] at o3
        have o3' : Own h3 h.length h3.length 2 y_Pair v3 (prsL (L ++ [⟨(o1.map (·.1)).getD noT, (o2.map (·.1)).getD noT⟩])) := by simpa [prsL, prR] using o3
        have hp3 := pre_push hp (Nat.le_refl _) p1 p2
        have good : RdTo (prStep body) K (stN body).2 (L ++ [(prStep body (a, false)).1]) j' (prStep body (a, false)).2 := q5.next rfl
        have badR : (prStep body (a, false)).2.2 = true → ¬ ((unS s).isSome = true ∧ R.2.2 = false) := fun hb k => by
          have hd := good.done (.inr hb)
          rw [hR', hd] at k
          rw [hb] at k
          cases k.2
        cases e1 : o1 with
        | none =>
          have hs1 := sh_none (s := body) (p := (a, false)) rfl (by rw [← e1, ho1])
          have hbad : (prStep body (a, false)).2.2 = true := by
            show (shStep body (shStep body (a, false)).2).2.2 = true
            exact sh_bad (by rw [hs1])
          rw [e1] at d1 c3 o3'
          simp only [Option.isSome_none, Option.map_none, Option.getD_none] at d1 c3 o3'
          simp only [t0, t4, t5, t6, t7, t9, t10, c1, c2, d1, d2, c3, zeros, fillAt, hw, List.prefix_refl, go_sem]
          refine ⟨m - 1, by omega, i + 1, _, v3, false, _, by omega, rfl, rfl, hp3, o3', by simp; omega, rfl, rfl, hl2, .inr ⟨rfl, badR hbad⟩⟩
        | some x1 =>
          obtain ⟨x, k1⟩ := x1
          have hs1 := sh_some (s := body) (p := (a, false)) rfl (by rw [← e1, ho1])
          rw [e1] at d1 c3 o3' ha1
          simp only [Option.isSome_some, Option.map_some, Option.getD_some] at d1 c3 o3'
          have ha1' : a1 = k1 := ha1
          cases e2 : o2 with
          | none =>
            have hs2 := sh_none (s := body) (p := (k1, false)) rfl (by rw [← e2, ho2, ha1'])
            have hbad : (prStep body (a, false)).2.2 = true := by
              show (shStep body (shStep body (a, false)).2).2.2 = true
              rw [hs1]
              simp only
              rw [hs2]
            rw [e2] at d2 c3 o3' hl2
            simp only [Option.isSome_none, Option.map_none, Option.getD_none] at d2 c3 o3' hl2
            simp only [t0, t4, t5, t6, t7, t9, t10, c1, c2, d1, d2, c3, zeros, fillAt, hw, List.prefix_refl, go_sem]
            refine ⟨m - 1, by omega, i + 1, _, v3, false, _, by omega, rfl, rfl, hp3, o3', by simp; omega, rfl, rfl, hl2, .inr ⟨rfl, badR hbad⟩⟩
          | some x2 =>
            obtain ⟨y, k2⟩ := x2
            have hs2 := sh_some (s := body) (p := (k1, false)) rfl (by rw [← e2, ho2, ha1'])
            have hps : prStep body (a, false) = (⟨x, y⟩, (k2, false)) := by
              unfold prStep
              rw [hs1]
              simp only
              rw [hs2]
            rw [hps] at good
            rw [e2] at d2 c3 o3' hl2
            simp only [Option.isSome_some, Option.map_some, Option.getD_some] at d2 c3 o3' hl2
            simp only [t0, t4, t5, t6, t7, t9, t10, c1, c2, d1, d2, c3, zeros, fillAt, hw, List.prefix_refl, go_sem]
            refine ⟨m - 1, by omega, i + 1, _, v3, true, _, by omega, rfl, rfl, hp3, o3', by simp; omega, rfl, rfl, hl2, .inl ⟨rfl, q2, q3, j', by omega, good⟩⟩
    rintro t loc h' ⟨t0, L, v, okf, t9, hp, o, hL, t5, hc⟩
    have cs := k_spec_StateText (X := X) o.rows (by unfold lim; omega)
    unfold stV at cs
    rcases hc with ⟨rfl, hU, hRL, hRb⟩ | ⟨rfl, hno⟩
    · -- all was well read
      have hu : unS s = some body := by
        cases hu : unS s with
        | none => rw [hu] at hU; cases hU
        | some b => rw [hu] at hbody; rw [hbody]; rfl
      have hsb := unS_some hu
      by_cases st : StI cfR L
      · rw [if_pos st] at cs
        by_cases e : stT L = body
        · have hS : RdS cfR body := ⟨by rw [← hK, ← hR]; exact hRb, by rw [← hK, ← hR, hRL]; exact st, by rw [← hK, ← hR, hRL]; exact e⟩
          have hI := rd_same'.1.2 hS
          have hres : rsRes s = (L, true) := by
            unfold rsRes
            rw [hu]
            simp only
            rw [if_pos hI, rd_same'.2 hI, ← hK, ← hR, hRL]
          have e2 : sealT (stT L) = s := by rw [e]; exact hsb.1
          simp only [t0, t5, t9, cs, e2, str_eq, o.live, List.prefix_refl, go_sem]
          rw [hres]
          obtain ⟨hh, e, p1, hc⟩ := finish_cases (v := .tuple ⟨[v, .bool true]⟩) hp
          rw [e]
          rcases hc with rfl | ⟨hf, rfl⟩
          · exact ⟨p1, v, rfl, o⟩
          · have hf' : prim v = true := by
              rcases o.is with ⟨rfl, _⟩ | ⟨c, _, _, rfl, _⟩
              · rfl
              · simp [flat, flat1, prim] at hf
            exact ⟨p1, v, rfl, o.flatP hf'⟩
        · have hno : ¬ RdI cfR body := fun k => e (by have := (rd_same'.1.1 k).2.2; rw [← hK, ← hR, hRL] at this; exact this)
          have hres : rsRes s = ([], false) := by
            unfold rsRes
            rw [hu]
            simp only
            rw [if_neg hno]
          have e2 : ¬ sealT (stT L) = s := fun k => e (seal_inj (k.trans hsb.1.symm))
          simp only [t0, t5, t9, cs, e2, str_eq, zeros, fillAt, List.prefix_refl, go_sem]
          rw [hres]
          exact fin_empty hp
      · have hno : ¬ RdI cfR body := fun k => st (by have := (rd_same'.1.1 k).2.1; rw [← hK, ← hR, hRL] at this; exact this)
        have hres : rsRes s = ([], false) := by
          unfold rsRes
          rw [hu]
          simp only
          rw [if_neg hno]
        rw [if_neg st] at cs
        simp only [t0, t5, t9, cs, zeros, fillAt, List.prefix_refl, go_sem]
        rw [hres]
        exact fin_empty hp
    · have hres : rsRes s = ([], false) := by
        unfold rsRes
        cases hu : unS s with
        | none => rfl
        | some b =>
          simp only
          rw [hu] at hbody hokU
          rw [if_neg fun k => hno ⟨by rw [hu]; rfl, ?_⟩]
          have := (rd_same'.1.1 k).1
          rw [hR, hK, hbody]
          exact this
      by_cases st : StI cfR L
      · rw [if_pos st] at cs
        simp only [t0, t5, t9, cs, zeros, fillAt, List.prefix_refl, go_sem]
        rw [hres]
        exact fin_empty hp
      · rw [if_neg st] at cs
        simp only [t0, t5, t9, cs, zeros, fillAt, List.prefix_refl, go_sem]
        rw [hres]
        exact fin_empty hp
end
end Go.Proofs.YtgmljppiiighmaaGreatDoor.Ab
set_option linter.unusedSimpArgs false
set_option linter.unusedVariables false
set_option linter.unnecessarySimpa false
set_option maxHeartbeats 4000000
namespace Go.Proofs.YtgmljppiiighmaaGreatDoor.Ab
open Go.RowKit
section
variable {h : Heap} {v : Value}
/-- A list of edges. -/
theorem Shape.edges_inv (s : Shape h (.sl [.int .i64, .int .i64, .int .i64, .int .i64, .int .i64]) v) : ∃ l : List E, Rows h 5 v (edges l) ∧ l.length ≤ maxLen ∧ ∀ e ∈ l, I64 e.a ∧ I64 e.b ∧ I64 e.w1 ∧ I64 e.w2 ∧ I64 e.w3 := by
  obtain ⟨rows, hr, hm, hk⟩ := s.sl_inv
  obtain ⟨l, rfl, hl⟩ := rows_map (f := edgeR) (Q := fun e => I64 e.a ∧ I64 e.b ∧ I64 e.w1 ∧ I64 e.w2 ∧ I64 e.w3) (rows := rows) (fun r hrm => by
    obtain ⟨x, r', rfl, hx, h2⟩ := (hk r hrm).cons_inv
    obtain ⟨y, r', rfl, hy, h2⟩ := h2.cons_inv
    obtain ⟨z, r', rfl, hz, h2⟩ := h2.cons_inv
    obtain ⟨u, r', rfl, hu, h2⟩ := h2.cons_inv
    obtain ⟨w, r', rfl, hw, h2⟩ := h2.cons_inv
    obtain rfl := h2.nil_inv
    obtain ⟨a, rfl, ha⟩ := hx.int_inv
    obtain ⟨b, rfl, hb⟩ := hy.int_inv
    obtain ⟨c, rfl, hc⟩ := hz.int_inv
    obtain ⟨d, rfl, hd⟩ := hu.int_inv
    obtain ⟨e, rfl, he⟩ := hw.int_inv
    exact ⟨⟨a, b, c, d, e⟩, rfl, ha, hb, hc, hd, he⟩)
  exact ⟨l, hr, by simpa using hm, hl⟩
theorem ArgOk.graph (a : ArgOk h (true, [.int .i64, .sl [.int .i64, .int .i64, .int .i64, .int .i64, .int .i64]]) v) : ∃ size ev es, v = graphV size ev ∧ I64 size ∧ Rows h 5 ev (edges es) ∧ es.length ≤ maxLen := by
  obtain ⟨acs, k, rfl⟩ := a.row
  obtain ⟨v0, r, rfl, k0, k⟩ := k.cons_inv
  obtain ⟨v1, r, rfl, k1, k⟩ := k.cons_inv
  obtain rfl := k.nil_inv
  obtain ⟨n, rfl, hn⟩ := k0.int_inv
  obtain ⟨es, he, hm, _⟩ := k1.edges_inv
  exact ⟨n, v1, es, rfl, hn, he, hm⟩
def AqOk (x : Aq) : Prop := I64 x.op ∧ I64 x.a ∧ I64 x.b ∧ I64 x.w1 ∧ I64 x.w2 ∧ I64 x.w3
theorem ArgOk.ask (a : ArgOk h (true, [.int .i64, .int .i64, .int .i64, .int .i64, .int .i64, .int .i64]) v) : ∃ x : Aq, v = .agg ⟨aqR x⟩ ∧ AqOk x := by
  obtain ⟨acs, k, rfl⟩ := a.row
  obtain ⟨v0, r, rfl, k0, k⟩ := k.cons_inv
  obtain ⟨v1, r, rfl, k1, k⟩ := k.cons_inv
  obtain ⟨v2, r, rfl, k2, k⟩ := k.cons_inv
  obtain ⟨v3, r, rfl, k3, k⟩ := k.cons_inv
  obtain ⟨v4, r, rfl, k4, k⟩ := k.cons_inv
  obtain ⟨v5, r, rfl, k5, k⟩ := k.cons_inv
  obtain rfl := k.nil_inv
  obtain ⟨n0, rfl, h0⟩ := k0.int_inv
  obtain ⟨n1, rfl, h1⟩ := k1.int_inv
  obtain ⟨n2, rfl, h2⟩ := k2.int_inv
  obtain ⟨n3, rfl, h3⟩ := k3.int_inv
  obtain ⟨n4, rfl, h4⟩ := k4.int_inv
  obtain ⟨n5, rfl, h5⟩ := k5.int_inv
  exact ⟨⟨n0, n1, n2, n3, n4, n5⟩, rfl, h0, h1, h2, h3, h4, h5⟩
end
end Go.Proofs.YtgmljppiiighmaaGreatDoor.Ab
set_option linter.unusedSimpArgs false
set_option linter.unusedVariables false
set_option linter.unnecessarySimpa false
set_option maxHeartbeats 4000000
namespace Go.Proofs.YtgmljppiiighmaaGreatDoor.Ab
open Go.RowKit
theorem rsRes_len (s : ByteArray) : (rsRes s).1.length ≤ 120 := by
  unfold rsRes
  split
  · split
    · rename_i hI
      exact (map_sz hI.2.2).1
    · exact Nat.zero_le _
  · exact Nat.zero_le _
section
variable {X : CallF} [LibX X] {h : Heap} {s : ByteArray}
open Classical in
theorem l_ReadState : C T X n_laws_FnExactReadState [.string s] h = some (.bool true, h) := by
  refine C_go t_laws_FnExactReadState rfl ?_
  unfold F_laws_FnExactReadState
  by_cases hz : (s.size : Int) > 1048576
  · simp only [hz, go_sem]
  have hs : s.size ≤ lim := by unfold lim; omega
  have hl := rsRes_len s
  obtain ⟨v1, h1, c1, p1, o1⟩ := k_spec_ReadState (X := X) (h := h) hs
  obtain ⟨v2, h2, c2, p2, o2⟩ := k_impl_ReadState (X := X) (h := h1) hs
  have q2 := p1.trans p2
  have o1_2 := o1.up p2
  have c3 := k_eqPairS (X := X) o2.rows o1_2.rows (by unfold lim; omega)
  obtain ⟨h4, c4, s4, g4⟩ := k_markPairS (X := X) o2 (by unfold prsL; rw [List.length_map]; unfold lim; omega) (k := 1) (by omega)
  rw [show (prsL (rsRes s).1).length = (rsRes s).1.length from List.length_map ..] at c4 g4
  have o1_4 := o1_2.same s4 (by omega)
  have q4 := s4.pre q2 (by have := pre_len p1; omega)
  have c5 := k_heldPairS (X := X) g4.rows (by unfold lim; omega) (by omega)
  obtain ⟨v6, h6, c6, p6, o6⟩ := k_impl_ReadState (X := X) (h := h4) hs
  have o1_6 := o1_4.up p6
  have g6 := g4.up p6
  have q6 := q4.trans p6
  have c7 := k_eqPairS (X := X) o6.rows o1_6.rows (by unfold lim; omega)
  have c8 := k_heldPairS (X := X) g6.rows (by unfold lim; omega) (by omega)
  have one : ((1 : Nat) : Int) = 1 := rfl
  rw [one] at c4 c5 c8
  have kn : ¬ ((1 + (rsRes s).1.length * 2 : Nat) : Int) < 0 := by omega
  simp only [hz, c1, c2, c3, c4, c5, c6, c7, c8, kn, List.prefix_refl, BEq.rfl, p1, p2, p6, go_sem]
  try exact finish_flat rfl q6
end
def ps_FnExactReadState : List (Bool × List CK) := [(false, [.str])]
theorem law_FnExactReadState (h : Heap) (avs : List Value) (ha : All2 (ArgOk h) ps_FnExactReadState avs) : C T libX n_laws_FnExactReadState avs h = some (.bool true, h) := by
  obtain ⟨v0, r, rfl, k0, ha⟩ := ha.cons_inv
  obtain rfl := ha.nil_inv
  obtain ⟨s, rfl, _⟩ := k0.cell.str_inv
  exact l_ReadState
end Go.Proofs.YtgmljppiiighmaaGreatDoor.Ab
