/- Joined: K57, P16, K60, K61, K66, Op3, LFnExactPoolOf. No conditions. -/
import Derived.Test.YtjgacjidaeahdaaGreatDoorM19
import Derived.Test.YtjgacjidaeahdaaGreatDoorM16
import Derived.Test.YtjgacjidaeahdaaGreatDoorM12
import Derived.Test.YtjgacjidaeahdaaGreatDoorM4
import Derived.Test.YtjgacjidaeahdaaGreatDoorM15
set_option linter.unusedSimpArgs false
set_option linter.unusedVariables false
set_option linter.unnecessarySimpa false
set_option maxHeartbeats 4000000
namespace Go.Proofs.YtjgacjidaeahdaaGreatDoor.Ab
open Go.RowKit
theorem mapIs_v {m : List Pr} (c1 : MapIs m) : ∀ p ∈ m, p.v.size ≤ 40 := fun p hp => by
  obtain ⟨i, hi, e⟩ := List.mem_iff_getElem.1 hp
  have := (c1.2 i hi).1.2
  rw [List.getD_eq_getElem?_getD, List.getElem?_eq_getElem hi, Option.getD_some, e] at this
  exact this
theorem stS_iff {m : List Pr} {R : Nat} (hR : IsRnd m R) : StS cfR m ↔ MapIs m ∧ R ≤ 6 ∧ (∀ i, i < m.length → EntS m R (m.getD i p0)) ∧ (∀ r, r < R → RoundS cfR m r) ∧ (m.filter isRK).length = sumTo (fun r => (cut (textS m r)).length) R := by
  constructor
  · rintro ⟨h1, R', h2, h3, h4, h5, h6⟩
    have := h3.one hR
    subst this
    exact ⟨h1, h2, fun i hi => h4 _ (getD_mem hi), h5, h6⟩
  · rintro ⟨h1, h2, h3, h5, h6⟩
    refine ⟨h1, R, h2, hR, fun p hp => ?_, h5, h6⟩
    obtain ⟨i, hi, e⟩ := List.mem_iff_getElem.1 hp
    have := h3 i hi
    rw [List.getD_eq_getElem?_getD, List.getElem?_eq_getElem hi, Option.getD_some, e] at this
    exact this
theorem sumTo_le {f : Nat → Nat} {b : Nat} : ∀ {n}, (∀ r, r < n → f r ≤ b) → sumTo f n ≤ b * n
  | 0, _ => Nat.zero_le _
  | n + 1, h => by
    have h1 := sumTo_le (n := n) fun r hr => h r (by omega)
    have h2 := h n (by omega)
    unfold sumTo
    rw [Nat.mul_succ]
    omega
section
variable {X : CallF} {h : Heap} {m : List Pr} {mv : Value} {R : Nat}
theorem k_spec_StateOk0 (hm : Rows h 2 mv (prsL m)) (hl : m.length ≤ lim) : C T X n_spec_StateOk [mv] h = some (.bool (tB (StS cfR m)), h) := by
  obtain ⟨R, hR⟩ := rnd_ex m
  rw [tB_iff (stS_iff hR)]
  have h1 := k_spec_MapOk (X := X) hm hl
  refine C_go t_spec_StateOk rfl ?_
  unfold F_spec_StateOk
  by_cases c1 : MapIs m
  rotate_left
  · rw [tB_f c1] at h1
    simp only [h1, go_sem]
    exact (tB_f fun k => c1 k.1).symm
  rw [tB_t c1] at h1
  have hlen := c1.1
  have hs := mapIs_v c1
  have h4 := k_spec_l13Rounds (X := X) hm (by omega) hR
  by_cases c2 : (R : Int) > 6
  · simp only [h1, h4, c2, go_sem]
    exact (tB_f fun k => by have := k.2.1; omega).symm
  have hR6 : R ≤ 6 := by omega
  obtain ⟨B, hB⟩ : ∃ B, B = tB (MapIs m ∧ R ≤ 6 ∧ (∀ i, i < m.length → EntS m R (m.getD i p0)) ∧ (∀ r, r < R → RoundS cfR m r) ∧ (m.filter isRK).length = sumTo (fun r => (cut (textS m r)).length) R) := ⟨_, rfl⟩
  rw [← hB]
  simp only [h1, h4, c2, go_sem]
  refine w_for m.length (fun i t loc h' => h' = h ∧ t 0 = mv ∧ t 3 = .int .i64 (R : Int) ∧ t 4 = .int .i64 (i : Int) ∧ ∀ j, j < i → EntS m R (m.getD j p0)) ⟨rfl, rfl, rfl, rfl, fun j hj => by omega⟩ ?_
  rintro i t loc h' hi ⟨rfl, t0, t3, t4, hj⟩
  simp only [t0, t3, t4, hm.lnm, go_sem]
  refine w_open (by simp only [go_sem]; rfl) ?_ ?_ <;> intro hc
  · have hi1 : i < m.length := by omega
    have hw : IntKind.i64.wrap ((i : Int) + 1) = ((i + 1 : Nat) : Int) := w64 (by omega) (by omega)
    have el := hm.el (f := prR) p0 hi1
    have hks := (c1.2 i hi1).1
    obtain ⟨q, hq⟩ : ∃ q, q = m.getD i p0 := ⟨_, rfl⟩
    have bad : ¬ EntS m R q → B = false := fun hb => by rw [hB]; exact tB_f fun k => hb (by rw [hq]; exact k.2.2.1 i hi1)
    rw [← hq] at el hks
    have hc1 := k_spec_l13KeyOk (X := X) (p := q) hm hl hR6 hks.1.1 hks.2
    by_cases g : EntS m R q
    · rw [tB_t g] at hc1
      simp only [t0, t3, t4, el.1, el.2.1, el.2.2, prR, hc1, hw, go_sem]
      refine ⟨hi1, fun j hj' => ?_⟩
      by_cases e : j = i
      · rw [e, ← hq]; exact g
      · exact hj j (by omega)
    · rw [tB_f g] at hc1
      simp only [t0, t3, t4, el.1, el.2.1, el.2.2, prR, hc1, go_sem]
      exact (bad g).symm
  have hent : ∀ j, j < m.length → EntS m R (m.getD j p0) := fun j hj' => hj j (by omega)
  simp only [t0, t3, go_sem]
  clear t0 t3 t4 hj hc
  have hcl : ∀ r, (cut (textS m r)).length ≤ 4800 := fun r => by
    have h1 := textS_le hs (r := r)
    have h2 := cut_len _ (textS m r) (Nat.lt_succ_self _)
    omega
  refine w_for R (fun i t loc h2 => h' <+: h2 ∧ t 0 = mv ∧ t 3 = .int .i64 (R : Int) ∧ t 5 = .int .i64 ((sumTo (fun r => (cut (textS m r)).length) i : Nat) : Int) ∧ t 6 = .int .i64 (i : Int) ∧ ∀ j, j < i → RoundS cfR m j) ⟨List.prefix_refl _, rfl, rfl, rfl, rfl, fun j hj => by omega⟩ ?_
  rintro i2 t2 loc2 h2 hi2 ⟨p2, t0, t3, t5, t6, hj⟩
  simp only [t0, t3, t5, t6, go_sem]
  refine w_open (by simp only [go_sem]; rfl) ?_ ?_ <;> intro hc2
  · have hi3 : i2 < R := by omega
    have hw : IntKind.i64.wrap ((i2 : Int) + 1) = ((i2 + 1 : Nat) : Int) := w64 (by omega) (by omega)
    obtain ⟨v, hv⟩ := Option.isSome_iff_exists.1 (hR.1 i2 hi3)
    have hro := k_spec_l13RoundOk (X := X) (r := i2) (by omega) hv hs (hm.up p2) (by omega)
    by_cases g : RoundS cfR m i2
    rotate_left
    · rw [tB_f g] at hro
      simp only [t0, t3, t5, t6, hro, go_sem]
      rw [show B = false by rw [hB]; exact tB_f fun k => g (k.2.2.2.1 i2 hi3)]
      exact finish_flat rfl p2
    rw [tB_t g] at hro
    have ht := k_spec_l13Text (X := X) (r := i2) (by omega) hs (hm.up p2) (by omega)
    have s1 := textS_le hs (r := i2)
    obtain ⟨v7, h7, c7, p7, o7⟩ := k_spec_CertParts (X := X) (h := h2) (s0 := textS m i2) (by omega)
    have hln7 : lnV h7 v7 = some (.int .i64 ((cut (textS m i2)).length : Int)) := o7.rows.lnm
    have b1 := sumTo_le (f := fun r => (cut (textS m r)).length) (b := 4800) (n := i2) fun r _ => hcl r
    have b2 := hcl i2
    have hw2 : IntKind.i64.wrap (((sumTo (fun r => (cut (textS m r)).length) i2 : Nat) : Int) + ((cut (textS m i2)).length : Int)) = ((sumTo (fun r => (cut (textS m r)).length) (i2 + 1) : Nat) : Int) := by
      rw [w64 (by omega) (by omega)]
      rfl
    simp only [t0, t3, t5, t6, hro, ht, c7, hln7, hw, hw2, go_sem]
    refine ⟨hi3, p2.trans p7, fun j hj' => ?_⟩
    by_cases e : j = i2
    · rw [e]; exact g
    · exact hj j (by omega)
  have hi4 : i2 = R := by omega
  have hrs : ∀ r, r < R → RoundS cfR m r := fun r hr => hj r (by omega)
  obtain ⟨S, hS⟩ : ∃ S, S = sumTo (fun r => (cut (textS m r)).length) R := ⟨_, rfl⟩
  rw [← hS] at hB
  have hSi : sumTo (fun r => (cut (textS m r)).length) i2 = S := by rw [hi4, hS]
  rw [hSi] at t5
  simp only [t0, t5, hSi, go_sem]
  clear t0 t3 t5 t6 hj hc2
  refine w_for m.length (fun i t loc h3 => h3 = h2 ∧ t 0 = mv ∧ t 5 = .int .i64 (S : Int) ∧ t 7 = .int .i64 ((((m.take i).filter isRK).length : Nat) : Int) ∧ t 8 = .int .i64 (i : Int)) ⟨rfl, rfl, rfl, by rw [List.take_zero]; rfl, rfl⟩ ?_
  rintro i3 t3 loc3 h3 hi3 ⟨rfl, t0, t5, t7, t8⟩
  simp only [t0, t5, t7, t8, (hm.up p2).lnm, go_sem]
  refine w_open (by simp only [go_sem]; rfl) ?_ ?_ <;> intro hc3
  · have hi5 : i3 < m.length := by omega
    have hw : IntKind.i64.wrap ((i3 : Int) + 1) = ((i3 + 1 : Nat) : Int) := w64 (by omega) (by omega)
    have el := (hm.up p2).el (f := prR) p0 hi5
    have cl0 := (hm.up p2).cell (f := prR) p0 hi5 (o := 0) (by omega)
    have hks := (c1.2 i3 hi5).1
    have tk := take_snocD' (d := p0) hi5
    obtain ⟨q, hq⟩ : ∃ q, q = m.getD i3 p0 := ⟨_, rfl⟩
    rw [← hq] at el cl0 hks tk
    have k0 : ldC h3 (elemP mv 2 i3 0) 1 = some [.string q.k] := cl0
    have e0 : ixV (.string q.k) (.int .i64 0) = some (.int .u8 (byt q.k 0 : Nat)) := ix_byt (i := 0) (by omega)
    have lf := List.length_filter_le isRK (m.take i3)
    rw [List.length_take] at lf
    by_cases g : ((byt q.k 0 : Nat) : Int) = 114
    · have hw2 : IntKind.i64.wrap ((((m.take i3).filter isRK).length : Nat) + 1 : Int) = ((((m.take (i3 + 1)).filter isRK).length : Nat) : Int) := by
        rw [w64 (by omega) (by omega), tk, List.filter_append, List.filter_cons_of_pos (by unfold isRK; exact decide_eq_true (by omega)), List.filter_nil, List.length_append]
        rfl
      simp only [t0, t5, t7, t8, el.1, el.2.1, k0, e0, g, hw, hw2, go_sem]
      exact hi5
    · have e1 : (m.take (i3 + 1)).filter isRK = (m.take i3).filter isRK := by
        rw [tk, List.filter_append, List.filter_cons_of_neg (by unfold isRK; rw [decide_eq_false (by omega)]; decide), List.filter_nil, List.append_nil]
      simp only [t0, t5, t7, t8, el.1, el.2.1, k0, e0, g, hw, e1, go_sem]
      exact hi5
  have hi5 : i3 = m.length := by omega
  have hti : m.take i3 = m := by rw [hi5, List.take_length]
  rw [hti] at t7
  simp only [t5, t7, hti, go_sem]
  have hBe : B = decide ((((m.filter isRK).length : Nat) : Int) = (S : Int)) := by
    rw [hB]
    by_cases e : (m.filter isRK).length = S
    · rw [tB_t ⟨c1, hR6, hent, hrs, e⟩, decide_eq_true (by omega)]
    · rw [tB_f fun k => e k.2.2.2.2, decide_eq_false (by omega)]
  rw [hBe]
  exact finish_flat rfl p2
/-- .. which is the program's. -/
theorem k_spec_StateOk (hm : Rows h 2 mv (prsL m)) (hl : m.length ≤ lim) : C T X n_spec_StateOk [mv] h = some (.bool (tB (StI cfR m)), h) := by
  rw [tB_iff (st_same cut_cat)]
  exact k_spec_StateOk0 hm hl
end
end Go.Proofs.YtjgacjidaeahdaaGreatDoor.Ab
set_option linter.unusedSimpArgs false
set_option linter.unusedVariables false
set_option linter.unnecessarySimpa false
set_option maxHeartbeats 4000000
namespace Go.Proofs.YtjgacjidaeahdaaGreatDoor.Ab
open Go.RowKit
theorem vK_lt {a b : Nat} (h : a < b) (hb : b < 100) : kLt (vK a) (vK b) := by
  unfold kLt vK vL
  rw [toList_nums, toList_nums]
  rw [show (118 : Int) :: twoL a = [118] ++ twoL a from rfl, show (118 : Int) :: twoL b = [118] ++ twoL b from rfl, List.map_append, List.map_append, bl_front]
  exact two_less h hb
theorem vK_ltI {a b : Nat} (ha : a < 100) (h : kLt (vK a) (vK b)) : a < b := by
  rcases Nat.lt_trichotomy a b with k | k | k
  · exact k
  · subst k; exact absurd h kLt.irrefl
  · exact absurd (h.trans (vK_lt k ha)) kLt.irrefl
theorem natSorted_eq : ∀ {a b : List Nat}, a.Pairwise (· < ·) → b.Pairwise (· < ·) → (∀ x, x ∈ a ↔ x ∈ b) → a = b
  | [], [], _, _, _ => rfl
  | [], y :: b, _, _, h => absurd ((h y).2 List.mem_cons_self) List.not_mem_nil
  | x :: a, [], _, _, h => absurd ((h x).1 List.mem_cons_self) List.not_mem_nil
  | x :: a, y :: b, ha, hb, h => by
    obtain ⟨ha1, ha2⟩ := List.pairwise_cons.1 ha
    obtain ⟨hb1, hb2⟩ := List.pairwise_cons.1 hb
    have hxy : x = y := by
      rcases List.mem_cons.1 ((h x).1 List.mem_cons_self) with e | e
      · exact e
      · rcases List.mem_cons.1 ((h y).2 List.mem_cons_self) with e2 | e2
        · exact e2.symm
        · have := hb1 x e; have := ha1 y e2; omega
    subst hxy
    congr 1
    refine natSorted_eq ha2 hb2 fun p => ⟨fun hp => ?_, fun hp => ?_⟩
    · rcases List.mem_cons.1 ((h p).1 (List.mem_cons_of_mem _ hp)) with e | e
      · subst e; have := ha1 p hp; omega
      · exact e
    · rcases List.mem_cons.1 ((h p).2 (List.mem_cons_of_mem _ hp)) with e | e
      · subst e; have := hb1 p hp; omega
      · exact e
/-- The ids whose values pass a test: by number, and by the map's order. -/
def idT (m : List Pr) (T : ByteArray → Bool) (i : Nat) : Bool := (getK m (vK i)).isSome && T ((getK m (vK i)).getD noT)
def idsT (m : List Pr) (T : ByteArray → Bool) : List Nat := (List.range 12).filter (idT m T)
def isV (T : ByteArray → Bool) (p : Pr) : Bool := decide (byt p.k 0 = 118) && T p.v
def keyN (p : Pr) : Nat := (rdTwo (p.k.extract 1 p.k.size)).getD 0
def idsM (m : List Pr) (T : ByteArray → Bool) : List Nat := (m.filter (isV T)).map keyN
theorem keyN_vK {i : Nat} {v : ByteArray} (hi : i < 100) : keyN ⟨vK i, v⟩ = i := by
  unfold keyN
  have := (kv1 (k := vK i) (i := i) (by rw [vK_size hi]; omega) vK_0).2 ⟨rfl, hi⟩
  simp only [this, Option.getD_some]
theorem idT_iff {m : List Pr} {T : ByteArray → Bool} {i : Nat} : idT m T i = true ↔ ∃ v, getK m (vK i) = some v ∧ T v = true := by
  unfold idT
  cases getK m (vK i) <;> simp
theorem ids_eq {m : List Pr} {T : ByteArray → Bool} (hm : MapIs m) (hv : ∀ p ∈ m, byt p.k 0 = 118 → ∃ i, i < 12 ∧ p.k = vK i) : idsM m T = idsT m T := by
  have key : ∀ p ∈ m, isV T p = true → ∃ i, i < 12 ∧ p.k = vK i ∧ keyN p = i ∧ T p.v = true := fun p hp h => by
    unfold isV at h
    simp only [Bool.and_eq_true, decide_eq_true_eq] at h
    obtain ⟨i, hi, e⟩ := hv p hp h.1
    refine ⟨i, hi, e, ?_, h.2⟩
    have hpp : p = ⟨vK i, p.v⟩ := by cases p; simp only at e; rw [e]
    rw [hpp]
    exact keyN_vK (by omega)
  refine natSorted_eq ?_ (List.pairwise_lt_range.filter _) fun x => ?_
  · refine List.pairwise_map.2 (List.Pairwise.imp_of_mem (fun {a b} ha hb hab => ?_) (hm.sorted.filter (isV T)))
    obtain ⟨ha1, ha2⟩ := List.mem_filter.1 ha
    obtain ⟨hb1, hb2⟩ := List.mem_filter.1 hb
    obtain ⟨i, i1, i2, i3, _⟩ := key a ha1 ha2
    obtain ⟨j, j1, j2, j3, _⟩ := key b hb1 hb2
    rw [i2, j2] at hab
    rw [i3, j3]
    exact vK_ltI (by omega) hab
  · unfold idsM idsT
    rw [List.mem_map, List.mem_filter, List.mem_range, idT_iff]
    constructor
    · rintro ⟨p, hp, rfl⟩
      obtain ⟨h1, h2⟩ := List.mem_filter.1 hp
      obtain ⟨i, i1, i2, i3, i4⟩ := key p h1 h2
      rw [i3]
      refine ⟨i1, p.v, ?_, i4⟩
      rw [← i2]
      exact hm.mem.1 h1
    · rintro ⟨hx, v, h1, h2⟩
      refine ⟨⟨vK x, v⟩, List.mem_filter.2 ⟨hm.mem.2 h1, ?_⟩, keyN_vK (by omega)⟩
      unfold isV
      simp only [vK_0, h2, decide_true, Bool.and_self]
theorem idsT_congr {m : List Pr} {T S : ByteArray → Bool} (h : ∀ i v, i < 12 → getK m (vK i) = some v → T v = S v) : idsT m T = idsT m S := by
  unfold idsT
  refine List.filter_congr fun i hi => ?_
  have hi := List.mem_range.1 hi
  unfold idT
  cases hg : getK m (vK i) with
  | none => rfl
  | some v => simp only [Option.isSome_some, Option.getD_some, Bool.true_and]; exact h i v hi hg
/-- A value of an id. -/
def ValOk (R : Nat) (v : ByteArray) : Prop := v = aT ∨ v = lT ∨ ∃ r, r < R ∧ v = pT r
def vPre (f v : ByteArray) : Bool := decide (f.size ≤ v.size ∧ v.extract 0 f.size = f)
theorem val_byt {R : Nat} {v : ByteArray} (h : ValOk R v) : 1 ≤ v.size ∧ ((v = aT ∧ byt v 0 = 97) ∨ (v = lT ∧ byt v 0 = 108) ∨ (byt v 0 = 112 ∧ ∃ r, r < R ∧ v = pT r)) := by
  rcases h with h | h | ⟨r, hr, h⟩
  · subst h; exact ⟨Nat.le_refl 1, .inl ⟨rfl, rfl⟩⟩
  · subst h; exact ⟨Nat.le_refl 1, .inr (.inl ⟨rfl, rfl⟩)⟩
  · refine ⟨?_, .inr (.inr ⟨?_, r, hr, h⟩)⟩
    · rw [h]; unfold pT; rw [strOfNums_size]; simp
    · rw [h]; exact k_byte (by omega)
theorem vPre_one {c : Nat} (hc : c < 256) {v : ByteArray} (hv : 1 ≤ v.size) : vPre (strOfNums [(c : Int)]) v = decide (byt v 0 = c) := by
  unfold vPre
  have hs : (strOfNums [(c : Int)]).size = 1 := by rw [strOfNums_size]; rfl
  rw [hs, head_one hv]
  by_cases e : byt v 0 = c
  · rw [e]; simp [hv]
  · have : ¬ strOfNums [((byt v 0 : Nat) : Int)] = strOfNums [(c : Int)] := fun k => by
      have k1 := congrArg (byt · 0) k
      have b0 := byt_lt (s := v) (i := 0)
      simp only [k_byte (l := []) (show (0 : Int) ≤ ((byt v 0 : Nat) : Int) ∧ ((byt v 0 : Nat) : Int) < 256 by omega), k_byte (l := []) (show (0 : Int) ≤ (c : Int) ∧ (c : Int) < 256 by omega)] at k1
      omega
    simp [e, this]
theorem aT_nums : aT = strOfNums [((97 : Nat) : Int)] := by decide
section
variable {cf : Cf} {m : List Pr} {R : Nat}
theorem st_all (h : StI cf m) (hR : IsRnd m R) : ∀ p ∈ m, IdOk R p ∨ LinkI m p ∨ (∃ r, r < R ∧ p.k = qK r ∧ RoundI cf m r) ∨ ∃ r i n, r < R ∧ i < 100 ∧ p.k = rK r i ∧ IsParts m r n ∧ i < n := by
  obtain ⟨_, R', h1, h2, h3⟩ := h
  rw [hR.one h2]; exact h3
theorem st_v (h : StI cf m) (hR : IsRnd m R) {p : Pr} (hp : p ∈ m) (h0 : byt p.k 0 = 118) : ∃ i, i < 12 ∧ p.k = vK i ∧ ValOk R p.v := by
  rcases st_all h hR p hp with ⟨i, h1, e, h2⟩ | ⟨a, b, _, _, e, _⟩ | ⟨r', hr', e, hx⟩ | ⟨r', i, n, _, _, e, _⟩
  · exact ⟨i, h1, e, h2⟩
  · rw [e, eK_0] at h0; omega
  · rw [e, qK_0] at h0; omega
  · rw [e, rK_0] at h0; omega
theorem st_val (h : StI cf m) (hR : IsRnd m R) {i : Nat} {v : ByteArray} (hg : getK m (vK i) = some v) : i < 12 ∧ ValOk R v := by
  have hp : (⟨vK i, v⟩ : Pr) ∈ m := h.1.mem.2 hg
  obtain ⟨j, h1, h2, h3⟩ := st_v h hR hp vK_0
  rw [vK_inj h2]
  exact ⟨h1, h3⟩
theorem st_e (h : StI cf m) (hR : IsRnd m R) {p : Pr} (hp : p ∈ m) (h0 : byt p.k 0 = 101) : LinkI m p := by
  rcases st_all h hR p hp with ⟨i, h1, e, h2⟩ | h | ⟨r', hr', e, hx⟩ | ⟨r', i, n, _, _, e, _⟩
  · rw [e, vK_0] at h0; omega
  · exact h
  · rw [e, qK_0] at h0; omega
  · rw [e, rK_0] at h0; omega
theorem st_link (h : StI cf m) (hR : IsRnd m R) {a b : Nat} {v : ByteArray} (hg : getK m (eK a b) = some v) : Worths v :=
  by
    have hp : (⟨eK a b, v⟩ : Pr) ∈ m := h.1.mem.2 hg
    obtain ⟨_, _, _, _, _, h4, _⟩ := st_e h hR hp eK_0
    exact h4
theorem idsM_st (h : StI cf m) (hR : IsRnd m R) {T : ByteArray → Bool} : idsM m T = idsT m T :=
  ids_eq h.1 fun p hp h0 => by
    obtain ⟨i, h1, h2, _⟩ := st_v h hR hp h0
    exact ⟨i, h1, h2⟩
/-- A test of a value's first letter is the letter's. -/
theorem idsT_pre (h : StI cf m) (hR : IsRnd m R) {c : Nat} (hc : c < 256) : idsT m (vPre (strOfNums [(c : Int)])) = idsT m fun v => decide (byt v 0 = c) :=
  idsT_congr fun i v _ hg => vPre_one hc (val_byt (st_val h hR hg).2).1
theorem idsT_a (h : StI cf m) (hR : IsRnd m R) : (idsT m fun v => decide (byt v 0 = 97)) = idsT m fun v => decide (v = aT) :=
  idsT_congr fun i v _ hg => by
    rcases (val_byt (st_val h hR hg).2).2 with ⟨h1, h2⟩ | ⟨h1, h2⟩ | ⟨h1, _, _, h2⟩
    · subst h1; decide
    · subst h1; decide
    · rw [h1]
      have : ¬ v = aT := fun e => by subst e; exact absurd h1 (by decide)
      simp [this]
theorem idsT_le {T : ByteArray → Bool} : (idsT m T).length ≤ 12 := by
  have := List.length_filter_le (idT m T) (List.range 12)
  rw [List.length_range] at this
  exact this
theorem idsT_mem {T : ByteArray → Bool} {i : Nat} : i ∈ idsT m T ↔ i < 12 ∧ ∃ v, getK m (vK i) = some v ∧ T v = true := by
  unfold idsT
  rw [List.mem_filter, List.mem_range, idT_iff]
end
end Go.Proofs.YtjgacjidaeahdaaGreatDoor.Ab
set_option linter.unusedSimpArgs false
set_option linter.unusedVariables false
set_option linter.unnecessarySimpa false
set_option maxHeartbeats 4000000
namespace Go.Proofs.YtjgacjidaeahdaaGreatDoor.Ab
open Go.RowKit
def natI (l : List Nat) : List Int := l.map fun n : Nat => (n : Int)
theorem natI_len {l : List Nat} : (natI l).length = l.length := by simp [natI]
def fI (m : List Pr) (T : ByteArray → Bool) (i : Nat) : List Nat := (List.range i).filter (idT m T)
theorem fI_succ {m : List Pr} {T : ByteArray → Bool} {i : Nat} : fI m T (i + 1) = if idT m T i = true then fI m T i ++ [i] else fI m T i := by
  unfold fI
  rw [List.range_succ, List.filter_append]
  by_cases c : idT m T i = true
  · rw [if_pos c]; simp [c]
  · rw [if_neg c]; simp [c]
theorem fI_len {m : List Pr} {T : ByteArray → Bool} {i : Nat} : (fI m T i).length ≤ i := Nat.le_trans (List.length_filter_le _ _) (by simp)
def fM (m : List Pr) (T : ByteArray → Bool) (i : Nat) : List Nat := ((m.take i).filter (isV T)).map keyN
theorem fM_succ {m : List Pr} {T : ByteArray → Bool} {i : Nat} (hi : i < m.length) : fM m T (i + 1) = if isV T (m.getD i p0) = true then fM m T i ++ [keyN (m.getD i p0)] else fM m T i := by
  unfold fM
  rw [take_snocD' (d := p0) hi, List.filter_append, List.map_append]
  generalize m.getD i p0 = q
  by_cases c : isV T q = true
  · rw [if_pos c]; simp [c]
  · rw [if_neg c]; simp [c]
theorem fM_len {m : List Pr} {T : ByteArray → Bool} {i : Nat} : (fM m T i).length ≤ m.length := by
  unfold fM
  rw [List.length_map]
  exact Nat.le_trans (List.length_filter_le _ _) (List.length_take_le' ..)
section
variable {X : CallF} {h : Heap} {m : List Pr} {mv : Value} {R : Nat}
theorem k_HasPrefix {s f : ByteArray} : C T X n_strings_HasPrefix [.string s, .string f] h = some (.bool (vPre f s), h) := by
  have c : C T X n_internal_stringslite_HasPrefix [.string s, .string f] h = some (.bool (vPre f s), h) := by
    refine C_go t_internal_stringslite_HasPrefix rfl ?_
    unfold F_internal_stringslite_HasPrefix
    by_cases k : (s.size : Int) ≥ f.size
    · have f1 := sl_to (s := s) (b := f.size) (by omega)
      by_cases c : s.extract 0 f.size = f
      · have c' : ((s.extract 0 f.size).toList == f.toList) = true := by rw [str_eq]; exact decide_eq_true c
        simp only [k, f1, c', go_sem]
        exact (decide_eq_true ⟨by omega, c⟩).symm
      · have c' : ((s.extract 0 f.size).toList == f.toList) = false := by rw [str_eq]; exact decide_eq_false c
        simp only [k, f1, c', go_sem]
        exact (decide_eq_false fun q => c q.2).symm
    · simp only [k, go_sem]
      exact (decide_eq_false fun q => k (by omega)).symm
  refine C_go t_strings_HasPrefix rfl ?_
  unfold F_strings_HasPrefix
  simp only [c, go_sem]
end
section
variable {X : CallF} [LibX X] {h : Heap} {m : List Pr} {mv : Value} {R : Nat}
theorem k_impl_idsBy {f : ByteArray} (hm : Rows h 2 mv (prsL m)) (hl : m.length ≤ lim) : ∃ v hh, C T X n_impl_idsBy [mv, .string f] h = some (v, hh) ∧ h <+: hh ∧ Own hh h.length hh.length 1 y_int v (ints (natI (idsT m (vPre f)))) := by
  refine C_ex t_impl_idsBy rfl ?_
  unfold F_impl_idsBy
  simp only [zeros, fillAt, go_sem]
  refine w_for 12 (fun i t loc h' => t 0 = mv ∧ t 1 = .string f ∧ t 9 = .int .i64 i ∧ h <+: h' ∧ ∃ v, t 5 = v ∧ Own h' h.length h'.length 1 y_int v (ints (natI (fI m (vPre f) i)))) ⟨rfl, rfl, rfl, List.prefix_refl _, _, rfl, Own.nil⟩ ?_
  rintro i t loc h' hi ⟨t0, t1, t9, hp, v, t5, o⟩
  simp only [t9, go_sem]
  refine w_open (by simp only [go_sem]; rfl) ?_ ?_ <;> intro hc
  · have hi1 : i < 12 := by omega
    have hw : IntKind.i64.wrap ((i : Int) + 1) = ((i + 1 : Nat) : Int) := w64 (by omega) (by omega)
    have h2 := k_impl_two (X := X) (h := h') (n := i) (by omega)
    have hz := twoT_size (n := i) (by omega)
    have hz1 : (⟨[118]⟩ : Array UInt8).size + (twoT i).size ≤ 9223372036854775807 := by rw [asz]; omega
    have hg := k_impl_get (X := X) (k := vK i) (hm.up hp) hl
    unfold getV at hg
    have hsu := fI_succ (m := m) (T := vPre f) (i := i)
    have hle := fI_len (m := m) (T := vPre f) (i := i)
    unfold idT at hsu
    obtain ⟨w, hw0⟩ : ∃ w, w = (getK m (vK i)).getD noT := ⟨_, rfl⟩
    rw [← hw0] at hg hsu
    have hx := k_HasPrefix (X := X) (h := h') (s := w) (f := f)
    obtain ⟨v2, h3, c3, q1, q2, o2⟩ := o.push1 (pre_len hp) [.int .i64 (i : Int)] rfl (by rw [ints_len, natI_len]; unfold lim; omega)
    rw [Nat.max_eq_right q1] at o2
    have hp3 := pre_push hp (Nat.le_refl _) q1 q2
    cases e1 : (getK m (vK i)).isSome with
    | false =>
      rw [e1] at hg hsu
      simp only [t0, t1, t5, t9, h2, hz1, vK_app, hg, hw, go_sem]
      exact ⟨hi1, hp, v, rfl, by rw [hsu]; exact o⟩
    | true =>
      rw [e1] at hg hsu
      cases e2 : vPre f w with
      | false =>
        rw [e2] at hx hsu
        simp only [t0, t1, t5, t9, h2, hz1, vK_app, hg, hx, hw, go_sem]
        exact ⟨hi1, hp, v, rfl, by rw [hsu]; exact o⟩
      | true =>
        rw [e2] at hx hsu
        simp only [t0, t1, t5, t9, h2, hz1, vK_app, hg, hx, hw, zeros, fillAt, c3, go_sem]
        exact ⟨hi1, hp3, v2, rfl, by rw [hsu]; simpa [ints, natI] using o2⟩
  · have hin : i = 12 := by omega
    subst hin
    simp only [t5, go_sem]
    exact ⟨o.live, o.fin hp⟩
end
section
variable {X : CallF} {h : Heap} {m : List Pr} {mv : Value} {R : Nat}
theorem k_spec_l13Ids {f : ByteArray} (hm : Rows h 2 mv (prsL m)) (hl : m.length ≤ 10000) (hk : ∀ p ∈ m, 1 ≤ p.k.size) : ∃ v hh, C T X n_spec_l13Ids [mv, .string f] h = some (v, hh) ∧ h <+: hh ∧ Own hh h.length hh.length 1 y_int v (ints (natI (idsM m fun v => decide (f = noT) || decide (v = f)))) := by
  refine C_ex t_spec_l13Ids rfl ?_
  unfold F_spec_l13Ids
  obtain ⟨S, hS⟩ : ∃ S : ByteArray → Bool, S = fun v => decide (f = noT) || decide (v = f) := ⟨_, rfl⟩
  rw [← hS]
  simp only [zeros, fillAt, go_sem]
  refine w_for m.length (fun i t loc h' => t 0 = mv ∧ t 1 = .string f ∧ t 6 = .int .i64 i ∧ h <+: h' ∧ ∃ v, t 5 = v ∧ Own h' h.length h'.length 1 y_int v (ints (natI (fM m S i)))) ⟨rfl, rfl, rfl, List.prefix_append _ _, _, rfl, Acc.new.own⟩ ?_
  rintro i t loc h' hi ⟨t0, t1, t6, hp, v, t5, o⟩
  have hm' := hm.up hp
  simp only [t0, t6, hm'.lnm, go_sem]
  refine w_open (by simp only [go_sem]; rfl) ?_ ?_ <;> intro hc
  · have hi1 : i < m.length := by omega
    have hw : IntKind.i64.wrap ((i : Int) + 1) = ((i + 1 : Nat) : Int) := w64 (by omega) (by omega)
    have el := hm'.el (f := prR) p0 hi1
    have cl0 := hm'.cell (f := prR) p0 hi1 (o := 0) (by omega)
    have cl1 := hm'.cell (f := prR) p0 hi1 (o := 1) (by omega)
    have hk1 := hk _ (getD_mem (d := p0) hi1)
    have hsu := fM_succ (T := S) hi1
    have hle := fM_len (m := m) (T := S) (i := i)
    unfold isV at hsu
    obtain ⟨q, hq⟩ : ∃ q, q = m.getD i p0 := ⟨_, rfl⟩
    rw [← hq] at el cl0 cl1 hk1 hsu
    have k0 : ldC h' (elemP mv 2 i 0) 1 = some [.string q.k] := cl0
    have k1 : ldC h' (elemP mv 2 i 1) 1 = some [.string q.v] := cl1
    have e0 : ixV (.string q.k) (.int .i64 0) = some (.int .u8 (byt q.k 0 : Nat)) := ix_byt (i := 0) (by omega)
    have f1 : slSV (.string q.k) (some (.int .i64 1)) none = some (.string (q.k.extract 1 q.k.size)) := sl_from (a := 1) hk1
    have h2 := k_spec_l13Num (X := X) (h := h') (s := q.k.extract 1 q.k.size)
    have hn : twoV (q.k.extract 1 q.k.size) = .tuple ⟨[.int .i64 ((keyN q : Nat) : Int), .bool (rdTwo (q.k.extract 1 q.k.size)).isSome]⟩ := rfl
    rw [hn] at h2
    obtain ⟨v2, h3, c3, q1, q2, o2⟩ := o.push1 (pre_len hp) [.int .i64 ((keyN q : Nat) : Int)] rfl (by rw [ints_len, natI_len]; unfold lim; omega)
    rw [Nat.max_eq_right q1] at o2
    have hp3 := pre_push hp (Nat.le_refl _) q1 q2
    have o2' : Own h3 h.length h3.length 1 y_int v2 (ints (natI (fM m S i ++ [keyN q]))) := by simpa [ints, natI] using o2
    by_cases c1 : ((byt q.k 0 : Nat) : Int) = 118
    · have d1 : decide (byt q.k 0 = 118) = true := decide_eq_true (by omega)
      rw [d1, Bool.true_and] at hsu
      by_cases c2 : f = noT
      · have c2' : (f.toList == ByteArray.toList ⟨⟨[]⟩⟩) = true := by rw [str_eq]; exact decide_eq_true c2
        have d2 : S q.v = true := by rw [hS]; simp [c2]
        rw [d2, if_pos rfl] at hsu
        simp only [t0, t1, t5, t6, el.1, el.2.1, k0, k1, e0, c1, c2', f1, h2, hw, zeros, fillAt, c3, go_sem]
        exact ⟨hi1, hp3, v2, rfl, by rw [hsu]; exact o2'⟩
      · have c2' : (f.toList == ByteArray.toList ⟨⟨[]⟩⟩) = false := by rw [str_eq]; exact decide_eq_false c2
        by_cases c4 : q.v = f
        · have c4' : (q.v.toList == f.toList) = true := by rw [str_eq]; exact decide_eq_true c4
          have d2 : S q.v = true := by rw [hS]; simp [c4]
          rw [d2, if_pos rfl] at hsu
          simp only [t0, t1, t5, t6, el.1, el.2.1, k0, k1, e0, c1, c2', c4', f1, h2, hw, zeros, fillAt, c3, go_sem]
          exact ⟨hi1, hp3, v2, rfl, by rw [hsu]; exact o2'⟩
        · have c4' : (q.v.toList == f.toList) = false := by rw [str_eq]; exact decide_eq_false c4
          have d2 : S q.v = false := by rw [hS]; simp [c2, c4]
          rw [d2] at hsu
          simp only [t0, t1, t5, t6, el.1, el.2.1, k0, k1, e0, c1, c2', c4', f1, h2, hw, zeros, fillAt, c3, go_sem]
          exact ⟨hi1, hp, v, rfl, by rw [hsu]; exact o⟩
    · have d1 : decide (byt q.k 0 = 118) = false := decide_eq_false (by omega)
      rw [d1] at hsu
      simp only [t0, t1, t5, t6, el.1, el.2.1, k0, k1, e0, c1, f1, h2, hw, zeros, fillAt, c3, go_sem]
      exact ⟨hi1, hp, v, rfl, by rw [hsu]; exact o⟩
  · have hin : i = m.length := by omega
    subst hin
    simp only [t5, go_sem]
    have e : fM m S m.length = idsM m S := by unfold fM idsM; rw [List.take_length]
    rw [e] at o
    refine ⟨o.live, ?_⟩
    obtain ⟨f1, f2⟩ := o.fin hp
    exact ⟨f1, f2⟩
open Classical in
/-- The ids of a right state that pass a test. -/
noncomputable def idsR (m : List Pr) (T : ByteArray → Bool) : List Int := if StI cfR m then natI (idsT m T) else []
end
section
variable {X : CallF} [LibX X] {h : Heap} {m : List Pr} {mv : Value} {R : Nat}
def tA : ByteArray → Bool := fun v => decide (v = aT)
theorem map_k {m : List Pr} (h : MapIs m) : ∀ p ∈ m, 1 ≤ p.k.size := fun p hp => by
  obtain ⟨i, hi, rfl⟩ := mem_getD (d := p0) hp
  exact (h.2 i hi).1.1.1
theorem ids_a {m : List Pr} : (fun v : ByteArray => decide (aT = noT) || decide (v = aT)) = tA := by
  funext v
  have : ¬ aT = noT := by decide
  simp [tA, this]
theorem k_impl_Active (hm : Rows h 2 mv (prsL m)) (hl : m.length ≤ lim) : ∃ v hh, C T X n_impl_Active [mv] h = some (v, hh) ∧ h <+: hh ∧ Own hh h.length hh.length 1 y_int v (ints (idsR m tA)) := by
  refine C_ex t_impl_Active rfl ?_
  unfold F_impl_Active
  have c := k_impl_StateOk (X := X) hm hl
  unfold idsR
  by_cases st : StI cfR m
  · rw [if_pos st]
    rw [tB_t st] at c
    obtain ⟨v, hh, c2, p, o⟩ := k_impl_idsBy (X := X) (f := aT) hm hl
    obtain ⟨R, hR⟩ := rnd_ex m
    rw [aT_nums, idsT_pre st hR (by omega), idsT_a st hR] at o
    have c2' : C T X n_impl_idsBy [mv, .string ⟨⟨[97]⟩⟩] h = some (v, hh) := c2
    simp only [c, c2', p, go_sem]
    exact ⟨o.live, o.fin p⟩
  · rw [if_neg st]
    rw [tB_f st] at c
    simp only [c, zeros, fillAt, go_sem]
    exact ⟨List.prefix_refl _, Own.nil⟩
end
section
variable {X : CallF} {h : Heap} {m : List Pr} {mv : Value} {R : Nat}
theorem k_spec_Active (hm : Rows h 2 mv (prsL m)) (hl : m.length ≤ lim) : ∃ v hh, C T X n_spec_Active [mv] h = some (v, hh) ∧ h <+: hh ∧ Own hh h.length hh.length 1 y_int v (ints (idsR m tA)) := by
  refine C_ex t_spec_Active rfl ?_
  unfold F_spec_Active
  have c := k_spec_StateOk (X := X) hm hl
  unfold idsR
  by_cases st : StI cfR m
  · rw [if_pos st]
    rw [tB_t st] at c
    obtain ⟨v, hh, c2, p, o⟩ := k_spec_l13Ids (X := X) (f := aT) hm (by have := st.1.1; omega) (map_k st.1)
    obtain ⟨R, hR⟩ := rnd_ex m
    rw [ids_a (m := m), idsM_st st hR] at o
    have c2' : C T X n_spec_l13Ids [mv, .string ⟨⟨[97]⟩⟩] h = some (v, hh) := c2
    simp only [c, c2', p, go_sem]
    exact ⟨o.live, o.fin p⟩
  · rw [if_neg st]
    rw [tB_f st] at c
    simp only [c, zeros, fillAt, go_sem]
    exact Acc.new.own.fin (List.prefix_append _ _)
end
end Go.Proofs.YtjgacjidaeahdaaGreatDoor.Ab
set_option linter.unusedSimpArgs false
set_option linter.unusedVariables false
set_option linter.unnecessarySimpa false
set_option maxHeartbeats 4000000
namespace Go.Proofs.YtjgacjidaeahdaaGreatDoor.Ab
open Go.RowKit
theorem Own.fl1 {h : Heap} {lo hi sz : Nat} {ty : TypeId} {v : Value} {rws : List (List Value)} (o : Own h lo hi sz ty v rws) (hf : flat1 v = true) : prim v = true := by
  rcases o.is with ⟨rfl, rfl⟩ | ⟨b, _, _, rfl, _⟩
  · rfl
  · exact hf
section
variable {X : CallF} [LibX X] {h : Heap} {m : List Pr} {mv : Value} {R : Nat} {r : Int}
end
section
variable {X : CallF} {h : Heap} {m : List Pr} {mv : Value} {R : Nat} {r : Int}
end
end Go.Proofs.YtjgacjidaeahdaaGreatDoor.Ab
set_option linter.unusedSimpArgs false
set_option linter.unusedVariables false
set_option linter.unnecessarySimpa false
set_option maxHeartbeats 4000000
namespace Go.Proofs.YtjgacjidaeahdaaGreatDoor.Ab
open Go.RowKit
/-- The graph of some ids. -/
def gEd (m : List Pr) (l : List Nat) (i k : Nat) : List E := match getK m (eK (l.getD i 0) (l.getD k 0)) with
  | some v => [⟨(i : Int), (k : Int), ((byt v 0 : Nat) : Int), ((byt v 1 : Nat) : Int), ((byt v 2 : Nat) : Int)⟩]
  | none => []
def gRo (m : List Pr) (l : List Nat) (i : Nat) : Nat → List E
  | 0 => []
  | j + 1 => gRo m l i j ++ gEd m l i (i + 1 + j)
def gTo (m : List Pr) (l : List Nat) : Nat → List E
  | 0 => []
  | i + 1 => gTo m l i ++ gRo m l i (l.length - (i + 1))
theorem gRo_len {m : List Pr} {l : List Nat} {i : Nat} : ∀ j, (gRo m l i j).length ≤ j
  | 0 => Nat.le_refl _
  | j + 1 => by
    have := gRo_len (m := m) (l := l) (i := i) j
    unfold gRo gEd
    rw [List.length_append]
    split <;> simp <;> omega
theorem gTo_len {m : List Pr} {l : List Nat} : ∀ i, (gTo m l i).length ≤ l.length * i
  | 0 => Nat.zero_le _
  | i + 1 => by
    have h1 := gTo_len (m := m) (l := l) i
    have h2 := gRo_len (m := m) (l := l) (i := i) (l.length - (i + 1))
    unfold gTo
    rw [List.length_append, Nat.mul_succ]
    omega
/-- There is a pool. -/
def PoolIn (m : List Pr) : Prop := StI cfR m ∧ (idsT m tA).length ≤ 9
open Classical in
noncomputable def poolI (m : List Pr) : List Int := if PoolIn m then natI (idsT m tA) else []
open Classical in
noncomputable def poolG (m : List Pr) : List E := if PoolIn m then gTo m (idsT m tA) (idsT m tA).length else []
theorem poolI_len {m : List Pr} : (poolI m).length ≤ 9 := by
  unfold poolI
  split
  · next k => rw [natI_len]; exact k.2
  · exact Nat.zero_le _
theorem poolG_len {m : List Pr} : (poolG m).length ≤ 81 := by
  unfold poolG
  split
  · next k =>
    have h1 := gTo_len (m := m) (l := idsT m tA) (idsT m tA).length
    have h2 := k.2
    exact Nat.le_trans h1 (Nat.mul_le_mul h2 h2)
  · exact Nat.zero_le _
theorem idsT_lt {m : List Pr} {T : ByteArray → Bool} {i k : Nat} (h : i < k) (hk : k < (idsT m T).length) : (idsT m T).getD i 0 < (idsT m T).getD k 0 ∧ (idsT m T).getD k 0 < 12 := by
  have hp : (idsT m T).Pairwise (· < ·) := List.pairwise_lt_range.filter _
  have h1 := List.pairwise_iff_getElem.1 hp i k (by omega) hk h
  have h2 : (idsT m T)[k] < 12 := (idsT_mem.1 (List.getElem_mem hk)).1
  have e1 : (idsT m T).getD i 0 = (idsT m T)[i] := by simp [List.getD, show i < (idsT m T).length by omega]
  have e2 : (idsT m T).getD k 0 = (idsT m T)[k] := by simp [List.getD, hk]
  rw [e1, e2]
  exact ⟨h1, h2⟩
theorem natI_get {l : List Nat} {i : Nat} (hi : i < l.length) : (natI l).getD i 0 = ((l.getD i 0 : Nat) : Int) := by simp [natI, hi]
theorem e3_app {r : Nat} : (⟨⟨[101]⟩⟩ : ByteArray) ++ twoT r = strOfNums (101 :: twoL r) := by
  unfold twoT; rw [show (⟨⟨[101]⟩⟩ : ByteArray) = strOfNums [101] by decide, strOfNums_app]; rfl
theorem eK_app' {r n : Nat} : strOfNums (101 :: twoL r) ++ twoT n = eK r n := by rw [← e3_app]; exact eK_app
theorem e3_size {r : Nat} (h : r < 100) : (strOfNums (101 :: twoL r)).size ≤ 3 := by
  rw [strOfNums_size, List.length_cons, twoL_len h]
  exact Nat.le_refl 3
theorem worths_ix {v : ByteArray} (h : Worths v) : ixV (.string v) (.int .i64 0) = some (.int .u8 (byt v 0 : Nat)) ∧ ixV (.string v) (.int .i64 1) = some (.int .u8 (byt v 1 : Nat)) ∧ ixV (.string v) (.int .i64 2) = some (.int .u8 (byt v 2 : Nat)) := by
  have h3 := h.1
  exact ⟨ix_byt (i := 0) (by omega), ix_byt (i := 1) (by omega), ix_byt (i := 2) (by omega)⟩
section
variable {X : CallF} [LibX X] {h : Heap} {m : List Pr} {mv : Value} {r : Int}
def PoolA (h hh : Heap) (v : Value) (P : List Int) (G : List E) (b : Bool) : Prop := ∃ pv gv, v = .tuple ⟨[pv, graphV (P.length : Int) gv, .bool b]⟩ ∧ ∃ i0, (h.length ≤ i0 ∧ i0 ≤ hh.length) ∧ Own hh h.length i0 1 y_int pv (ints P) ∧ Own hh i0 hh.length 5 y_Edge gv (edges G)
end
section
variable {X : CallF} {h : Heap} {m : List Pr} {mv : Value} {r : Int}
theorem pool_fin {h h1 h' : Heap} {pv gv : Value} {P : List Int} {G : List E} {b : Bool} (p1 : h <+: h1) (hp : h1 <+: h') (o1 : Own h1 h.length h1.length 1 y_int pv (ints P)) (o : Own h' h1.length h'.length 5 y_Edge gv (edges G)) :
    live pv = true ∧ h <+: (finish h (.tuple ⟨[pv, .agg ⟨[.int .i64 (P.length : Int), gv]⟩, .bool b]⟩, h')).2 ∧ PoolA h (finish h (.tuple ⟨[pv, .agg ⟨[.int .i64 (P.length : Int), gv]⟩, .bool b]⟩, h')).2 (finish h (.tuple ⟨[pv, .agg ⟨[.int .i64 (P.length : Int), gv]⟩, .bool b]⟩, h')).1 P G b := by
  have l1 := pre_len p1
  have l2 := pre_len hp
  refine ⟨o1.live, ?_⟩
  obtain ⟨hh, e, p2, hc⟩ := finish_cases (v := .tuple ⟨[pv, .agg ⟨[.int .i64 (P.length : Int), gv]⟩, .bool b]⟩) (p1.trans hp)
  rw [e]
  dsimp only
  rcases hc with rfl | ⟨hf, rfl⟩
  · exact ⟨p2, pv, gv, rfl, h1.length, ⟨l1, l2⟩, o1.up hp, o⟩
  · simp only [flat, List.all_cons, Bool.and_eq_true] at hf
    have hf2 : prim gv = true := by simpa [flat1, prim] using hf.2.1
    exact ⟨p2, pv, gv, rfl, _, ⟨Nat.le_refl _, Nat.le_refl _⟩, o1.flatP (o1.fl1 hf.1), o.flatP hf2⟩
end
section
variable {X : CallF} [LibX X] {h : Heap} {m : List Pr} {mv : Value} {r : Int}
theorem k_impl_linkKey {a b : Nat} (hab : a < b) (hb : b < 12) : C T X n_impl_linkKey [.int .i64 (a : Int), .int .i64 (b : Int)] h = some (.string (eK a b), h) := by
  refine C_go t_impl_linkKey rfl ?_
  unfold F_impl_linkKey
  have h1 : (a : Int) < (b : Int) := by omega
  have h2 : ¬ (b : Int) < (a : Int) := by omega
  have k1 := k_impl_two (X := X) (h := h) (n := a) (by omega)
  have k2 := k_impl_two (X := X) (h := h) (n := b) (by omega)
  have s1 := twoT_size (n := a) (by omega)
  have s2 := twoT_size (n := b) (by omega)
  have s3 := e3_size (r := a) (by omega)
  have z1 : (⟨[101]⟩ : Array UInt8).size + (twoT a).size ≤ 9223372036854775807 := by rw [asz]; omega
  have z2 : (strOfNums (101 :: twoL a)).size + (twoT b).size ≤ 9223372036854775807 := by omega
  simp only [h1, h2, k1, k2, z1, e3_app, z2, eK_app', go_sem]
theorem k_impl_PoolOf (hm : Rows h 2 mv (prsL m)) (hl : m.length ≤ lim) : ∃ v hh, C T X n_impl_PoolOf [mv] h = some (v, hh) ∧ h <+: hh ∧ PoolA h hh v (poolI m) (poolG m) (tB (PoolIn m)) := by
  refine C_ex t_impl_PoolOf rfl ?_
  unfold F_impl_PoolOf
  obtain ⟨pv, h1, c1, p1, o1⟩ := k_impl_Active (X := X) hm hl
  have l1 := pre_len p1
  have c := k_impl_StateOk (X := X) (hm.up p1) hl
  by_cases st : StI cfR m
  · rw [tB_t st] at c
    obtain ⟨R, hR⟩ := rnd_ex m
    unfold idsR at o1
    rw [if_pos st] at o1
    obtain ⟨l, hl0⟩ : ∃ l, l = idsT m tA := ⟨_, rfl⟩
    have hlt : ∀ i k, i < k → k < l.length → l.getD i 0 < l.getD k 0 ∧ l.getD k 0 < 12 := fun i k a b => by rw [hl0] at b ⊢; exact idsT_lt a b
    have hle : l.length ≤ 12 := by rw [hl0]; exact idsT_le
    rw [← hl0] at o1
    have ln := o1.rows.lnm
    rw [natI_len] at ln
    by_cases k : PoolIn m
    · have hPI : poolI m = natI l := by unfold poolI; rw [if_pos k, hl0]
      have hPG : poolG m = gTo m l l.length := by unfold poolG; rw [if_pos k, hl0]
      rw [tB_t k, hPI, hPG]
      have h9 : l.length ≤ 9 := by rw [hl0]; exact k.2
      have c9 : ¬ (l.length : Int) > 9 := by omega
      simp only [c1, p1, c, ln, c9, zeros, fillAt, go_sem]
      refine w_for l.length (fun i t loc h' => t 0 = mv ∧ t 5 = pv ∧ t 26 = pv ∧ t 27 = .int .i64 (l.length : Int) ∧ t 28 = .int .i64 i ∧ loc 3 = some [.int .i64 0, nilV] ∧ h1 <+: h' ∧ ∃ gv, loc 6 = some [.int .i64 (l.length : Int), gv] ∧ Own h' h1.length h'.length 5 y_Edge gv (edges (gTo m l i))) ⟨rfl, rfl, rfl, rfl, rfl, rfl, List.prefix_refl _, _, rfl, Own.nil⟩ ?_
      rintro i t loc h' hi ⟨t0, t5, t26, t27, t28, l3, hp, gv, l6, o⟩
      simp only [t27, t28, go_sem]
      refine w_open (by simp only [go_sem]; rfl) ?_ ?_ <;> intro hc
      · have hi1 : i < l.length := by omega
        have hi2 : i < (natI l).length := by rw [natI_len]; exact hi1
        have hw : IntKind.i64.wrap ((i : Int) + 1) = ((i + 1 : Nat) : Int) := w64 (by omega) (by omega)
        have ei := int_el (o1.rows.up hp) hi2
        rw [natI_get hi1] at ei
        obtain ⟨h3, hh3⟩ : ∃ h3, h3 = h' := ⟨_, rfl⟩
        simp only [t0, t5, t26, t27, t28, ei.1, ei.2, hw, zeros, fillAt, go_sem]
        refine w_for (l.length - (i + 1)) (fun j t loc h' => t 0 = mv ∧ t 5 = pv ∧ t 26 = pv ∧ t 27 = .int .i64 (l.length : Int) ∧ t 28 = .int .i64 (i : Int) ∧ t 7 = .int .i64 (i : Int) ∧ t 8 = .int .i64 ((l.getD i 0 : Nat) : Int) ∧ t 9 = .int .i64 ((i + 1 + j : Nat) : Int) ∧ loc 3 = some [.int .i64 0, nilV] ∧ h1 <+: h' ∧ ∃ gv, loc 6 = some [.int .i64 (l.length : Int), gv] ∧ Own h' h1.length h'.length 5 y_Edge gv (edges (gTo m l i ++ gRo m l i j))) ⟨rfl, rfl, rfl, rfl, rfl, rfl, rfl, rfl, l3, hp, gv, l6, by unfold gRo; rw [List.append_nil]; exact o⟩ ?_
        rintro j t loc h' hj ⟨t0, t5, t26, t27, t28, t7, t8, t9, l3, hp, gv, l6, o⟩
        obtain ⟨K, hK⟩ : ∃ K, K = i + 1 + j := ⟨_, rfl⟩
        rw [← hK] at t9
        have ln' := (o1.rows.up hp).lnm
        rw [natI_len] at ln'
        simp only [t5, t9, ln', go_sem]
        refine w_open (by simp only [go_sem]; rfl) ?_ ?_ <;> intro hc
        · have hK1 : K < l.length := by omega
          have hK2 : K < (natI l).length := by rw [natI_len]; exact hK1
          have hw : IntKind.i64.wrap ((K : Int) + 1) = ((K + 1 : Nat) : Int) := w64 (by omega) (by omega)
          have ek := int_el (o1.rows.up hp) hK2
          rw [natI_get hK1] at ek
          obtain ⟨hab, hb12⟩ := hlt i K (by omega) hK1
          have hgl := gTo_len (m := m) (l := l) i
          have hgr := gRo_len (m := m) (l := l) (i := i) j
          have hmul : l.length * i ≤ 9 * 9 := Nat.mul_le_mul h9 (show i ≤ 9 by omega)
          have hnx : gRo m l i (j + 1) = gRo m l i j ++ gEd m l i K := by rw [hK]; rfl
          have hj1 : j + 1 ≤ l.length - (i + 1) := by omega
          have hK' : i + 1 + (j + 1) = K + 1 := by omega
          have lk := k_impl_linkKey (X := X) (h := h') hab hb12
          obtain ⟨a, ha⟩ : ∃ a, a = l.getD i 0 := ⟨_, rfl⟩
          obtain ⟨b, hb⟩ : ∃ b, b = l.getD K 0 := ⟨_, rfl⟩
          have hgd : gEd m l i K = match getK m (eK a b) with
            | some v => [⟨(i : Int), (K : Int), ((byt v 0 : Nat) : Int), ((byt v 1 : Nat) : Int), ((byt v 2 : Nat) : Int)⟩]
            | none => [] := by rw [ha, hb]; rfl
          rw [← ha] at t8 lk
          rw [← hb] at ek lk
          have hg := k_impl_get (X := X) (k := eK a b) (hm.up (p1.trans hp)) hl
          unfold getV at hg
          cases e : getK m (eK a b) with
          | none =>
            rw [e] at hg hgd
            simp only [Option.getD_none, Option.isSome_none] at hg
            simp only at hgd
            simp only [t0, t5, t7, t8, t9, t26, t27, t28, ek.1, ek.2, lk, hg, hw, zeros, fillAt, go_sem]
            exact ⟨hj1, by rw [ha], by rw [hK'], l3, hp, gv, l6, by rw [hnx, hgd, List.append_nil]; exact o⟩
          | some v =>
            rw [e] at hg hgd
            simp only [Option.getD_some, Option.isSome_some] at hg
            simp only at hgd
            have wv := worths_ix (st_link st hR e)
            have b0 := byt_lt (s := v) (i := 0)
            have b1 := byt_lt (s := v) (i := 1)
            have b2 := byt_lt (s := v) (i := 2)
            have w0 : IntKind.i64.wrap ((byt v 0 : Nat) : Int) = ((byt v 0 : Nat) : Int) := w64 (by omega) (by omega)
            have w1 : IntKind.i64.wrap ((byt v 1 : Nat) : Int) = ((byt v 1 : Nat) : Int) := w64 (by omega) (by omega)
            have w2 : IntKind.i64.wrap ((byt v 2 : Nat) : Int) = ((byt v 2 : Nat) : Int) := w64 (by omega) (by omega)
            obtain ⟨v2, h2, c3, q1, q2, o2⟩ := o.push1 (pre_len hp) [.int .i64 (i : Int), .int .i64 (K : Int), .int .i64 ((byt v 0 : Nat) : Int), .int .i64 ((byt v 1 : Nat) : Int), .int .i64 ((byt v 2 : Nat) : Int)] rfl (by simp; unfold lim; omega)
            rw [Nat.max_eq_right q1] at o2
            simp only [t0, t5, t7, t8, t9, t26, t27, t28, l3, l6, ek.1, ek.2, lk, hg, wv.1, wv.2.1, wv.2.2, w0, w1, w2, c3, o2.cells, hw, zeros, fillAt, go_sem]
            refine ⟨hj1, by rw [ha], by rw [hK'], pre_push hp (Nat.le_refl _) q1 q2, v2, rfl, ?_⟩
            rw [hnx, hgd, ← List.append_assoc]
            simpa [edges, edgeR] using o2
        · have hjn : j = l.length - (i + 1) := by omega
          simp only [t0, t5, t26, t27, t28, hw, go_sem]
          exact ⟨hi1, l3, hp, gv, l6, by unfold gTo; rw [← hjn]; exact o⟩
      · have hin : i = l.length := by omega
        subst hin
        simp only [t5, l3, l6, go_sem]
        have pf := pool_fin (b := true) p1 hp o1 o
        rw [natI_len] at pf
        exact pf
    · have hPI : poolI m = [] := by unfold poolI; rw [if_neg k]
      have hPG : poolG m = [] := by unfold poolG; rw [if_neg k]
      rw [tB_f k, hPI, hPG]
      have c9 : (l.length : Int) > 9 := by
        have : ¬ l.length ≤ 9 := fun q => k ⟨st, by rw [← hl0]; exact q⟩
        omega
      simp only [c1, p1, c, ln, c9, zeros, fillAt, go_sem]
      rw [finish_flat rfl p1]
      exact ⟨List.prefix_refl _, nilV, nilV, rfl, h.length, ⟨Nat.le_refl _, Nat.le_refl _⟩, Own.nil, Own.nil⟩
  · have k : ¬ PoolIn m := fun q => st q.1
    have hPI : poolI m = [] := by unfold poolI; rw [if_neg k]
    have hPG : poolG m = [] := by unfold poolG; rw [if_neg k]
    rw [tB_f st] at c
    rw [tB_f k, hPI, hPG]
    simp only [c1, p1, c, zeros, fillAt, go_sem]
    rw [finish_flat rfl p1]
    exact ⟨List.prefix_refl _, nilV, nilV, rfl, h.length, ⟨Nat.le_refl _, Nat.le_refl _⟩, Own.nil, Own.nil⟩
end
section
variable {X : CallF} {h : Heap} {m : List Pr} {mv : Value} {r : Int}
theorem k_spec_l13Graph {l : List Nat} {pv : Value} (st : StI cfR m) (hlt : ∀ i k, i < k → k < l.length → l.getD i 0 < l.getD k 0 ∧ l.getD k 0 < 12) (h9 : l.length ≤ 9) (hm : Rows h 2 mv (prsL m)) (hl : m.length ≤ lim) (o1 : Rows h 1 pv (ints (natI l))) : ∃ v hh, C T X n_spec_l13Graph [mv, pv] h = some (v, hh) ∧ h <+: hh ∧ ∃ gv, v = graphV (l.length : Int) gv ∧ Own hh h.length hh.length 5 y_Edge gv (edges (gTo m l l.length)) := by
  refine C_ex t_spec_l13Graph rfl ?_
  unfold F_spec_l13Graph
  obtain ⟨R, hR⟩ := rnd_ex m
  have ln := o1.lnm
  rw [natI_len] at ln
  simp only [ln, zeros, fillAt, go_sem]
  refine w_for l.length (fun i t loc h' => t 0 = mv ∧ t 1 = pv ∧ t 6 = .int .i64 i ∧ loc 4 = some [.int .i64 0, nilV] ∧ h <+: h' ∧ ∃ gv, loc 5 = some [.int .i64 (l.length : Int), gv] ∧ Own h' h.length h'.length 5 y_Edge gv (edges (gTo m l i))) ⟨rfl, rfl, rfl, rfl, List.prefix_refl _, _, rfl, Own.nil⟩ ?_
  rintro i t loc h' hi ⟨t0, t1, t6, l4, hp, gv, l5, o⟩
  have ln1 := (o1.up hp).lnm
  rw [natI_len] at ln1
  simp only [t1, t6, ln1, go_sem]
  refine w_open (by simp only [go_sem]; rfl) ?_ ?_ <;> intro hc
  · have hi1 : i < l.length := by omega
    have hw : IntKind.i64.wrap ((i : Int) + 1) = ((i + 1 : Nat) : Int) := w64 (by omega) (by omega)
    simp only [t0, t1, t6, hw, zeros, fillAt, go_sem]
    refine w_for (l.length - (i + 1)) (fun j t loc h' => t 0 = mv ∧ t 1 = pv ∧ t 6 = .int .i64 (i : Int) ∧ t 7 = .int .i64 ((i + 1 + j : Nat) : Int) ∧ loc 4 = some [.int .i64 0, nilV] ∧ h <+: h' ∧ ∃ gv, loc 5 = some [.int .i64 (l.length : Int), gv] ∧ Own h' h.length h'.length 5 y_Edge gv (edges (gTo m l i ++ gRo m l i j))) ⟨rfl, rfl, rfl, rfl, l4, hp, gv, l5, by unfold gRo; rw [List.append_nil]; exact o⟩ ?_
    rintro j t loc h' hj ⟨t0, t1, t6, t7, l4, hp, gv, l5, o⟩
    obtain ⟨K, hK⟩ : ∃ K, K = i + 1 + j := ⟨_, rfl⟩
    rw [← hK] at t7
    have ln' := (o1.up hp).lnm
    rw [natI_len] at ln'
    simp only [t1, t7, ln', go_sem]
    refine w_open (by simp only [go_sem]; rfl) ?_ ?_ <;> intro hc
    · have hK1 : K < l.length := by omega
      have hK2 : K < (natI l).length := by rw [natI_len]; exact hK1
      have hw : IntKind.i64.wrap ((K : Int) + 1) = ((K + 1 : Nat) : Int) := w64 (by omega) (by omega)
      have ei := int_el (o1.up hp) (show i < (natI l).length by rw [natI_len]; exact hi1)
      rw [natI_get hi1] at ei
      have ek := int_el (o1.up hp) hK2
      rw [natI_get hK1] at ek
      obtain ⟨hab, hb12⟩ := hlt i K (by omega) hK1
      have hgl := gTo_len (m := m) (l := l) i
      have hgr := gRo_len (m := m) (l := l) (i := i) j
      have hmul : l.length * i ≤ 9 * 9 := Nat.mul_le_mul h9 (show i ≤ 9 by omega)
      have hnx : gRo m l i (j + 1) = gRo m l i j ++ gEd m l i K := by rw [hK]; rfl
      have hj1 : j + 1 ≤ l.length - (i + 1) := by omega
      have hK' : i + 1 + (j + 1) = K + 1 := by omega
      obtain ⟨a, ha⟩ : ∃ a, a = l.getD i 0 := ⟨_, rfl⟩
      obtain ⟨b, hb⟩ : ∃ b, b = l.getD K 0 := ⟨_, rfl⟩
      have hgd : gEd m l i K = match getK m (eK a b) with
        | some v => [⟨(i : Int), (K : Int), ((byt v 0 : Nat) : Int), ((byt v 1 : Nat) : Int), ((byt v 2 : Nat) : Int)⟩]
        | none => [] := by rw [ha, hb]; rfl
      rw [← ha] at ei hab
      rw [← hb] at ek hab hb12
      have k1 := k_spec_l13Two (X := X) (h := h') (n := a) (by omega)
      have k2 := k_spec_l13Two (X := X) (h := h') (n := b) (by omega)
      have s1 := twoT_size (n := a) (by omega)
      have s2 := twoT_size (n := b) (by omega)
      have s3 := e3_size (r := a) (by omega)
      have z1 : (⟨[101]⟩ : Array UInt8).size + (twoT a).size ≤ 9223372036854775807 := by rw [asz]; omega
      have z2 : (strOfNums (101 :: twoL a)).size + (twoT b).size ≤ 9223372036854775807 := by omega
      have hg := k_spec_l13Get (X := X) (k := eK a b) (hm.up hp) hl
      unfold getV at hg
      cases e : getK m (eK a b) with
      | none =>
        rw [e] at hg hgd
        simp only [Option.getD_none, Option.isSome_none] at hg
        simp only at hgd
        simp only [t0, t1, t6, t7, ei.1, ei.2, ek.1, ek.2, k1, k2, z1, e3_app, z2, eK_app', hg, hw, zeros, fillAt, go_sem]
        exact ⟨List.prefix_refl _, List.prefix_refl _, List.prefix_refl _, hj1, by rw [hK'], l4, hp, gv, l5, by rw [hnx, hgd, List.append_nil]; exact o⟩
      | some v =>
        rw [e] at hg hgd
        simp only [Option.getD_some, Option.isSome_some] at hg
        simp only at hgd
        have wv := worths_ix (st_link st hR e)
        have b0 := byt_lt (s := v) (i := 0)
        have b1 := byt_lt (s := v) (i := 1)
        have b2 := byt_lt (s := v) (i := 2)
        have w0 : IntKind.i64.wrap ((byt v 0 : Nat) : Int) = ((byt v 0 : Nat) : Int) := w64 (by omega) (by omega)
        have w1 : IntKind.i64.wrap ((byt v 1 : Nat) : Int) = ((byt v 1 : Nat) : Int) := w64 (by omega) (by omega)
        have w2 : IntKind.i64.wrap ((byt v 2 : Nat) : Int) = ((byt v 2 : Nat) : Int) := w64 (by omega) (by omega)
        obtain ⟨v2, h2, c3, q1, q2, o2⟩ := o.push1 (pre_len hp) [.int .i64 (i : Int), .int .i64 (K : Int), .int .i64 ((byt v 0 : Nat) : Int), .int .i64 ((byt v 1 : Nat) : Int), .int .i64 ((byt v 2 : Nat) : Int)] rfl (by simp; unfold lim; omega)
        rw [Nat.max_eq_right q1] at o2
        simp only [t0, t1, t6, t7, l4, l5, ei.1, ei.2, ek.1, ek.2, k1, k2, z1, e3_app, z2, eK_app', hg, wv.1, wv.2.1, wv.2.2, w0, w1, w2, c3, o2.cells, hw, zeros, fillAt, go_sem]
        refine ⟨List.prefix_refl _, List.prefix_refl _, List.prefix_refl _, hj1, by rw [hK'], pre_push hp (Nat.le_refl _) q1 q2, v2, rfl, ?_⟩
        rw [hnx, hgd, ← List.append_assoc]
        simpa [edges, edgeR] using o2
    · have hjn : j = l.length - (i + 1) := by omega
      simp only [t0, t1, t6, hw, go_sem]
      exact ⟨hi1, l4, hp, gv, l5, by unfold gTo; rw [← hjn]; exact o⟩
  · have hin : i = l.length := by omega
    subst hin
    simp only [l4, l5, go_sem]
    obtain ⟨hh, e, p2, hc⟩ := finish_cases (v := .agg ⟨[.int .i64 (l.length : Int), gv]⟩) hp
    rw [e]
    dsimp only
    rcases hc with rfl | ⟨hf, rfl⟩
    · exact ⟨p2, gv, rfl, o⟩
    · have hf2 : prim gv = true := by simpa [flat, prim] using hf
      exact ⟨p2, gv, rfl, o.flatP hf2⟩
theorem k_spec_PoolOf (hm : Rows h 2 mv (prsL m)) (hl : m.length ≤ lim) : ∃ v hh, C T X n_spec_PoolOf [mv] h = some (v, hh) ∧ h <+: hh ∧ PoolA h hh v (poolI m) (poolG m) (tB (PoolIn m)) := by
  refine C_ex t_spec_PoolOf rfl ?_
  unfold F_spec_PoolOf
  obtain ⟨pv, h1, c1, p1, o1⟩ := k_spec_Active (X := X) hm hl
  have l1 := pre_len p1
  have c := k_spec_StateOk (X := X) (hm.up p1) hl
  obtain ⟨g2, hg2⟩ : ∃ g2 : Heap, g2 = h1 ++ [⟨[], 1, y_int, true⟩] := ⟨_, rfl⟩
  have pg : h1 <+: g2 := by rw [hg2]; exact List.prefix_append _ _
  have badO : Own g2 h1.length g2.length 1 y_int (.slice (some ⟨h1.length, 0, none⟩) 0 0) (ints []) := by rw [hg2]; exact Acc.new.own
  have badF : ∀ w : Value, w = .tuple ⟨[.slice (some ⟨h1.length, 0, none⟩) 0 0, .agg ⟨[.int .i64 0, nilV]⟩, .bool false]⟩ → h <+: (finish h (w, g2)).2 ∧ PoolA h (finish h (w, g2)).2 (finish h (w, g2)).1 [] [] false := fun w hw => by
    rw [finish_deep (by rw [hw]; simp [flat, flat1, prim])]
    exact ⟨p1.trans pg, _, nilV, hw, g2.length, ⟨by have := pre_len pg; omega, Nat.le_refl _⟩, badO.wide l1 (Nat.le_refl _), Own.nil⟩
  by_cases st : StI cfR m
  · rw [tB_t st] at c
    unfold idsR at o1
    rw [if_pos st] at o1
    obtain ⟨l, hl0⟩ : ∃ l, l = idsT m tA := ⟨_, rfl⟩
    have hlt : ∀ i k, i < k → k < l.length → l.getD i 0 < l.getD k 0 ∧ l.getD k 0 < 12 := fun i k a b => by rw [hl0] at b ⊢; exact idsT_lt a b
    rw [← hl0] at o1
    have ln := o1.rows.lnm
    rw [natI_len] at ln
    by_cases k : PoolIn m
    · have hPI : poolI m = natI l := by unfold poolI; rw [if_pos k, hl0]
      have hPG : poolG m = gTo m l l.length := by unfold poolG; rw [if_pos k, hl0]
      rw [tB_t k, hPI, hPG]
      have h9 : l.length ≤ 9 := by rw [hl0]; exact k.2
      have c9 : ¬ (l.length : Int) > 9 := by omega
      obtain ⟨gv0, h2, c2, p2, gv, rfl, og⟩ := k_spec_l13Graph (X := X) st hlt h9 (hm.up p1) hl o1.rows
      unfold graphV at c2
      simp only [c1, p1, c, ln, c9, c2, p2, zeros, fillAt, go_sem]
      have pf := pool_fin (b := true) p1 p2 o1 og
      rw [natI_len] at pf
      exact pf
    · have hPI : poolI m = [] := by unfold poolI; rw [if_neg k]
      have hPG : poolG m = [] := by unfold poolG; rw [if_neg k]
      rw [tB_f k, hPI, hPG]
      have c9 : (l.length : Int) > 9 := by
        have : ¬ l.length ≤ 9 := fun q => k ⟨st, by rw [← hl0]; exact q⟩
        omega
      simp only [c1, p1, c, ln, c9, zeros, fillAt, ← hg2, go_sem]
      exact badF _ rfl
  · have k : ¬ PoolIn m := fun q => st q.1
    have hPI : poolI m = [] := by unfold poolI; rw [if_neg k]
    have hPG : poolG m = [] := by unfold poolG; rw [if_neg k]
    rw [tB_f st] at c
    rw [tB_f k, hPI, hPG]
    simp only [c1, p1, c, zeros, fillAt, ← hg2, go_sem]
    exact badF _ rfl
end
end Go.Proofs.YtjgacjidaeahdaaGreatDoor.Ab
set_option linter.unusedSimpArgs false
set_option linter.unusedVariables false
set_option linter.unnecessarySimpa false
set_option maxHeartbeats 4000000
namespace Go.Proofs.YtjgacjidaeahdaaGreatDoor.Ab
open Go.RowKit
section
variable {h : Heap} {v : Value}
/-- A list of edges. -/
theorem Shape.edges_inv (s : Shape h (.sl [.int .i64, .int .i64, .int .i64, .int .i64, .int .i64]) v) : ∃ l : List E, Rows h 5 v (edges l) ∧ l.length ≤ maxLen ∧ ∀ e ∈ l, I64 e.a ∧ I64 e.b ∧ I64 e.w1 ∧ I64 e.w2 ∧ I64 e.w3 := by
  obtain ⟨rows, hr, hm, hk⟩ := s.sl_inv
  obtain ⟨l, rfl, hl⟩ := rows_map (f := edgeR) (Q := fun e => I64 e.a ∧ I64 e.b ∧ I64 e.w1 ∧ I64 e.w2 ∧ I64 e.w3) (rows := rows) (fun r hrm => by
    obtain ⟨x, r', rfl, hx, h2⟩ := (hk r hrm).cons_inv
    obtain ⟨y, r', rfl, hy, h2⟩ := h2.cons_inv
    obtain ⟨z, r', rfl, hz, h2⟩ := h2.cons_inv
    obtain ⟨u, r', rfl, hu, h2⟩ := h2.cons_inv
    obtain ⟨w, r', rfl, hw, h2⟩ := h2.cons_inv
    obtain rfl := h2.nil_inv
    obtain ⟨a, rfl, ha⟩ := hx.int_inv
    obtain ⟨b, rfl, hb⟩ := hy.int_inv
    obtain ⟨c, rfl, hc⟩ := hz.int_inv
    obtain ⟨d, rfl, hd⟩ := hu.int_inv
    obtain ⟨e, rfl, he⟩ := hw.int_inv
    exact ⟨⟨a, b, c, d, e⟩, rfl, ha, hb, hc, hd, he⟩)
  exact ⟨l, hr, by simpa using hm, hl⟩
theorem Shape.pairs_inv (s : Shape h (.sl [.str, .str]) v) : ∃ l : List Pr, Rows h 2 v (prsL l) ∧ l.length ≤ maxLen ∧ ∀ e ∈ l, e.k.size ≤ maxLen ∧ e.v.size ≤ maxLen := by
  obtain ⟨rows, hr, hm, hk⟩ := s.sl_inv
  obtain ⟨l, rfl, hl⟩ := rows_map (f := prR) (Q := fun e => e.k.size ≤ maxLen ∧ e.v.size ≤ maxLen) (rows := rows) (fun r hrm => by
    obtain ⟨x, r', rfl, hx, h2⟩ := (hk r hrm).cons_inv
    obtain ⟨y, r', rfl, hy, h2⟩ := h2.cons_inv
    obtain rfl := h2.nil_inv
    obtain ⟨a, rfl, ha⟩ := hx.str_inv
    obtain ⟨b, rfl, hb⟩ := hy.str_inv
    exact ⟨⟨a, b⟩, rfl, ha, hb⟩)
  exact ⟨l, hr, by simpa using hm, hl⟩
theorem ArgOk.graph (a : ArgOk h (true, [.int .i64, .sl [.int .i64, .int .i64, .int .i64, .int .i64, .int .i64]]) v) : ∃ size ev es, v = graphV size ev ∧ I64 size ∧ Rows h 5 ev (edges es) ∧ es.length ≤ maxLen := by
  obtain ⟨acs, k, rfl⟩ := a.row
  obtain ⟨v0, r, rfl, k0, k⟩ := k.cons_inv
  obtain ⟨v1, r, rfl, k1, k⟩ := k.cons_inv
  obtain rfl := k.nil_inv
  obtain ⟨n, rfl, hn⟩ := k0.int_inv
  obtain ⟨es, he, hm, _⟩ := k1.edges_inv
  exact ⟨n, v1, es, rfl, hn, he, hm⟩
def AqOk (x : Aq) : Prop := I64 x.op ∧ I64 x.a ∧ I64 x.b ∧ I64 x.w1 ∧ I64 x.w2 ∧ I64 x.w3
theorem ArgOk.ask (a : ArgOk h (true, [.int .i64, .int .i64, .int .i64, .int .i64, .int .i64, .int .i64]) v) : ∃ x : Aq, v = .agg ⟨aqR x⟩ ∧ AqOk x := by
  obtain ⟨acs, k, rfl⟩ := a.row
  obtain ⟨v0, r, rfl, k0, k⟩ := k.cons_inv
  obtain ⟨v1, r, rfl, k1, k⟩ := k.cons_inv
  obtain ⟨v2, r, rfl, k2, k⟩ := k.cons_inv
  obtain ⟨v3, r, rfl, k3, k⟩ := k.cons_inv
  obtain ⟨v4, r, rfl, k4, k⟩ := k.cons_inv
  obtain ⟨v5, r, rfl, k5, k⟩ := k.cons_inv
  obtain rfl := k.nil_inv
  obtain ⟨n0, rfl, h0⟩ := k0.int_inv
  obtain ⟨n1, rfl, h1⟩ := k1.int_inv
  obtain ⟨n2, rfl, h2⟩ := k2.int_inv
  obtain ⟨n3, rfl, h3⟩ := k3.int_inv
  obtain ⟨n4, rfl, h4⟩ := k4.int_inv
  obtain ⟨n5, rfl, h5⟩ := k5.int_inv
  exact ⟨⟨n0, n1, n2, n3, n4, n5⟩, rfl, h0, h1, h2, h3, h4, h5⟩
end
end Go.Proofs.YtjgacjidaeahdaaGreatDoor.Ab
set_option linter.unusedSimpArgs false
set_option linter.unusedVariables false
set_option linter.unnecessarySimpa false
set_option maxHeartbeats 4000000
namespace Go.Proofs.YtjgacjidaeahdaaGreatDoor.Ab
open Go.RowKit
section
variable {X : CallF} [LibX X] {h : Heap} {mv0 : Value} {ml0 : List Pr}
end
section
variable {X : CallF} {h : Heap} {mv0 : Value} {ml0 : List Pr}
theorem g_heldGraph {gv : Value} {size : Int} {k n : Nat} (a : Rows h 5 gv (mkRows mkEdge k 5 n)) (hn : n ≤ 100) (hk : k ≤ 1000) : C T X n_laws_heldGraph [graphV size gv, .int .i64 (k : Int)] h = some (.int .i64 ((k + n * 5 : Nat) : Int), h) := by
  have c1 := k_heldEdgeS (X := X) a (by unfold lim; omega) (by omega)
  have n1 : ¬ ((k + n * 5 : Nat) : Int) < 0 := by omega
  refine C_go t_laws_heldGraph rfl ?_
  unfold F_laws_heldGraph graphV
  simp only [c1, n1, go_sem]
end
section
variable {X : CallF} [LibX X] {h : Heap} {mv0 : Value} {ml0 : List Pr}
open Classical in
theorem l_PoolOf (hm0 : Rows h 2 mv0 (prsL ml0)) (hx0 : PrMax ml0) : C T X n_laws_FnExactPoolOf [mv0] h = some (.bool true, h) := by
  refine C_go t_laws_FnExactPoolOf rfl ?_
  unfold F_laws_FnExactPoolOf
  obtain ⟨n0, zc0, zb0, zd0⟩ := z_szPairS (X := X) hm0 hx0 (n := 1048576) (by omega) (by omega)
  by_cases hn0 : n0 < 0
  · simp only [zc0, hn0, go_sem]
  have bm0 : PrBnd ml0 := zd0 (by omega)
  have bl : ml0.length ≤ lim := by have := bm0.1; unfold lim; omega
  have hP : (poolI ml0).length ≤ lim := Nat.le_trans poolI_len (by unfold lim; omega)
  have hG : (poolG ml0).length ≤ lim := Nat.le_trans poolG_len (by unfold lim; omega)
  have hP9 := poolI_len (m := ml0)
  have hG81 := poolG_len (m := ml0)
  have q0 : h <+: h := List.prefix_refl h
  obtain ⟨v1, h1, c1, p1, o1⟩ := x_toPairS (X := X) (hm0.up q0) bl
  have q1 := q0.trans p1
  have l1 := pre_len p1
  obtain ⟨w3, h3, c3, p3, pw, gw, rfl, j0, hj, w1, w2⟩ := k_spec_PoolOf (X := X) o1.rows bl
  have q3 := q1.trans p3
  have l3 := pre_len p3
  have w1 := w1.wide (Nat.le_refl _) hj.2
  have w2 := w2.wide hj.1 (Nat.le_refl _)
  obtain ⟨v4, h4, c4, p4, o4⟩ := x_toPairS (X := X) (hm0.up q3) bl
  have w1_4 := w1.up p4
  have w2_4 := w2.up p4
  have q4 := q3.trans p4
  have l4 := pre_len p4
  obtain ⟨w6, h6, c6, p6, pg, gg, rfl, i0, hi, g1, g2⟩ := k_impl_PoolOf (X := X) o4.rows bl
  have w1_6 := w1_4.up p6
  have w2_6 := w2_4.up p6
  have o4_6 := o4.up p6
  have q6 := q4.trans p6
  have l6 := pre_len p6
  have e1 := k_eqIntS (X := X) g1.rows w1_6.rows hP
  have e2 := k_eqGraph (X := X) (size := ((poolI ml0).length : Int)) g2.rows w2_6.rows hG
  obtain ⟨v8, h8, c8, p8, o8⟩ := x_toPairS (X := X) (hm0.up q6) bl
  have w1_8 := w1_6.up p8
  have w2_8 := w2_6.up p8
  have o4_8 := o4_6.up p8
  have g1_8 := g1.up p8
  have g2_8 := g2.up p8
  have q8 := q6.trans p8
  have l8 := pre_len p8
  have c9 := k_eqPairS (X := X) o4_8.rows o8.rows bl
  obtain ⟨h10, c10, s10⟩ := m_markPairS (X := X) o4_8 bl (k := 1) (by have := bm0.1; omega)
  have l10 := s10.len
  have w1_10 := w1_8.same s10 (by omega)
  have w2_10 := w2_8.same s10 (by omega)
  have g1_10 := g1_8.same s10 (by omega)
  have g2_10 := g2_8.same s10 (by omega)
  have q10 := s10.pre q8 (by omega)
  have km : ¬ ((((1 + ml0.length * 2) : Nat) : Int) < 0) := by omega
  have e3 := k_eqIntS (X := X) g1_10.rows w1_10.rows hP
  have e4 := k_eqGraph (X := X) (size := ((poolI ml0).length : Int)) g2_10.rows w2_10.rows hG
  obtain ⟨h12, c12, s12, a12⟩ := k_markIntS (X := X) g1_10 (by rw [ints_len]; exact hP) (k := 1) (by omega)
  rw [ints_len] at c12 a12
  have l12 := s12.len
  have w1_12 := w1_10.same s12 (by omega)
  have w2_12 := w2_10.same s12 (by omega)
  have g2_12 := g2_10.same s12 (by omega)
  have q12 := s12.pre q10 (by omega)
  obtain ⟨K, hK⟩ : ∃ K, K = 1 + (poolI ml0).length * 1 := ⟨_, rfl⟩
  rw [← hK] at c12
  have hKb : K ≤ 10 := by omega
  obtain ⟨h13, c13, s13, a13⟩ := k_markEdgeS (X := X) g2_12 (by rw [List.length_map]; exact hG) (k := K) (by omega)
  rw [List.length_map] at c13 a13
  have cg13 : C T X n_laws_markGraph [graphV ((poolI ml0).length : Int) gg, .int .i64 (K : Int)] h12 = some (.int .i64 ((K + (poolG ml0).length * 5 : Nat) : Int), h13) := by
    refine C_go t_laws_markGraph rfl ?_
    unfold F_laws_markGraph graphV
    simp only [c13, finish_room s13.len, go_sem]
  have l13 := s13.len
  have w1_13 := w1_12.same s13 (by omega)
  have w2_13 := w2_12.same s13 (by omega)
  have a12_13 := a12.same s13 (by omega)
  have q13 := s13.pre q12 (by omega)
  have d1 := k_heldIntS (X := X) (n := (poolI ml0).length) a12_13.rows hP (by omega)
  rw [← hK] at d1
  have d2 := g_heldGraph (X := X) (size := ((poolI ml0).length : Int)) a13.rows (by omega) (by omega)
  obtain ⟨v14, h14, c14, p14, o14⟩ := x_toPairS (X := X) (hm0.up q13) bl
  have w1_14 := w1_13.up p14
  have w2_14 := w2_13.up p14
  have a12_14 := a12_13.up p14
  have a13_14 := a13.up p14
  have q14 := q13.trans p14
  obtain ⟨w16, h16, c16, p16, ph, gh, rfl, i2, hi2, b1, b2⟩ := k_impl_PoolOf (X := X) o14.rows bl
  have w1_16 := w1_14.up p16
  have w2_16 := w2_14.up p16
  have a12_16 := a12_14.up p16
  have a13_16 := a13_14.up p16
  have q16 := q14.trans p16
  have e5 := k_eqIntS (X := X) b1.rows w1_16.rows hP
  have e6 := k_eqGraph (X := X) (size := ((poolI ml0).length : Int)) b2.rows w2_16.rows hG
  have d3 := k_heldIntS (X := X) (n := (poolI ml0).length) a12_16.rows hP (by omega)
  rw [← hK] at d3
  have d4 := g_heldGraph (X := X) (size := ((poolI ml0).length : Int)) a13_16.rows (by omega) (by omega)
  have one : ((1 : Nat) : Int) = 1 := rfl
  rw [one] at c10 c12 d1 d3
  have kK : ¬ ((K : Nat) : Int) < 0 := by omega
  have kM : ¬ ((K + (poolG ml0).length * 5 : Nat) : Int) < 0 := by omega
  unfold graphV at *
  simp only [zc0, hn0, c1, c3, c4, c6, e1, e2, c8, c9, c10, km, e3, e4, c12, cg13, d1, d2, kK, kM, c14, c16, e5, e6, d3, d4, List.prefix_refl, BEq.rfl, p1, p3, p4, p6, p8, p14, p16, go_sem]
  try exact finish_flat rfl q16
end
def ps_FnExactPoolOf : List (Bool × List CK) := [(false, [.sl [.str, .str]])]
theorem law_FnExactPoolOf (h : Heap) (avs : List Value) (ha : All2 (ArgOk h) ps_FnExactPoolOf avs) : C T libX n_laws_FnExactPoolOf avs h = some (.bool true, h) := by
  obtain ⟨v0, r, rfl, k0, ha⟩ := ha.cons_inv
  obtain rfl := ha.nil_inv
  obtain ⟨ml0, hm0, hx0a, hx0b⟩ := k0.cell.pairs_inv
  have hx0 : PrMax ml0 := ⟨hx0a, hx0b⟩
  exact l_PoolOf hm0 hx0
end Go.Proofs.YtjgacjidaeahdaaGreatDoor.Ab
