/- Joined: P16, K60, K61, K62, K66, K68, Op3, LFnExactAsksFor. No conditions. -/
import Derived.Test.YtjgacjidaeahdaaGreatDoorM16
import Derived.Test.YtjgacjidaeahdaaGreatDoorM19
import Derived.Test.YtjgacjidaeahdaaGreatDoorM12
import Derived.Test.YtjgacjidaeahdaaGreatDoorM4
import Derived.Test.YtjgacjidaeahdaaGreatDoorM15
set_option linter.unusedSimpArgs false
set_option linter.unusedVariables false
set_option linter.unnecessarySimpa false
set_option maxHeartbeats 4000000
namespace Go.Proofs.YtjgacjidaeahdaaGreatDoor.Ab
open Go.RowKit
theorem vK_lt {a b : Nat} (h : a < b) (hb : b < 100) : kLt (vK a) (vK b) := by
  unfold kLt vK vL
  rw [toList_nums, toList_nums]
  rw [show (118 : Int) :: twoL a = [118] ++ twoL a from rfl, show (118 : Int) :: twoL b = [118] ++ twoL b from rfl, List.map_append, List.map_append, bl_front]
  exact two_less h hb
theorem vK_ltI {a b : Nat} (ha : a < 100) (h : kLt (vK a) (vK b)) : a < b := by
  rcases Nat.lt_trichotomy a b with k | k | k
  · exact k
  · subst k; exact absurd h kLt.irrefl
  · exact absurd (h.trans (vK_lt k ha)) kLt.irrefl
theorem natSorted_eq : ∀ {a b : List Nat}, a.Pairwise (· < ·) → b.Pairwise (· < ·) → (∀ x, x ∈ a ↔ x ∈ b) → a = b
  | [], [], _, _, _ => rfl
  | [], y :: b, _, _, h => absurd ((h y).2 List.mem_cons_self) List.not_mem_nil
  | x :: a, [], _, _, h => absurd ((h x).1 List.mem_cons_self) List.not_mem_nil
  | x :: a, y :: b, ha, hb, h => by
    obtain ⟨ha1, ha2⟩ := List.pairwise_cons.1 ha
    obtain ⟨hb1, hb2⟩ := List.pairwise_cons.1 hb
    have hxy : x = y := by
      rcases List.mem_cons.1 ((h x).1 List.mem_cons_self) with e | e
      · exact e
      · rcases List.mem_cons.1 ((h y).2 List.mem_cons_self) with e2 | e2
        · exact e2.symm
        · have := hb1 x e; have := ha1 y e2; omega
    subst hxy
    congr 1
    refine natSorted_eq ha2 hb2 fun p => ⟨fun hp => ?_, fun hp => ?_⟩
    · rcases List.mem_cons.1 ((h p).1 (List.mem_cons_of_mem _ hp)) with e | e
      · subst e; have := ha1 p hp; omega
      · exact e
    · rcases List.mem_cons.1 ((h p).2 (List.mem_cons_of_mem _ hp)) with e | e
      · subst e; have := hb1 p hp; omega
      · exact e
/-- The ids whose values pass a test: by number, and by the map's order. -/
def idT (m : List Pr) (T : ByteArray → Bool) (i : Nat) : Bool := (getK m (vK i)).isSome && T ((getK m (vK i)).getD noT)
def idsT (m : List Pr) (T : ByteArray → Bool) : List Nat := (List.range 12).filter (idT m T)
def isV (T : ByteArray → Bool) (p : Pr) : Bool := decide (byt p.k 0 = 118) && T p.v
def keyN (p : Pr) : Nat := (rdTwo (p.k.extract 1 p.k.size)).getD 0
def idsM (m : List Pr) (T : ByteArray → Bool) : List Nat := (m.filter (isV T)).map keyN
theorem keyN_vK {i : Nat} {v : ByteArray} (hi : i < 100) : keyN ⟨vK i, v⟩ = i := by
  unfold keyN
  have := (kv1 (k := vK i) (i := i) (by rw [vK_size hi]; omega) vK_0).2 ⟨rfl, hi⟩
  simp only [this, Option.getD_some]
theorem idT_iff {m : List Pr} {T : ByteArray → Bool} {i : Nat} : idT m T i = true ↔ ∃ v, getK m (vK i) = some v ∧ T v = true := by
  unfold idT
  cases getK m (vK i) <;> simp
theorem ids_eq {m : List Pr} {T : ByteArray → Bool} (hm : MapIs m) (hv : ∀ p ∈ m, byt p.k 0 = 118 → ∃ i, i < 12 ∧ p.k = vK i) : idsM m T = idsT m T := by
  have key : ∀ p ∈ m, isV T p = true → ∃ i, i < 12 ∧ p.k = vK i ∧ keyN p = i ∧ T p.v = true := fun p hp h => by
    unfold isV at h
    simp only [Bool.and_eq_true, decide_eq_true_eq] at h
    obtain ⟨i, hi, e⟩ := hv p hp h.1
    refine ⟨i, hi, e, ?_, h.2⟩
    have hpp : p = ⟨vK i, p.v⟩ := by cases p; simp only at e; rw [e]
    rw [hpp]
    exact keyN_vK (by omega)
  refine natSorted_eq ?_ (List.pairwise_lt_range.filter _) fun x => ?_
  · refine List.pairwise_map.2 (List.Pairwise.imp_of_mem (fun {a b} ha hb hab => ?_) (hm.sorted.filter (isV T)))
    obtain ⟨ha1, ha2⟩ := List.mem_filter.1 ha
    obtain ⟨hb1, hb2⟩ := List.mem_filter.1 hb
    obtain ⟨i, i1, i2, i3, _⟩ := key a ha1 ha2
    obtain ⟨j, j1, j2, j3, _⟩ := key b hb1 hb2
    rw [i2, j2] at hab
    rw [i3, j3]
    exact vK_ltI (by omega) hab
  · unfold idsM idsT
    rw [List.mem_map, List.mem_filter, List.mem_range, idT_iff]
    constructor
    · rintro ⟨p, hp, rfl⟩
      obtain ⟨h1, h2⟩ := List.mem_filter.1 hp
      obtain ⟨i, i1, i2, i3, i4⟩ := key p h1 h2
      rw [i3]
      refine ⟨i1, p.v, ?_, i4⟩
      rw [← i2]
      exact hm.mem.1 h1
    · rintro ⟨hx, v, h1, h2⟩
      refine ⟨⟨vK x, v⟩, List.mem_filter.2 ⟨hm.mem.2 h1, ?_⟩, keyN_vK (by omega)⟩
      unfold isV
      simp only [vK_0, h2, decide_true, Bool.and_self]
theorem idsT_congr {m : List Pr} {T S : ByteArray → Bool} (h : ∀ i v, i < 12 → getK m (vK i) = some v → T v = S v) : idsT m T = idsT m S := by
  unfold idsT
  refine List.filter_congr fun i hi => ?_
  have hi := List.mem_range.1 hi
  unfold idT
  cases hg : getK m (vK i) with
  | none => rfl
  | some v => simp only [Option.isSome_some, Option.getD_some, Bool.true_and]; exact h i v hi hg
/-- A value of an id. -/
def ValOk (R : Nat) (v : ByteArray) : Prop := v = aT ∨ v = lT ∨ ∃ r, r < R ∧ v = pT r
def vPre (f v : ByteArray) : Bool := decide (f.size ≤ v.size ∧ v.extract 0 f.size = f)
theorem val_byt {R : Nat} {v : ByteArray} (h : ValOk R v) : 1 ≤ v.size ∧ ((v = aT ∧ byt v 0 = 97) ∨ (v = lT ∧ byt v 0 = 108) ∨ (byt v 0 = 112 ∧ ∃ r, r < R ∧ v = pT r)) := by
  rcases h with h | h | ⟨r, hr, h⟩
  · subst h; exact ⟨Nat.le_refl 1, .inl ⟨rfl, rfl⟩⟩
  · subst h; exact ⟨Nat.le_refl 1, .inr (.inl ⟨rfl, rfl⟩)⟩
  · refine ⟨?_, .inr (.inr ⟨?_, r, hr, h⟩)⟩
    · rw [h]; unfold pT; rw [strOfNums_size]; simp
    · rw [h]; exact k_byte (by omega)
theorem vPre_one {c : Nat} (hc : c < 256) {v : ByteArray} (hv : 1 ≤ v.size) : vPre (strOfNums [(c : Int)]) v = decide (byt v 0 = c) := by
  unfold vPre
  have hs : (strOfNums [(c : Int)]).size = 1 := by rw [strOfNums_size]; rfl
  rw [hs, head_one hv]
  by_cases e : byt v 0 = c
  · rw [e]; simp [hv]
  · have : ¬ strOfNums [((byt v 0 : Nat) : Int)] = strOfNums [(c : Int)] := fun k => by
      have k1 := congrArg (byt · 0) k
      have b0 := byt_lt (s := v) (i := 0)
      simp only [k_byte (l := []) (show (0 : Int) ≤ ((byt v 0 : Nat) : Int) ∧ ((byt v 0 : Nat) : Int) < 256 by omega), k_byte (l := []) (show (0 : Int) ≤ (c : Int) ∧ (c : Int) < 256 by omega)] at k1
      omega
    simp [e, this]
theorem vPre_nil {v : ByteArray} : vPre noT v = true := by
  unfold vPre
  have h0 : noT.size = 0 := rfl
  have h1 : (v.extract 0 0).size = 0 := by rw [ByteArray.size_extract]; omega
  rw [h0]
  simp only [Nat.zero_le, true_and, decide_eq_true_eq]
  apply ByteArray.ext
  apply Array.eq_empty_of_size_eq_zero
  exact h1
theorem lT_nums : lT = strOfNums [((108 : Nat) : Int)] := by decide
section
variable {cf : Cf} {m : List Pr} {R : Nat}
theorem st_rnd (h : StI cf m) (hR : IsRnd m R) : R ≤ 6 := by
  obtain ⟨_, R', h1, h2, _⟩ := h
  rw [hR.one h2]; exact h1
theorem st_all (h : StI cf m) (hR : IsRnd m R) : ∀ p ∈ m, IdOk R p ∨ LinkI m p ∨ (∃ r, r < R ∧ p.k = qK r ∧ RoundI cf m r) ∨ ∃ r i n, r < R ∧ i < 100 ∧ p.k = rK r i ∧ IsParts m r n ∧ i < n := by
  obtain ⟨_, R', h1, h2, h3⟩ := h
  rw [hR.one h2]; exact h3
theorem st_v (h : StI cf m) (hR : IsRnd m R) {p : Pr} (hp : p ∈ m) (h0 : byt p.k 0 = 118) : ∃ i, i < 12 ∧ p.k = vK i ∧ ValOk R p.v := by
  rcases st_all h hR p hp with ⟨i, h1, e, h2⟩ | ⟨a, b, _, _, e, _⟩ | ⟨r', hr', e, hx⟩ | ⟨r', i, n, _, _, e, _⟩
  · exact ⟨i, h1, e, h2⟩
  · rw [e, eK_0] at h0; omega
  · rw [e, qK_0] at h0; omega
  · rw [e, rK_0] at h0; omega
theorem st_val (h : StI cf m) (hR : IsRnd m R) {i : Nat} {v : ByteArray} (hg : getK m (vK i) = some v) : i < 12 ∧ ValOk R v := by
  have hp : (⟨vK i, v⟩ : Pr) ∈ m := h.1.mem.2 hg
  obtain ⟨j, h1, h2, h3⟩ := st_v h hR hp vK_0
  rw [vK_inj h2]
  exact ⟨h1, h3⟩
theorem st_e (h : StI cf m) (hR : IsRnd m R) {p : Pr} (hp : p ∈ m) (h0 : byt p.k 0 = 101) : LinkI m p := by
  rcases st_all h hR p hp with ⟨i, h1, e, h2⟩ | h | ⟨r', hr', e, hx⟩ | ⟨r', i, n, _, _, e, _⟩
  · rw [e, vK_0] at h0; omega
  · exact h
  · rw [e, qK_0] at h0; omega
  · rw [e, rK_0] at h0; omega
theorem idsM_st (h : StI cf m) (hR : IsRnd m R) {T : ByteArray → Bool} : idsM m T = idsT m T :=
  ids_eq h.1 fun p hp h0 => by
    obtain ⟨i, h1, h2, _⟩ := st_v h hR hp h0
    exact ⟨i, h1, h2⟩
/-- A test of a value's first letter is the letter's. -/
theorem idsT_pre (h : StI cf m) (hR : IsRnd m R) {c : Nat} (hc : c < 256) : idsT m (vPre (strOfNums [(c : Int)])) = idsT m fun v => decide (byt v 0 = c) :=
  idsT_congr fun i v _ hg => vPre_one hc (val_byt (st_val h hR hg).2).1
theorem idsT_all : idsT m (vPre noT) = idsT m fun _ => true := idsT_congr fun _ _ _ _ => vPre_nil
theorem idsT_l (h : StI cf m) (hR : IsRnd m R) : (idsT m fun v => decide (byt v 0 = 108)) = idsT m fun v => decide (v = lT) :=
  idsT_congr fun i v _ hg => by
    rcases (val_byt (st_val h hR hg).2).2 with ⟨h1, h2⟩ | ⟨h1, h2⟩ | ⟨h1, _, _, h2⟩
    · subst h1; decide
    · subst h1; decide
    · rw [h1]
      have : ¬ v = lT := fun e => by subst e; exact absurd h1 (by decide)
      simp [this]
theorem idsT_le {T : ByteArray → Bool} : (idsT m T).length ≤ 12 := by
  have := List.length_filter_le (idT m T) (List.range 12)
  rw [List.length_range] at this
  exact this
end
end Go.Proofs.YtjgacjidaeahdaaGreatDoor.Ab
set_option linter.unusedSimpArgs false
set_option linter.unusedVariables false
set_option linter.unnecessarySimpa false
set_option maxHeartbeats 4000000
namespace Go.Proofs.YtjgacjidaeahdaaGreatDoor.Ab
open Go.RowKit
def natI (l : List Nat) : List Int := l.map fun n : Nat => (n : Int)
theorem natI_len {l : List Nat} : (natI l).length = l.length := by simp [natI]
def fI (m : List Pr) (T : ByteArray → Bool) (i : Nat) : List Nat := (List.range i).filter (idT m T)
theorem fI_succ {m : List Pr} {T : ByteArray → Bool} {i : Nat} : fI m T (i + 1) = if idT m T i = true then fI m T i ++ [i] else fI m T i := by
  unfold fI
  rw [List.range_succ, List.filter_append]
  by_cases c : idT m T i = true
  · rw [if_pos c]; simp [c]
  · rw [if_neg c]; simp [c]
theorem fI_len {m : List Pr} {T : ByteArray → Bool} {i : Nat} : (fI m T i).length ≤ i := Nat.le_trans (List.length_filter_le _ _) (by simp)
def fM (m : List Pr) (T : ByteArray → Bool) (i : Nat) : List Nat := ((m.take i).filter (isV T)).map keyN
theorem fM_succ {m : List Pr} {T : ByteArray → Bool} {i : Nat} (hi : i < m.length) : fM m T (i + 1) = if isV T (m.getD i p0) = true then fM m T i ++ [keyN (m.getD i p0)] else fM m T i := by
  unfold fM
  rw [take_snocD' (d := p0) hi, List.filter_append, List.map_append]
  generalize m.getD i p0 = q
  by_cases c : isV T q = true
  · rw [if_pos c]; simp [c]
  · rw [if_neg c]; simp [c]
theorem fM_len {m : List Pr} {T : ByteArray → Bool} {i : Nat} : (fM m T i).length ≤ m.length := by
  unfold fM
  rw [List.length_map]
  exact Nat.le_trans (List.length_filter_le _ _) (List.length_take_le' ..)
section
variable {X : CallF} {h : Heap} {m : List Pr} {mv : Value} {R : Nat}
theorem k_HasPrefix {s f : ByteArray} : C T X n_strings_HasPrefix [.string s, .string f] h = some (.bool (vPre f s), h) := by
  have c : C T X n_internal_stringslite_HasPrefix [.string s, .string f] h = some (.bool (vPre f s), h) := by
    refine C_go t_internal_stringslite_HasPrefix rfl ?_
    unfold F_internal_stringslite_HasPrefix
    by_cases k : (s.size : Int) ≥ f.size
    · have f1 := sl_to (s := s) (b := f.size) (by omega)
      by_cases c : s.extract 0 f.size = f
      · have c' : ((s.extract 0 f.size).toList == f.toList) = true := by rw [str_eq]; exact decide_eq_true c
        simp only [k, f1, c', go_sem]
        exact (decide_eq_true ⟨by omega, c⟩).symm
      · have c' : ((s.extract 0 f.size).toList == f.toList) = false := by rw [str_eq]; exact decide_eq_false c
        simp only [k, f1, c', go_sem]
        exact (decide_eq_false fun q => c q.2).symm
    · simp only [k, go_sem]
      exact (decide_eq_false fun q => k (by omega)).symm
  refine C_go t_strings_HasPrefix rfl ?_
  unfold F_strings_HasPrefix
  simp only [c, go_sem]
end
section
variable {X : CallF} [LibX X] {h : Heap} {m : List Pr} {mv : Value} {R : Nat}
theorem k_impl_idsBy {f : ByteArray} (hm : Rows h 2 mv (prsL m)) (hl : m.length ≤ lim) : ∃ v hh, C T X n_impl_idsBy [mv, .string f] h = some (v, hh) ∧ h <+: hh ∧ Own hh h.length hh.length 1 y_int v (ints (natI (idsT m (vPre f)))) := by
  refine C_ex t_impl_idsBy rfl ?_
  unfold F_impl_idsBy
  simp only [zeros, fillAt, go_sem]
  refine w_for 12 (fun i t loc h' => t 0 = mv ∧ t 1 = .string f ∧ t 9 = .int .i64 i ∧ h <+: h' ∧ ∃ v, t 5 = v ∧ Own h' h.length h'.length 1 y_int v (ints (natI (fI m (vPre f) i)))) ⟨rfl, rfl, rfl, List.prefix_refl _, _, rfl, Own.nil⟩ ?_
  rintro i t loc h' hi ⟨t0, t1, t9, hp, v, t5, o⟩
  simp only [t9, go_sem]
  refine w_open (by simp only [go_sem]; rfl) ?_ ?_ <;> intro hc
  · have hi1 : i < 12 := by omega
    have hw : IntKind.i64.wrap ((i : Int) + 1) = ((i + 1 : Nat) : Int) := w64 (by omega) (by omega)
    have h2 := k_impl_two (X := X) (h := h') (n := i) (by omega)
    have hz := twoT_size (n := i) (by omega)
    have hz1 : (⟨[118]⟩ : Array UInt8).size + (twoT i).size ≤ 9223372036854775807 := by rw [asz]; omega
    have hg := k_impl_get (X := X) (k := vK i) (hm.up hp) hl
    unfold getV at hg
    have hsu := fI_succ (m := m) (T := vPre f) (i := i)
    have hle := fI_len (m := m) (T := vPre f) (i := i)
    unfold idT at hsu
    obtain ⟨w, hw0⟩ : ∃ w, w = (getK m (vK i)).getD noT := ⟨_, rfl⟩
    rw [← hw0] at hg hsu
    have hx := k_HasPrefix (X := X) (h := h') (s := w) (f := f)
    obtain ⟨v2, h3, c3, q1, q2, o2⟩ := o.push1 (pre_len hp) [.int .i64 (i : Int)] rfl (by rw [ints_len, natI_len]; unfold lim; omega)
    rw [Nat.max_eq_right q1] at o2
    have hp3 := pre_push hp (Nat.le_refl _) q1 q2
    cases e1 : (getK m (vK i)).isSome with
    | false =>
      rw [e1] at hg hsu
      simp only [t0, t1, t5, t9, h2, hz1, vK_app, hg, hw, go_sem]
      exact ⟨hi1, hp, v, rfl, by rw [hsu]; exact o⟩
    | true =>
      rw [e1] at hg hsu
      cases e2 : vPre f w with
      | false =>
        rw [e2] at hx hsu
        simp only [t0, t1, t5, t9, h2, hz1, vK_app, hg, hx, hw, go_sem]
        exact ⟨hi1, hp, v, rfl, by rw [hsu]; exact o⟩
      | true =>
        rw [e2] at hx hsu
        simp only [t0, t1, t5, t9, h2, hz1, vK_app, hg, hx, hw, zeros, fillAt, c3, go_sem]
        exact ⟨hi1, hp3, v2, rfl, by rw [hsu]; simpa [ints, natI] using o2⟩
  · have hin : i = 12 := by omega
    subst hin
    simp only [t5, go_sem]
    exact ⟨o.live, o.fin hp⟩
end
section
variable {X : CallF} {h : Heap} {m : List Pr} {mv : Value} {R : Nat}
theorem k_spec_l13Ids {f : ByteArray} (hm : Rows h 2 mv (prsL m)) (hl : m.length ≤ 10000) (hk : ∀ p ∈ m, 1 ≤ p.k.size) : ∃ v hh, C T X n_spec_l13Ids [mv, .string f] h = some (v, hh) ∧ h <+: hh ∧ Own hh h.length hh.length 1 y_int v (ints (natI (idsM m fun v => decide (f = noT) || decide (v = f)))) := by
  refine C_ex t_spec_l13Ids rfl ?_
  unfold F_spec_l13Ids
  obtain ⟨S, hS⟩ : ∃ S : ByteArray → Bool, S = fun v => decide (f = noT) || decide (v = f) := ⟨_, rfl⟩
  rw [← hS]
  simp only [zeros, fillAt, go_sem]
  refine w_for m.length (fun i t loc h' => t 0 = mv ∧ t 1 = .string f ∧ t 6 = .int .i64 i ∧ h <+: h' ∧ ∃ v, t 5 = v ∧ Own h' h.length h'.length 1 y_int v (ints (natI (fM m S i)))) ⟨rfl, rfl, rfl, List.prefix_append _ _, _, rfl, Acc.new.own⟩ ?_
  rintro i t loc h' hi ⟨t0, t1, t6, hp, v, t5, o⟩
  have hm' := hm.up hp
  simp only [t0, t6, hm'.lnm, go_sem]
  refine w_open (by simp only [go_sem]; rfl) ?_ ?_ <;> intro hc
  · have hi1 : i < m.length := by omega
    have hw : IntKind.i64.wrap ((i : Int) + 1) = ((i + 1 : Nat) : Int) := w64 (by omega) (by omega)
    have el := hm'.el (f := prR) p0 hi1
    have cl0 := hm'.cell (f := prR) p0 hi1 (o := 0) (by omega)
    have cl1 := hm'.cell (f := prR) p0 hi1 (o := 1) (by omega)
    have hk1 := hk _ (getD_mem (d := p0) hi1)
    have hsu := fM_succ (T := S) hi1
    have hle := fM_len (m := m) (T := S) (i := i)
    unfold isV at hsu
    obtain ⟨q, hq⟩ : ∃ q, q = m.getD i p0 := ⟨_, rfl⟩
    rw [← hq] at el cl0 cl1 hk1 hsu
    have k0 : ldC h' (elemP mv 2 i 0) 1 = some [.string q.k] := cl0
    have k1 : ldC h' (elemP mv 2 i 1) 1 = some [.string q.v] := cl1
    have e0 : ixV (.string q.k) (.int .i64 0) = some (.int .u8 (byt q.k 0 : Nat)) := ix_byt (i := 0) (by omega)
    have f1 : slSV (.string q.k) (some (.int .i64 1)) none = some (.string (q.k.extract 1 q.k.size)) := sl_from (a := 1) hk1
    have h2 := k_spec_l13Num (X := X) (h := h') (s := q.k.extract 1 q.k.size)
    have hn : twoV (q.k.extract 1 q.k.size) = .tuple ⟨[.int .i64 ((keyN q : Nat) : Int), .bool (rdTwo (q.k.extract 1 q.k.size)).isSome]⟩ := rfl
    rw [hn] at h2
    obtain ⟨v2, h3, c3, q1, q2, o2⟩ := o.push1 (pre_len hp) [.int .i64 ((keyN q : Nat) : Int)] rfl (by rw [ints_len, natI_len]; unfold lim; omega)
    rw [Nat.max_eq_right q1] at o2
    have hp3 := pre_push hp (Nat.le_refl _) q1 q2
    have o2' : Own h3 h.length h3.length 1 y_int v2 (ints (natI (fM m S i ++ [keyN q]))) := by simpa [ints, natI] using o2
    by_cases c1 : ((byt q.k 0 : Nat) : Int) = 118
    · have d1 : decide (byt q.k 0 = 118) = true := decide_eq_true (by omega)
      rw [d1, Bool.true_and] at hsu
      by_cases c2 : f = noT
      · have c2' : (f.toList == ByteArray.toList ⟨⟨[]⟩⟩) = true := by rw [str_eq]; exact decide_eq_true c2
        have d2 : S q.v = true := by rw [hS]; simp [c2]
        rw [d2, if_pos rfl] at hsu
        simp only [t0, t1, t5, t6, el.1, el.2.1, k0, k1, e0, c1, c2', f1, h2, hw, zeros, fillAt, c3, go_sem]
        exact ⟨hi1, hp3, v2, rfl, by rw [hsu]; exact o2'⟩
      · have c2' : (f.toList == ByteArray.toList ⟨⟨[]⟩⟩) = false := by rw [str_eq]; exact decide_eq_false c2
        by_cases c4 : q.v = f
        · have c4' : (q.v.toList == f.toList) = true := by rw [str_eq]; exact decide_eq_true c4
          have d2 : S q.v = true := by rw [hS]; simp [c4]
          rw [d2, if_pos rfl] at hsu
          simp only [t0, t1, t5, t6, el.1, el.2.1, k0, k1, e0, c1, c2', c4', f1, h2, hw, zeros, fillAt, c3, go_sem]
          exact ⟨hi1, hp3, v2, rfl, by rw [hsu]; exact o2'⟩
        · have c4' : (q.v.toList == f.toList) = false := by rw [str_eq]; exact decide_eq_false c4
          have d2 : S q.v = false := by rw [hS]; simp [c2, c4]
          rw [d2] at hsu
          simp only [t0, t1, t5, t6, el.1, el.2.1, k0, k1, e0, c1, c2', c4', f1, h2, hw, zeros, fillAt, c3, go_sem]
          exact ⟨hi1, hp, v, rfl, by rw [hsu]; exact o⟩
    · have d1 : decide (byt q.k 0 = 118) = false := decide_eq_false (by omega)
      rw [d1] at hsu
      simp only [t0, t1, t5, t6, el.1, el.2.1, k0, k1, e0, c1, f1, h2, hw, zeros, fillAt, c3, go_sem]
      exact ⟨hi1, hp, v, rfl, by rw [hsu]; exact o⟩
  · have hin : i = m.length := by omega
    subst hin
    simp only [t5, go_sem]
    have e : fM m S m.length = idsM m S := by unfold fM idsM; rw [List.take_length]
    rw [e] at o
    refine ⟨o.live, ?_⟩
    obtain ⟨f1, f2⟩ := o.fin hp
    exact ⟨f1, f2⟩
open Classical in
/-- The ids of a right state that pass a test. -/
noncomputable def idsR (m : List Pr) (T : ByteArray → Bool) : List Int := if StI cfR m then natI (idsT m T) else []
end
section
variable {X : CallF} [LibX X] {h : Heap} {m : List Pr} {mv : Value} {R : Nat}
def tAll : ByteArray → Bool := fun _ => true
theorem map_k {m : List Pr} (h : MapIs m) : ∀ p ∈ m, 1 ≤ p.k.size := fun p hp => by
  obtain ⟨i, hi, rfl⟩ := mem_getD (d := p0) hp
  exact (h.2 i hi).1.1.1
theorem ids_all {m : List Pr} : (fun v : ByteArray => decide (noT = noT) || decide (v = noT)) = tAll := by
  funext v; simp [tAll]
theorem k_impl_Ids (hm : Rows h 2 mv (prsL m)) (hl : m.length ≤ lim) : ∃ v hh, C T X n_impl_Ids [mv] h = some (v, hh) ∧ h <+: hh ∧ Own hh h.length hh.length 1 y_int v (ints (idsR m tAll)) := by
  refine C_ex t_impl_Ids rfl ?_
  unfold F_impl_Ids
  have c := k_impl_StateOk (X := X) hm hl
  unfold idsR
  by_cases st : StI cfR m
  · rw [if_pos st]
    rw [tB_t st] at c
    obtain ⟨v, hh, c2, p, o⟩ := k_impl_idsBy (X := X) (f := noT) hm hl
    rw [idsT_all] at o
    have c2' : C T X n_impl_idsBy [mv, .string ⟨⟨[]⟩⟩] h = some (v, hh) := c2
    simp only [c, c2', p, go_sem]
    exact ⟨o.live, o.fin p⟩
  · rw [if_neg st]
    rw [tB_f st] at c
    simp only [c, zeros, fillAt, go_sem]
    exact ⟨List.prefix_refl _, Own.nil⟩
end
section
variable {X : CallF} {h : Heap} {m : List Pr} {mv : Value} {R : Nat}
end
end Go.Proofs.YtjgacjidaeahdaaGreatDoor.Ab
set_option linter.unusedSimpArgs false
set_option linter.unusedVariables false
set_option linter.unnecessarySimpa false
set_option maxHeartbeats 4000000
namespace Go.Proofs.YtjgacjidaeahdaaGreatDoor.Ab
open Go.RowKit
theorem Own.fl1 {h : Heap} {lo hi sz : Nat} {ty : TypeId} {v : Value} {rws : List (List Value)} (o : Own h lo hi sz ty v rws) (hf : flat1 v = true) : prim v = true := by
  rcases o.is with ⟨rfl, rfl⟩ | ⟨b, _, _, rfl, _⟩
  · rfl
  · exact hf
section
variable {X : CallF} [LibX X] {h : Heap} {m : List Pr} {mv : Value} {R : Nat} {r : Int}
end
section
variable {X : CallF} {h : Heap} {m : List Pr} {mv : Value} {R : Nat} {r : Int}
end
end Go.Proofs.YtjgacjidaeahdaaGreatDoor.Ab
set_option linter.unusedSimpArgs false
set_option linter.unusedVariables false
set_option linter.unnecessarySimpa false
set_option maxHeartbeats 4000000
namespace Go.Proofs.YtjgacjidaeahdaaGreatDoor.Ab
open Go.RowKit
section
variable {m : List Pr} {r : Int}
theorem take_mapD {α β : Type} {d : α} {f : α → β} {l : List α} {i : Nat} (hi : i < l.length) : (l.take (i + 1)).map f = (l.take i).map f ++ [f (l.getD i d)] := by
  rw [take_snocD' (d := d) hi, List.map_append]; rfl
end
section
variable {X : CallF} [LibX X] {h : Heap} {m : List Pr} {mv : Value} {r : Int}
end
section
variable {X : CallF} {h : Heap} {m : List Pr} {mv : Value} {r : Int}
end
end Go.Proofs.YtjgacjidaeahdaaGreatDoor.Ab
set_option linter.unusedSimpArgs false
set_option linter.unusedVariables false
set_option linter.unnecessarySimpa false
set_option maxHeartbeats 4000000
namespace Go.Proofs.YtjgacjidaeahdaaGreatDoor.Ab
open Go.RowKit
theorem worths_ix {v : ByteArray} (h : Worths v) : ixV (.string v) (.int .i64 0) = some (.int .u8 (byt v 0 : Nat)) ∧ ixV (.string v) (.int .i64 1) = some (.int .u8 (byt v 1 : Nat)) ∧ ixV (.string v) (.int .i64 2) = some (.int .u8 (byt v 2 : Nat)) := by
  have h3 := h.1
  exact ⟨ix_byt (i := 0) (by omega), ix_byt (i := 1) (by omega), ix_byt (i := 2) (by omega)⟩
section
variable {X : CallF} [LibX X] {h : Heap} {m : List Pr} {mv : Value} {r : Int}
end
section
variable {X : CallF} {h : Heap} {m : List Pr} {mv : Value} {r : Int}
end
section
variable {X : CallF} [LibX X] {h : Heap} {m : List Pr} {mv : Value} {r : Int}
end
section
variable {X : CallF} {h : Heap} {m : List Pr} {mv : Value} {r : Int}
end
end Go.Proofs.YtjgacjidaeahdaaGreatDoor.Ab
set_option linter.unusedSimpArgs false
set_option linter.unusedVariables false
set_option linter.unnecessarySimpa false
set_option maxHeartbeats 4000000
namespace Go.Proofs.YtjgacjidaeahdaaGreatDoor.Ab
open Go.RowKit
/-- One more, beside a slice of another block. -/
theorem push_sep {h : Heap} {lo hi l2 h2 sz sz2 : Nat} {ty ty2 : TypeId} {v w : Value} {rws rws2 : List (List Value)} (o : Own h lo hi sz ty v rws) (hlo : lo ≤ h.length) (q : Own h l2 h2 sz2 ty2 w rws2) (hs : Sep v w) (cs : List Value) (hc : cs.length = sz) (hl : rws.length < lim) :
    ∃ v' h', appLW h sz ty 1 v (some cs) = some (v', h') ∧ h.length ≤ h'.length ∧ (∀ b, b < lo ∨ (h.length ≤ b ∧ b < h.length) → h'[b]? = h[b]?) ∧ Own h' lo (max hi h'.length) sz ty v' (rws ++ [cs]) ∧ Own h' l2 h2 sz2 ty2 w rws2 ∧ Sep v' w := by
  obtain ⟨v', h', e, g, bb, k, o'⟩ := push_is o hlo [cs] (fun r hr => by rw [List.mem_singleton.1 hr]; exact hc) (by simp) (by simp; omega)
  rw [List.flatten_cons, List.flatten_nil, List.append_nil] at e
  refine ⟨v', h', e, g, fun b hb => ?_, ?_, ?_, ?_⟩
  · refine bb b (by omega) ?_
    rcases o.within with rfl | ⟨k1, k2, k3⟩
    · exact .inr (Nat.zero_le _)
    · omega
  · refine o'.wide ?_ ?_
    · rcases k with ⟨_, k2, _, _⟩ | ⟨k1, _, k3, _⟩
      · omega
      · rcases o.within with e2 | ⟨k5, _, _⟩
        · exact absurd e2 k1
        · omega
    · rcases k with ⟨_, _, k3, k4⟩ | ⟨k1, _, _, k4⟩
      · omega
      · rcases o.within with e2 | ⟨_, k6, _⟩
        · exact absurd e2 k1
        · omega
  · refine ⟨q.len, ?_⟩
    rcases q.is with hn | ⟨b, l1, l3, rfl, h3⟩
    · exact .inl hn
    · refine .inr ⟨b, l1, l3, rfl, ?_⟩
      rw [bb b (lt_of_get h3) ?_]
      · exact h3
      · rcases o.within with rfl | ⟨k1, k2, k3⟩
        · exact .inr (Nat.zero_le _)
        · have hs' : thi v ≤ b ∨ b + 1 ≤ tlo v := hs
          omega
  · rcases q.is with ⟨rfl, _⟩ | ⟨b, l1, l3, rfl, h3⟩
    · exact sep_nil
    · have := lt_of_get h3
      have hs' : thi v ≤ b ∨ b + 1 ≤ tlo v := hs
      show thi v' ≤ b ∨ b + 1 ≤ tlo v'
      rcases k with ⟨_, k2, _, _⟩ | ⟨_, _, k3, k4⟩
      · omega
      · rw [k3, k4]; exact hs'
def jA (x : Int) : Aq := ⟨1, x, 0, 0, 0, 0⟩
def lA (x : Int) : Aq := ⟨3, x, 0, 0, 0, 0⟩
def linkA (p : Pr) : Aq := ⟨2, (((rdTwo (p.k.extract 1 3)).getD 0 : Nat) : Int), (((rdTwo (p.k.extract 3 p.k.size)).getD 0 : Nat) : Int), ((byt p.v 0 : Nat) : Int), ((byt p.v 1 : Nat) : Int), ((byt p.v 2 : Nat) : Int)⟩
def eA (p : Pr) : List Aq := if byt p.k 0 = 101 then [linkA p] else []
def eTo (m : List Pr) (i : Nat) : List Aq := (m.take i).flatMap eA
theorem eTo_succ {m : List Pr} {i : Nat} (hi : i < m.length) : eTo m (i + 1) = eTo m i ++ eA (m.getD i p0) := by
  unfold eTo
  rw [take_snocD' (d := p0) hi, List.flatMap_append]
  simp
theorem eTo_len {m : List Pr} : ∀ i, (eTo m i).length ≤ i
  | 0 => by unfold eTo; simp
  | i + 1 => by
    by_cases hi : i < m.length
    · have := eTo_len (m := m) i
      rw [eTo_succ hi, List.length_append]
      unfold eA
      split <;> simp <;> omega
    · have := eTo_len (m := m) i
      have e : eTo m (i + 1) = eTo m i := by unfold eTo; rw [List.take_of_length_le (by omega), List.take_of_length_le (by omega)]
      rw [e]; omega
def tL : ByteArray → Bool := fun v => decide (v = lT)
/-- A right state without rounds. -/
def AskIn (m : List Pr) : Prop := StI cfR m ∧ IsRnd m 0
noncomputable def asksA (m : List Pr) : List Aq := (natI (idsT m tAll)).map jA ++ eTo m m.length ++ (natI (idsT m tL)).map lA
open Classical in
noncomputable def asksL (m : List Pr) : List Aq := if AskIn m then asksA m else []
theorem asksL_len {m : List Pr} : (asksL m).length ≤ 200 := by
  unfold asksL
  split
  · next k =>
    have h1 := idsT_le (m := m) (T := tAll)
    have h2 := idsT_le (m := m) (T := tL)
    have h3 := eTo_len (m := m) m.length
    have h4 := k.1.1.1
    unfold asksA
    simp only [List.length_append, List.length_map, natI_len]
    omega
  · exact Nat.zero_le _
theorem ids_l {m : List Pr} : (fun v : ByteArray => decide (lT = noT) || decide (v = lT)) = tL := by
  funext v
  have : ¬ lT = noT := by decide
  simp [tL, this]
section
variable {X : CallF} [LibX X] {h : Heap} {m : List Pr} {mv : Value}
theorem k_impl_AsksFor (hm : Rows h 2 mv (prsL m)) (hl : m.length ≤ lim) : ∃ v hh, C T X n_impl_AsksFor [mv] h = some (.tuple ⟨[v, .bool (tB (AskIn m))]⟩, hh) ∧ h <+: hh ∧ Own hh h.length hh.length 6 y_Ask v (asks (asksL m)) := by
  suffices hs : ∃ w hh, C T X n_impl_AsksFor [mv] h = some (w, hh) ∧ h <+: hh ∧ ∃ v, w = .tuple ⟨[v, .bool (tB (AskIn m))]⟩ ∧ Own hh h.length hh.length 6 y_Ask v (asks (asksL m)) by
    obtain ⟨w, hh, c, p, v, rfl, o⟩ := hs
    exact ⟨v, hh, c, p, o⟩
  refine C_ex t_impl_AsksFor rfl ?_
  unfold F_impl_AsksFor asksL
  have c := k_impl_StateOk (X := X) hm hl
  obtain ⟨R, hR⟩ := rnd_ex m
  by_cases st : StI cfR m
  · rw [tB_t st] at c
    have hR6 := st_rnd st hR
    have h4 := k_impl_roundsOf (X := X) hm hl hR
    rw [show min R 7 = R by omega] at h4
    by_cases k : AskIn m
    · have hR0 : R = 0 := hR.one k.2
      subst hR0
      rw [if_pos k, tB_t k]
      have hml := st.1.1
      obtain ⟨v1, h1, c1, p1, o1⟩ := k_impl_Ids (X := X) hm hl
      unfold idsR at o1
      rw [if_pos st] at o1
      unfold asksA
      obtain ⟨L1, hL1⟩ : ∃ L1, L1 = natI (idsT m tAll) := ⟨_, rfl⟩
      have hl1 : L1.length ≤ 12 := by rw [hL1, natI_len]; exact idsT_le
      obtain ⟨L3, hL3⟩ : ∃ L3, L3 = natI (idsT m tL) := ⟨_, rfl⟩
      have hl3 : L3.length ≤ 12 := by rw [hL3, natI_len]; exact idsT_le
      rw [← hL1] at o1 ⊢
      rw [← hL3]
      have z0 : ¬ ((0 : Nat) : Int) > 0 := by omega
      simp only [c, h4, z0, c1, p1, o1.rows.lnm, zeros, fillAt, go_sem]
      refine w_for L1.length (fun i t loc h' => t 0 = mv ∧ t 24 = v1 ∧ t 25 = .int .i64 (L1.length : Int) ∧ t 26 = .int .i64 i ∧ h1 <+: h' ∧ ∃ v, t 4 = v ∧ Own h' h1.length h'.length 6 y_Ask v (asks ((L1.take i).map jA))) ⟨rfl, rfl, rfl, rfl, List.prefix_refl _, _, rfl, Own.nil⟩ ?_
      rintro i t loc h' hi ⟨t0, t24, t25, t26, hp, v, t4, o⟩
      simp only [t25, t26, go_sem]
      refine w_open (by simp only [go_sem]; rfl) ?_ ?_ <;> intro hc
      · have hi1 : i < L1.length := by omega
        have hw : IntKind.i64.wrap ((i : Int) + 1) = ((i + 1 : Nat) : Int) := w64 (by omega) (by omega)
        have el := int_el (o1.rows.up hp) hi1
        obtain ⟨v2, h2, c3, q1, q2, o2⟩ := o.push1 (pre_len hp) [.int .i64 1, .int .i64 (L1.getD i 0), .int .i64 0, .int .i64 0, .int .i64 0, .int .i64 0] rfl (by simp; unfold lim; omega)
        rw [Nat.max_eq_right q1] at o2
        simp only [t0, t4, t24, t25, t26, el.1, el.2, c3, hw, zeros, fillAt, go_sem]
        refine ⟨hi1, pre_push hp (Nat.le_refl _) q1 q2, v2, rfl, ?_⟩
        rw [take_mapD (d := 0) hi1]
        simpa [asks, aqR, jA] using o2
      · have hin : i = L1.length := by omega
        subst hin
        rw [List.take_length] at o
        have hm' := hm.up (p1.trans hp)
        obtain ⟨J, hJ⟩ : ∃ J, J = L1.map jA := ⟨_, rfl⟩
        have hJl : J.length ≤ 12 := by rw [hJ, List.length_map]; exact hl1
        rw [← hJ] at o ⊢
        simp only [t0, t4, hm'.lnm, zeros, fillAt, go_sem]
        refine w_for m.length (fun i t loc h' => t 0 = mv ∧ t 36 = mv ∧ t 37 = .int .i64 (m.length : Int) ∧ t 38 = .int .i64 i ∧ h1 <+: h' ∧ ∃ v, t 4 = v ∧ Own h' h1.length h'.length 6 y_Ask v (asks (J ++ eTo m i))) ⟨rfl, rfl, rfl, rfl, hp, v, rfl, by unfold eTo; simpa using o⟩ ?_
        rintro i t loc h' hi ⟨t0, t36, t37, t38, hp, v, t4, o⟩
        simp only [t37, t38, go_sem]
        refine w_open (by simp only [go_sem]; rfl) ?_ ?_ <;> intro hc
        · have hi1 : i < m.length := by omega
          have hw : IntKind.i64.wrap ((i : Int) + 1) = ((i + 1 : Nat) : Int) := w64 (by omega) (by omega)
          have el := (hm.up (p1.trans hp)).el (f := prR) p0 hi1
          have hmem := getD_mem (d := p0) hi1
          have hk1 := map_k st.1 _ hmem
          have hsu := eTo_succ hi1
          have hle := eTo_len (m := m) i
          have hlk := st_e st hR hmem
          obtain ⟨q, hq⟩ : ∃ q, q = m.getD i p0 := ⟨_, rfl⟩
          rw [← hq] at el hk1 hsu hlk
          have e0 : ixV (.string q.k) (.int .i64 0) = some (.int .u8 (byt q.k 0 : Nat)) := ix_byt (i := 0) (by omega)
          by_cases g : byt q.k 0 = 101
          · have hlq := hlk g
            obtain ⟨hks, hvs⟩ := link_size hlq
            have hwo : Worths q.v := by obtain ⟨_, _, _, _, _, h4, _⟩ := hlq; exact h4
            have wv := worths_ix hwo
            have g' : ((byt q.k 0 : Nat) : Int) = 101 := by omega
            have f1 : slSV (.string q.k) (some (.int .i64 1)) (some (.int .i64 3)) = some (.string (q.k.extract 1 3)) := sl_mid (a := 1) (b := 3) (by omega) (by omega)
            have f2 : slSV (.string q.k) (some (.int .i64 3)) none = some (.string (q.k.extract 3 q.k.size)) := sl_from (a := 3) (by omega)
            have r1 := k_impl_readTwo (X := X) (h := h') (s := q.k.extract 1 3)
            have r2 := k_impl_readTwo (X := X) (h := h') (s := q.k.extract 3 q.k.size)
            unfold twoV at r1 r2
            have b0 := byt_lt (s := q.v) (i := 0)
            have b1 := byt_lt (s := q.v) (i := 1)
            have b2 := byt_lt (s := q.v) (i := 2)
            have w0 : IntKind.i64.wrap ((byt q.v 0 : Nat) : Int) = ((byt q.v 0 : Nat) : Int) := w64 (by omega) (by omega)
            have w1 : IntKind.i64.wrap ((byt q.v 1 : Nat) : Int) = ((byt q.v 1 : Nat) : Int) := w64 (by omega) (by omega)
            have w2 : IntKind.i64.wrap ((byt q.v 2 : Nat) : Int) = ((byt q.v 2 : Nat) : Int) := w64 (by omega) (by omega)
            obtain ⟨A, hA⟩ : ∃ A, A = (rdTwo (q.k.extract 1 3)).getD 0 := ⟨_, rfl⟩
            obtain ⟨B, hB⟩ : ∃ B, B = (rdTwo (q.k.extract 3 q.k.size)).getD 0 := ⟨_, rfl⟩
            rw [← hA] at r1
            rw [← hB] at r2
            obtain ⟨v2, h2, c3, q1, q2, o2⟩ := o.push1 (pre_len hp) [.int .i64 2, .int .i64 (A : Int), .int .i64 (B : Int), .int .i64 ((byt q.v 0 : Nat) : Int), .int .i64 ((byt q.v 1 : Nat) : Int), .int .i64 ((byt q.v 2 : Nat) : Int)] rfl (by simp; unfold lim; omega)
            rw [Nat.max_eq_right q1] at o2
            simp only [t0, t4, t36, t37, t38, el.1, el.2.1, el.2.2, prR, e0, g', f1, f2, r1, r2, wv.1, wv.2.1, wv.2.2, w0, w1, w2, c3, hw, zeros, fillAt, go_sem]
            refine ⟨hi1, pre_push hp (Nat.le_refl _) q1 q2, v2, rfl, ?_⟩
            have he : eA q = [⟨2, (A : Int), (B : Int), ((byt q.v 0 : Nat) : Int), ((byt q.v 1 : Nat) : Int), ((byt q.v 2 : Nat) : Int)⟩] := by
              unfold eA linkA
              rw [if_pos g, hA, hB]
            rw [hsu, he, ← List.append_assoc]
            simpa [asks, aqR] using o2
          · have g' : ¬ ((byt q.k 0 : Nat) : Int) = 101 := by omega
            simp only [t0, t4, t36, t37, t38, el.1, el.2.1, el.2.2, prR, e0, g', hw, zeros, fillAt, go_sem]
            have he : eA q = [] := by unfold eA; rw [if_neg g]
            exact ⟨hi1, hp, v, rfl, by rw [hsu, he, List.append_nil]; exact o⟩
        · have hin : i = m.length := by omega
          subst hin
          obtain ⟨E, hE⟩ : ∃ E, E = J ++ eTo m m.length := ⟨_, rfl⟩
          have hEl : E.length ≤ 140 := by
            have := eTo_len (m := m) m.length
            rw [hE, List.length_append]; omega
          rw [← hE] at o ⊢
          obtain ⟨iv, h5, c5, p5, o5⟩ := k_impl_idsBy (X := X) (f := lT) (hm.up (p1.trans hp)) hl
          rw [lT_nums, idsT_pre st hR (by omega), idsT_l st hR] at o5
          have hL3' : natI (idsT m fun v => decide (v = lT)) = L3 := hL3.symm
          rw [hL3'] at o5
          have c5' : C T X n_impl_idsBy [mv, .string ⟨⟨[108]⟩⟩] h' = some (iv, h5) := c5
          have hse : Sep v iv := o.sep o5 (.inl (Nat.le_refl _))
          have l5 := pre_len p5
          have lh := pre_len hp
          simp only [t0, t4, c5', p5, o5.rows.lnm, zeros, fillAt, go_sem]
          refine w_for L3.length (fun i t loc h' => t 80 = iv ∧ t 81 = .int .i64 (L3.length : Int) ∧ t 82 = .int .i64 i ∧ h1 <+: h' ∧ ∃ v, t 4 = v ∧ Own h' h1.length h'.length 6 y_Ask v (asks (E ++ (L3.take i).map lA)) ∧ Sep v iv ∧ ∃ a b, Own h' a b 1 y_int iv (ints L3)) ⟨rfl, rfl, rfl, hp.trans p5, v, rfl, by simpa using (o.up p5).wide (Nat.le_refl _) l5, hse, _, _, o5⟩ ?_
          rintro i t loc h' hi ⟨t80, t81, t82, hp6, v, t4, o, hse, a, b, o5⟩
          simp only [t81, t82, go_sem]
          refine w_open (by simp only [go_sem]; rfl) ?_ ?_ <;> intro hc
          · have hi1 : i < L3.length := by omega
            have hw : IntKind.i64.wrap ((i : Int) + 1) = ((i + 1 : Nat) : Int) := w64 (by omega) (by omega)
            have el := int_el o5.rows hi1
            obtain ⟨v2, h2, c3, q1, q2, o2, o6, hs2⟩ := push_sep o (pre_len hp6) o5 hse [.int .i64 3, .int .i64 (L3.getD i 0), .int .i64 0, .int .i64 0, .int .i64 0, .int .i64 0] rfl (by simp; unfold lim; omega)
            rw [Nat.max_eq_right q1] at o2
            simp only [t4, t80, t81, t82, el.1, el.2, c3, hw, zeros, fillAt, go_sem]
            refine ⟨hi1, pre_push hp6 (Nat.le_refl _) q1 q2, v2, rfl, ?_, hs2, a, b, o6⟩
            rw [take_mapD (d := 0) hi1, ← List.append_assoc]
            simpa [asks, aqR, lA] using o2
          · have hin : i = L3.length := by omega
            subst hin
            rw [List.take_length] at o
            simp only [t4, go_sem]
            have hpp := p1.trans hp6
            refine ⟨o.live, ?_⟩
            obtain ⟨hh, e, p2, hc⟩ := finish_cases (v := .tuple ⟨[v, .bool true]⟩) hpp
            rw [e]
            dsimp only
            rcases hc with rfl | ⟨hf, rfl⟩
            · exact ⟨p2, v, rfl, o.wide (pre_len p1) (Nat.le_refl _)⟩
            · simp only [flat, List.all_cons, Bool.and_eq_true] at hf
              exact ⟨p2, v, rfl, o.flatP (o.fl1 hf.1)⟩
    · rw [if_neg k, tB_f k]
      have z0 : (R : Int) > 0 := by
        have : ¬ R = 0 := fun q => k ⟨st, by rw [← q]; exact hR⟩
        omega
      simp only [c, h4, z0, zeros, fillAt, go_sem]
      exact ⟨List.prefix_refl _, nilV, rfl, Own.nil⟩
  · have k : ¬ AskIn m := fun q => st q.1
    rw [if_neg k, tB_f k]
    rw [tB_f st] at c
    simp only [c, zeros, fillAt, go_sem]
    exact ⟨List.prefix_refl _, nilV, rfl, Own.nil⟩
end
section
variable {X : CallF} {h : Heap} {m : List Pr} {mv : Value}
theorem k_spec_AsksFor (hm : Rows h 2 mv (prsL m)) (hl : m.length ≤ 1048576) : ∃ v hh, C T X n_spec_AsksFor [mv] h = some (.tuple ⟨[v, .bool (tB (AskIn m))]⟩, hh) ∧ h <+: hh ∧ Own hh h.length hh.length 6 y_Ask v (asks (asksL m)) := by
  have hl' : m.length ≤ lim := by unfold lim; omega
  suffices hs : ∃ w hh, C T X n_spec_AsksFor [mv] h = some (w, hh) ∧ h <+: hh ∧ ∃ v, w = .tuple ⟨[v, .bool (tB (AskIn m))]⟩ ∧ Own hh h.length hh.length 6 y_Ask v (asks (asksL m)) by
    obtain ⟨w, hh, c, p, v, rfl, o⟩ := hs
    exact ⟨v, hh, c, p, o⟩
  refine C_ex t_spec_AsksFor rfl ?_
  unfold F_spec_AsksFor asksL
  obtain ⟨g0, hg0⟩ : ∃ g0 : Heap, g0 = h ++ [⟨[], 6, y_Ask, true⟩] := ⟨_, rfl⟩
  have hgl : g0.length = h.length + 1 := by rw [hg0]; simp
  have pg : h <+: g0 := by rw [hg0]; exact List.prefix_append _ _
  have og : Own g0 h.length (h.length + 1) 6 y_Ask (.slice (some ⟨h.length, 0, none⟩) 0 0) [] := by rw [← hgl, hg0]; exact Acc.new.own
  have c := k_spec_StateOk (X := X) (hm.up pg) hl'
  obtain ⟨R, hR⟩ := rnd_ex m
  have badF : ∀ w : Value, w = .tuple ⟨[.slice (some ⟨h.length, 0, none⟩) 0 0, .bool false]⟩ → h <+: (finish h (w, g0)).2 ∧ ∃ v, (finish h (w, g0)).1 = .tuple ⟨[v, .bool false]⟩ ∧ Own (finish h (w, g0)).2 h.length (finish h (w, g0)).2.length 6 y_Ask v (asks []) := fun w hw => by
    rw [finish_deep (by rw [hw]; simp [flat, flat1, prim])]
    exact ⟨pg, _, hw, og.wide (Nat.le_refl _) (by simp only; omega)⟩
  by_cases st : StI cfR m
  · rw [tB_t st] at c
    have hR6 := st_rnd st hR
    have h4 := k_spec_l13Rounds (X := X) (hm.up pg) hl hR
    by_cases k : AskIn m
    · have hR0 : R = 0 := hR.one k.2
      subst hR0
      rw [if_pos k, tB_t k]
      have hml := st.1.1
      obtain ⟨v1, h1, c1, p1, o1⟩ := k_spec_l13Ids (X := X) (f := noT) (hm.up pg) (by omega) (map_k st.1)
      rw [ids_all (m := m), idsM_st st hR] at o1
      have c1' : C T X n_spec_l13Ids [mv, .string ⟨⟨[]⟩⟩] g0 = some (v1, h1) := c1
      unfold asksA
      obtain ⟨L1, hL1⟩ : ∃ L1, L1 = natI (idsT m tAll) := ⟨_, rfl⟩
      have hl1 : L1.length ≤ 12 := by rw [hL1, natI_len]; exact idsT_le
      obtain ⟨L3, hL3⟩ : ∃ L3, L3 = natI (idsT m tL) := ⟨_, rfl⟩
      have hl3 : L3.length ≤ 12 := by rw [hL3, natI_len]; exact idsT_le
      rw [← hL1] at o1 ⊢
      rw [← hL3]
      have z0 : ¬ ((0 : Nat) : Int) > 0 := by omega
      have l1 := pre_len p1
      have og1 := og.up p1
      simp only [zeros, fillAt, ← hg0, c, h4, z0, c1', p1, go_sem]
      refine w_for L1.length (fun i t loc h' => t 0 = mv ∧ t 5 = v1 ∧ t 6 = .int .i64 i ∧ h <+: h' ∧ h1.length ≤ h'.length ∧ Own h' g0.length h1.length 1 y_int v1 (ints L1) ∧ ∃ v, t 4 = v ∧ v ≠ nilV ∧ Own h' h.length (h.length + 1) 6 y_Ask v (asks ((L1.take i).map jA))) ⟨rfl, rfl, rfl, pg.trans p1, Nat.le_refl _, o1, _, rfl, (fun e => by cases e), og1⟩ ?_
      rintro i t loc h' hi ⟨t0, t5, t6, hp, hlen, oi, v, t4, hv, o⟩
      simp only [t5, t6, oi.rows.lnm, go_sem]
      refine w_open (by simp only [go_sem]; rfl) ?_ ?_ <;> intro hc
      · have hi1 : i < L1.length := by omega
        have hw : IntKind.i64.wrap ((i : Int) + 1) = ((i + 1 : Nat) : Int) := w64 (by omega) (by omega)
        have el := int_el oi.rows hi1
        obtain ⟨v2, h2, c3, hv2, s2, o2⟩ := o.grow1 hv [.int .i64 1, .int .i64 (L1.getD i 0), .int .i64 0, .int .i64 0, .int .i64 0, .int .i64 0] rfl (by simp; unfold lim; omega)
        have l2 := s2.len
        simp only [t0, t4, t5, t6, el.1, el.2, c3, hw, zeros, fillAt, go_sem]
        refine ⟨hi1, s2.pre hp (Nat.le_refl _), by omega, oi.same s2 (by omega), v2, rfl, hv2, ?_⟩
        rw [take_mapD (d := 0) hi1]
        simpa [asks, aqR, jA] using o2
      · have hin : i = L1.length := by omega
        subst hin
        rw [List.take_length] at o
        obtain ⟨J, hJ⟩ : ∃ J, J = L1.map jA := ⟨_, rfl⟩
        have hJl : J.length ≤ 12 := by rw [hJ, List.length_map]; exact hl1
        rw [← hJ] at o ⊢
        simp only [t0, t4, zeros, fillAt, go_sem]
        refine w_for m.length (fun i t loc h' => t 0 = mv ∧ t 7 = .int .i64 i ∧ h <+: h' ∧ h1.length ≤ h'.length ∧ ∃ v, t 4 = v ∧ v ≠ nilV ∧ Own h' h.length (h.length + 1) 6 y_Ask v (asks (J ++ eTo m i))) ⟨rfl, rfl, hp, hlen, v, rfl, hv, by unfold eTo; simpa using o⟩ ?_
        rintro i t loc h' hi ⟨t0, t7, hp, hlen, v, t4, hv, o⟩
        have hm' := hm.up hp
        simp only [t0, t7, hm'.lnm, go_sem]
        refine w_open (by simp only [go_sem]; rfl) ?_ ?_ <;> intro hc
        · have hi1 : i < m.length := by omega
          have hw : IntKind.i64.wrap ((i : Int) + 1) = ((i + 1 : Nat) : Int) := w64 (by omega) (by omega)
          have el := hm'.el (f := prR) p0 hi1
          have cl0 := hm'.cell (f := prR) p0 hi1 (o := 0) (by omega)
          have cl1 := hm'.cell (f := prR) p0 hi1 (o := 1) (by omega)
          have hmem := getD_mem (d := p0) hi1
          have hk1 := map_k st.1 _ hmem
          have hsu := eTo_succ hi1
          have hle := eTo_len (m := m) i
          have hlk := st_e st hR hmem
          obtain ⟨q, hq⟩ : ∃ q, q = m.getD i p0 := ⟨_, rfl⟩
          rw [← hq] at el cl0 cl1 hk1 hsu hlk
          have k0 : ldC h' (elemP mv 2 i 0) 1 = some [.string q.k] := cl0
          have k1 : ldC h' (elemP mv 2 i 1) 1 = some [.string q.v] := cl1
          have e0 : ixV (.string q.k) (.int .i64 0) = some (.int .u8 (byt q.k 0 : Nat)) := ix_byt (i := 0) (by omega)
          by_cases g : byt q.k 0 = 101
          · have hlq := hlk g
            obtain ⟨hks, hvs⟩ := link_size hlq
            have hwo : Worths q.v := by obtain ⟨_, _, _, _, _, h4, _⟩ := hlq; exact h4
            have wv := worths_ix hwo
            have g' : ((byt q.k 0 : Nat) : Int) = 101 := by omega
            have f1 : slSV (.string q.k) (some (.int .i64 1)) (some (.int .i64 3)) = some (.string (q.k.extract 1 3)) := sl_mid (a := 1) (b := 3) (by omega) (by omega)
            have f2 : slSV (.string q.k) (some (.int .i64 3)) none = some (.string (q.k.extract 3 q.k.size)) := sl_from (a := 3) (by omega)
            have r1 := k_spec_l13Num (X := X) (h := h') (s := q.k.extract 1 3)
            have r2 := k_spec_l13Num (X := X) (h := h') (s := q.k.extract 3 q.k.size)
            unfold twoV at r1 r2
            have b0 := byt_lt (s := q.v) (i := 0)
            have b1 := byt_lt (s := q.v) (i := 1)
            have b2 := byt_lt (s := q.v) (i := 2)
            have w0 : IntKind.i64.wrap ((byt q.v 0 : Nat) : Int) = ((byt q.v 0 : Nat) : Int) := w64 (by omega) (by omega)
            have w1 : IntKind.i64.wrap ((byt q.v 1 : Nat) : Int) = ((byt q.v 1 : Nat) : Int) := w64 (by omega) (by omega)
            have w2 : IntKind.i64.wrap ((byt q.v 2 : Nat) : Int) = ((byt q.v 2 : Nat) : Int) := w64 (by omega) (by omega)
            obtain ⟨A, hA⟩ : ∃ A, A = (rdTwo (q.k.extract 1 3)).getD 0 := ⟨_, rfl⟩
            obtain ⟨B, hB⟩ : ∃ B, B = (rdTwo (q.k.extract 3 q.k.size)).getD 0 := ⟨_, rfl⟩
            rw [← hA] at r1
            rw [← hB] at r2
            obtain ⟨v2, h2, c3, hv2, s2, o2⟩ := o.grow1 hv [.int .i64 2, .int .i64 (A : Int), .int .i64 (B : Int), .int .i64 ((byt q.v 0 : Nat) : Int), .int .i64 ((byt q.v 1 : Nat) : Int), .int .i64 ((byt q.v 2 : Nat) : Int)] rfl (by simp; unfold lim; omega)
            have l2 := s2.len
            simp only [t0, t4, t7, el.1, el.2.1, k0, k1, e0, g', f1, f2, r1, r2, wv.1, wv.2.1, wv.2.2, w0, w1, w2, c3, hw, zeros, fillAt, go_sem]
            refine ⟨hi1, s2.pre hp (Nat.le_refl _), by omega, v2, rfl, hv2, ?_⟩
            have he : eA q = [⟨2, (A : Int), (B : Int), ((byt q.v 0 : Nat) : Int), ((byt q.v 1 : Nat) : Int), ((byt q.v 2 : Nat) : Int)⟩] := by
              unfold eA linkA
              rw [if_pos g, hA, hB]
            rw [hsu, he, ← List.append_assoc]
            simpa [asks, aqR] using o2
          · have g' : ¬ ((byt q.k 0 : Nat) : Int) = 101 := by omega
            simp only [t0, t4, t7, el.1, el.2.1, k0, k1, e0, g', hw, zeros, fillAt, go_sem]
            have he : eA q = [] := by unfold eA; rw [if_neg g]
            exact ⟨hi1, hp, hlen, v, rfl, hv, by rw [hsu, he, List.append_nil]; exact o⟩
        · have hin : i = m.length := by omega
          subst hin
          obtain ⟨E, hE⟩ : ∃ E, E = J ++ eTo m m.length := ⟨_, rfl⟩
          have hEl : E.length ≤ 140 := by
            have := eTo_len (m := m) m.length
            rw [hE, List.length_append]; omega
          rw [← hE] at o ⊢
          obtain ⟨iv, h5, c5, p5, o5⟩ := k_spec_l13Ids (X := X) (f := lT) (hm.up hp) (by omega) (map_k st.1)
          rw [ids_l (m := m), idsM_st st hR, ← hL3] at o5
          have c5' : C T X n_spec_l13Ids [mv, .string ⟨⟨[108]⟩⟩] h' = some (iv, h5) := c5
          have l5 := pre_len p5
          obtain ⟨b5, hb5⟩ : ∃ b5, b5 = h'.length := ⟨_, rfl⟩
          rw [← hb5] at o5 l5
          simp only [t0, t4, c5', p5, zeros, fillAt, go_sem]
          refine w_for L3.length (fun i t loc h' => t 13 = iv ∧ t 14 = .int .i64 i ∧ h <+: h' ∧ h5.length ≤ h'.length ∧ Own h' b5 h5.length 1 y_int iv (ints L3) ∧ ∃ v, t 4 = v ∧ v ≠ nilV ∧ Own h' h.length (h.length + 1) 6 y_Ask v (asks (E ++ (L3.take i).map lA))) ⟨rfl, rfl, hp.trans p5, Nat.le_refl _, o5, v, rfl, hv, by simpa using o.up p5⟩ ?_
          rintro i t loc h' hi ⟨t13, t14, hp6, hlen6, oi, v, t4, hv, o⟩
          simp only [t13, t14, oi.rows.lnm, go_sem]
          refine w_open (by simp only [go_sem]; rfl) ?_ ?_ <;> intro hc
          · have hi1 : i < L3.length := by omega
            have hw : IntKind.i64.wrap ((i : Int) + 1) = ((i + 1 : Nat) : Int) := w64 (by omega) (by omega)
            have el := int_el oi.rows hi1
            obtain ⟨v2, h2, c3, hv2, s2, o2⟩ := o.grow1 hv [.int .i64 3, .int .i64 (L3.getD i 0), .int .i64 0, .int .i64 0, .int .i64 0, .int .i64 0] rfl (by simp; unfold lim; omega)
            have l2 := s2.len
            simp only [t4, t13, t14, el.1, el.2, c3, hw, zeros, fillAt, go_sem]
            refine ⟨hi1, s2.pre hp6 (Nat.le_refl _), by omega, oi.same s2 (by omega), v2, rfl, hv2, ?_⟩
            rw [take_mapD (d := 0) hi1, ← List.append_assoc]
            simpa [asks, aqR, lA] using o2
          · have hin : i = L3.length := by omega
            subst hin
            rw [List.take_length] at o
            simp only [t4, go_sem]
            refine ⟨o.live, ?_⟩
            obtain ⟨hh, e, p2, hc⟩ := finish_cases (v := .tuple ⟨[v, .bool true]⟩) hp6
            rw [e]
            dsimp only
            rcases hc with rfl | ⟨hf, rfl⟩
            · exact ⟨p2, v, rfl, o.wide (Nat.le_refl _) (by omega)⟩
            · simp only [flat, List.all_cons, Bool.and_eq_true] at hf
              exact ⟨p2, v, rfl, o.flatP (o.fl1 hf.1)⟩
    · rw [if_neg k, tB_f k]
      have z0 : (R : Int) > 0 := by
        have : ¬ R = 0 := fun q => k ⟨st, by rw [← q]; exact hR⟩
        omega
      simp only [zeros, fillAt, ← hg0, c, h4, z0, go_sem]
      exact badF _ rfl
  · have k : ¬ AskIn m := fun q => st q.1
    rw [if_neg k, tB_f k]
    rw [tB_f st] at c
    simp only [zeros, fillAt, ← hg0, c, go_sem]
    exact badF _ rfl
end
end Go.Proofs.YtjgacjidaeahdaaGreatDoor.Ab
set_option linter.unusedSimpArgs false
set_option linter.unusedVariables false
set_option linter.unnecessarySimpa false
set_option maxHeartbeats 4000000
namespace Go.Proofs.YtjgacjidaeahdaaGreatDoor.Ab
open Go.RowKit
section
variable {h : Heap} {v : Value}
/-- A list of edges. -/
theorem Shape.edges_inv (s : Shape h (.sl [.int .i64, .int .i64, .int .i64, .int .i64, .int .i64]) v) : ∃ l : List E, Rows h 5 v (edges l) ∧ l.length ≤ maxLen ∧ ∀ e ∈ l, I64 e.a ∧ I64 e.b ∧ I64 e.w1 ∧ I64 e.w2 ∧ I64 e.w3 := by
  obtain ⟨rows, hr, hm, hk⟩ := s.sl_inv
  obtain ⟨l, rfl, hl⟩ := rows_map (f := edgeR) (Q := fun e => I64 e.a ∧ I64 e.b ∧ I64 e.w1 ∧ I64 e.w2 ∧ I64 e.w3) (rows := rows) (fun r hrm => by
    obtain ⟨x, r', rfl, hx, h2⟩ := (hk r hrm).cons_inv
    obtain ⟨y, r', rfl, hy, h2⟩ := h2.cons_inv
    obtain ⟨z, r', rfl, hz, h2⟩ := h2.cons_inv
    obtain ⟨u, r', rfl, hu, h2⟩ := h2.cons_inv
    obtain ⟨w, r', rfl, hw, h2⟩ := h2.cons_inv
    obtain rfl := h2.nil_inv
    obtain ⟨a, rfl, ha⟩ := hx.int_inv
    obtain ⟨b, rfl, hb⟩ := hy.int_inv
    obtain ⟨c, rfl, hc⟩ := hz.int_inv
    obtain ⟨d, rfl, hd⟩ := hu.int_inv
    obtain ⟨e, rfl, he⟩ := hw.int_inv
    exact ⟨⟨a, b, c, d, e⟩, rfl, ha, hb, hc, hd, he⟩)
  exact ⟨l, hr, by simpa using hm, hl⟩
theorem Shape.pairs_inv (s : Shape h (.sl [.str, .str]) v) : ∃ l : List Pr, Rows h 2 v (prsL l) ∧ l.length ≤ maxLen ∧ ∀ e ∈ l, e.k.size ≤ maxLen ∧ e.v.size ≤ maxLen := by
  obtain ⟨rows, hr, hm, hk⟩ := s.sl_inv
  obtain ⟨l, rfl, hl⟩ := rows_map (f := prR) (Q := fun e => e.k.size ≤ maxLen ∧ e.v.size ≤ maxLen) (rows := rows) (fun r hrm => by
    obtain ⟨x, r', rfl, hx, h2⟩ := (hk r hrm).cons_inv
    obtain ⟨y, r', rfl, hy, h2⟩ := h2.cons_inv
    obtain rfl := h2.nil_inv
    obtain ⟨a, rfl, ha⟩ := hx.str_inv
    obtain ⟨b, rfl, hb⟩ := hy.str_inv
    exact ⟨⟨a, b⟩, rfl, ha, hb⟩)
  exact ⟨l, hr, by simpa using hm, hl⟩
theorem ArgOk.graph (a : ArgOk h (true, [.int .i64, .sl [.int .i64, .int .i64, .int .i64, .int .i64, .int .i64]]) v) : ∃ size ev es, v = graphV size ev ∧ I64 size ∧ Rows h 5 ev (edges es) ∧ es.length ≤ maxLen := by
  obtain ⟨acs, k, rfl⟩ := a.row
  obtain ⟨v0, r, rfl, k0, k⟩ := k.cons_inv
  obtain ⟨v1, r, rfl, k1, k⟩ := k.cons_inv
  obtain rfl := k.nil_inv
  obtain ⟨n, rfl, hn⟩ := k0.int_inv
  obtain ⟨es, he, hm, _⟩ := k1.edges_inv
  exact ⟨n, v1, es, rfl, hn, he, hm⟩
def AqOk (x : Aq) : Prop := I64 x.op ∧ I64 x.a ∧ I64 x.b ∧ I64 x.w1 ∧ I64 x.w2 ∧ I64 x.w3
theorem ArgOk.ask (a : ArgOk h (true, [.int .i64, .int .i64, .int .i64, .int .i64, .int .i64, .int .i64]) v) : ∃ x : Aq, v = .agg ⟨aqR x⟩ ∧ AqOk x := by
  obtain ⟨acs, k, rfl⟩ := a.row
  obtain ⟨v0, r, rfl, k0, k⟩ := k.cons_inv
  obtain ⟨v1, r, rfl, k1, k⟩ := k.cons_inv
  obtain ⟨v2, r, rfl, k2, k⟩ := k.cons_inv
  obtain ⟨v3, r, rfl, k3, k⟩ := k.cons_inv
  obtain ⟨v4, r, rfl, k4, k⟩ := k.cons_inv
  obtain ⟨v5, r, rfl, k5, k⟩ := k.cons_inv
  obtain rfl := k.nil_inv
  obtain ⟨n0, rfl, h0⟩ := k0.int_inv
  obtain ⟨n1, rfl, h1⟩ := k1.int_inv
  obtain ⟨n2, rfl, h2⟩ := k2.int_inv
  obtain ⟨n3, rfl, h3⟩ := k3.int_inv
  obtain ⟨n4, rfl, h4⟩ := k4.int_inv
  obtain ⟨n5, rfl, h5⟩ := k5.int_inv
  exact ⟨⟨n0, n1, n2, n3, n4, n5⟩, rfl, h0, h1, h2, h3, h4, h5⟩
end
end Go.Proofs.YtjgacjidaeahdaaGreatDoor.Ab
set_option linter.unusedSimpArgs false
set_option linter.unusedVariables false
set_option linter.unnecessarySimpa false
set_option maxHeartbeats 4000000
namespace Go.Proofs.YtjgacjidaeahdaaGreatDoor.Ab
open Go.RowKit
section
variable {X : CallF} [LibX X] {h : Heap} {mv0 : Value} {ml0 : List Pr}
open Classical in
theorem l_AsksFor (hm0 : Rows h 2 mv0 (prsL ml0)) (hx0 : PrMax ml0) : C T X n_laws_FnExactAsksFor [mv0] h = some (.bool true, h) := by
  refine C_go t_laws_FnExactAsksFor rfl ?_
  unfold F_laws_FnExactAsksFor
  obtain ⟨n0, zc0, zb0, zd0⟩ := z_szPairS (X := X) hm0 hx0 (n := 1048576) (by omega) (by omega)
  by_cases hn0 : n0 < 0
  · simp only [zc0, hn0, go_sem]
  have bm0 : PrBnd ml0 := zd0 (by omega)
  have q0 : h <+: h := List.prefix_refl h
  obtain ⟨v1, h1, c1, p1, o1⟩ := x_toPairS (X := X) (hm0.up q0) (by have := bm0.1; unfold lim; omega)
  have q1 := q0.trans p1
  have l1 := pre_len p1
  obtain ⟨v2, h2, c2, p2, o2⟩ := k_spec_AsksFor (X := X) o1.rows (by have := bm0.1; omega)
  have o1_2 := o1.up p2
  have q2 := q1.trans p2
  have l2 := pre_len p2
  obtain ⟨v3, h3, c3, p3, o3⟩ := x_toPairS (X := X) (hm0.up q2) (by have := bm0.1; unfold lim; omega)
  have o2_3 := o2.up p3
  have q3 := q2.trans p3
  have l3 := pre_len p3
  obtain ⟨v4, h4, c4, p4, o4⟩ := k_impl_AsksFor (X := X) o3.rows (by have := bm0.1; unfold lim; omega)
  have o2_4 := o2_3.up p4
  have o3_4 := o3.up p4
  have q4 := q3.trans p4
  have l4 := pre_len p4
  have c5 := k_eqAskS (X := X) o4.rows o2_4.rows (Nat.le_trans asksL_len (by unfold lim; omega))
  obtain ⟨v6, h6, c6, p6, o6⟩ := x_toPairS (X := X) (hm0.up q4) (by have := bm0.1; unfold lim; omega)
  have o2_6 := o2_4.up p6
  have o3_6 := o3_4.up p6
  have o4_6 := o4.up p6
  have q6 := q4.trans p6
  have l6 := pre_len p6
  have c7 := k_eqPairS (X := X) o3_6.rows o6.rows (by have := bm0.1; unfold lim; omega)
  obtain ⟨h8, c8, s8⟩ := m_markPairS (X := X) o3_6 (by have := bm0.1; unfold lim; omega) (k := 1) (by have := bm0.1; omega)
  have l8 := s8.len
  have o2_8 := o2_6.same s8 (by omega)
  have o4_8 := o4_6.same s8 (by omega)
  have q8 := s8.pre q6 (by omega)
  have km : ¬ ((((1 + ml0.length * 2) : Nat) : Int) < 0) := by omega
  have c9 := k_eqAskS (X := X) o4_8.rows o2_8.rows (Nat.le_trans asksL_len (by unfold lim; omega))
  obtain ⟨h10, c10, s10, g10⟩ := k_markAskS (X := X) o4_8 (by rw [List.length_map]; exact (Nat.le_trans asksL_len (by unfold lim; omega))) (k := 1) (by omega)
  rw [List.length_map] at c10 g10
  have l10 := s10.len
  have o2_10 := o2_8.same s10 (by omega)
  have q10 := s10.pre q8 (by omega)
  have c11 := k_heldAskS (X := X) (n := (asksL ml0).length) g10.rows (Nat.le_trans asksL_len (by unfold lim; omega)) (by omega)
  have kh : ¬ (((1 + (asksL ml0).length * 6 : Nat) : Int) < 0) := by omega
  obtain ⟨v12, h12, c12, p12, o12⟩ := x_toPairS (X := X) (hm0.up q10) (by have := bm0.1; unfold lim; omega)
  have o2_12 := o2_10.up p12
  have g10_12 := g10.up p12
  have q12 := q10.trans p12
  have l12 := pre_len p12
  obtain ⟨v13, h13, c13, p13, o13⟩ := k_impl_AsksFor (X := X) o12.rows (by have := bm0.1; unfold lim; omega)
  have o2_13 := o2_12.up p13
  have g10_13 := g10_12.up p13
  have o12_13 := o12.up p13
  have q13 := q12.trans p13
  have l13 := pre_len p13
  have c14 := k_eqAskS (X := X) o13.rows o2_13.rows (Nat.le_trans asksL_len (by unfold lim; omega))
  have c15 := k_heldAskS (X := X) (n := (asksL ml0).length) g10_13.rows (Nat.le_trans asksL_len (by unfold lim; omega)) (by omega)
  have one : ((1 : Nat) : Int) = 1 := rfl
  rw [one] at c8 c10 c11 c15
  simp only [zc0, hn0, c1, c2, c3, c4, c5, c6, c7, c8, km, c9, c10, c11, kh, c12, c13, c14, c15, List.prefix_refl, BEq.rfl, p1, p2, p3, p4, p6, p12, p13, go_sem]
  try exact finish_flat rfl q13
end
def ps_FnExactAsksFor : List (Bool × List CK) := [(false, [.sl [.str, .str]])]
theorem law_FnExactAsksFor (h : Heap) (avs : List Value) (ha : All2 (ArgOk h) ps_FnExactAsksFor avs) : C T libX n_laws_FnExactAsksFor avs h = some (.bool true, h) := by
  obtain ⟨v0, r, rfl, k0, ha⟩ := ha.cons_inv
  obtain rfl := ha.nil_inv
  obtain ⟨ml0, hm0, hx0a, hx0b⟩ := k0.cell.pairs_inv
  have hx0 : PrMax ml0 := ⟨hx0a, hx0b⟩
  exact l_AsksFor hm0 hx0
end Go.Proofs.YtjgacjidaeahdaaGreatDoor.Ab
