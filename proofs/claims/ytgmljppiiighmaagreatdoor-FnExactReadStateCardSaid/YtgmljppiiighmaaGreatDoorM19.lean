/- Joined: K53, K54, K34, K55, K56. No conditions. -/
import Derived.Test.YtgmljppiiighmaaGreatDoorM18
import Derived.Test.YtgmljppiiighmaaGreatDoorM17
set_option linter.unusedSimpArgs false
set_option linter.unusedVariables false
set_option linter.unnecessarySimpa false
set_option maxHeartbeats 4000000
namespace Go.Proofs.YtgmljppiiighmaaGreatDoor.Ab
open Go.RowKit
/-- The texts that are certificates. -/
def cfR : Cf := fun s n => (rdI s).ok = true ∧ (rdI s).size = (n : Int)
theorem twoV_some {s : ByteArray} {i : Nat} (e : rdTwo s = some i) : twoV s = .tuple ⟨[.int .i64 (i : Int), .bool true]⟩ := by unfold twoV; rw [e]; rfl
theorem twoV_none {s : ByteArray} (e : rdTwo s = none) : twoV s = .tuple ⟨[.int .i64 0, .bool false]⟩ := by unfold twoV; rw [e]; rfl
section
variable {X : CallF} [LibX X] {h : Heap} {m : List Pr} {mv : Value} {R : Nat} {p : Pr}
theorem k_impl_idOk (hm : Rows h 2 mv (prsL m)) (hl : m.length ≤ lim) (hR : IsRnd m R) (hR6 : R ≤ 6) (hk : 1 ≤ p.k.size) (h0 : byt p.k 0 = 118) (hv : p.v.size ≤ 40) : C T X n_impl_idOk [mv, .agg ⟨[.string p.k, .string p.v]⟩] h = some (.bool (tB (IdOk R p)), h) := by
  refine C_go t_impl_idOk rfl ?_
  unfold F_impl_idOk
  have f1 : slSV (.string p.k) (some (.int .i64 1)) none = some (.string (p.k.extract 1 p.k.size)) := sl_from (a := 1) hk
  have h2 := k_impl_readTwo (X := X) (h := h) (s := p.k.extract 1 p.k.size)
  cases e : rdTwo (p.k.extract 1 p.k.size) with
  | none =>
    rw [twoV_none e] at h2
    simp only [f1, h2, zeros, fillAt, go_sem]
    exact (tB_f (id_none hk h0 e)).symm
  | some i =>
    rw [twoV_some e] at h2
    rw [tB_iff (id_some hk h0 e)]
    by_cases c1 : (i : Int) ≥ 12
    · simp only [f1, h2, c1, zeros, fillAt, go_sem]
      exact (tB_f fun k => by have := k.1; omega).symm
    by_cases c2 : p.v = noT
    · have c2' : (p.v.toList == ByteArray.toList ⟨⟨[]⟩⟩) = true := by rw [str_eq]; exact decide_eq_true c2
      simp only [f1, h2, c1, c2', zeros, fillAt, go_sem]
      refine (tB_f fun k => ?_).symm
      rw [c2] at k
      rcases k.2 with k | k | k
      · cases k
      · cases k
      · exact id_noT k
    have c2' : (p.v.toList == ByteArray.toList ⟨⟨[]⟩⟩) = false := by rw [str_eq]; exact decide_eq_false c2
    by_cases c3 : p.v = aT
    · have c3' : (p.v.toList == ByteArray.toList ⟨⟨[97]⟩⟩) = true := by rw [str_eq]; exact decide_eq_true c3
      simp only [f1, h2, c1, c2', c3', zeros, fillAt, go_sem]
      exact (tB_t ⟨by omega, .inl c3⟩).symm
    have c3' : (p.v.toList == ByteArray.toList ⟨⟨[97]⟩⟩) = false := by rw [str_eq]; exact decide_eq_false c3
    by_cases c4 : p.v = lT
    · have c4' : (p.v.toList == ByteArray.toList ⟨⟨[108]⟩⟩) = true := by rw [str_eq]; exact decide_eq_true c4
      simp only [f1, h2, c1, c2', c3', c4', zeros, fillAt, go_sem]
      exact (tB_t ⟨by omega, .inr (.inl c4)⟩).symm
    have c4' : (p.v.toList == ByteArray.toList ⟨⟨[108]⟩⟩) = false := by rw [str_eq]; exact decide_eq_false c4
    have v1 : 1 ≤ p.v.size := by
      have : ¬ p.v.size = 0 := fun q => c2 (size_noT.1 q)
      omega
    have f2 : slSV (.string p.v) (some (.int .i64 1)) none = some (.string (p.v.extract 1 p.v.size)) := sl_from (a := 1) v1
    have e0 : ixV (.string p.v) (.int .i64 0) = some (.int .u8 (byt p.v 0 : Nat)) := ix_byt (i := 0) (by omega)
    have h3 := k_impl_ReadDecimal (X := X) (h := h) (s := p.v.extract 1 p.v.size) (by rw [ByteArray.size_extract]; omega)
    have h4 := k_impl_roundsOf (X := X) hm hl hR
    rw [show min R 7 = R by omega] at h4
    have hp := pT_iff (v := p.v) (R := R) hR6 v1
    have bad : ¬ (byt p.v 0 = 112 ∧ ∃ n, rdDec (p.v.extract 1 p.v.size) = some n ∧ n < R) → tB (i < 12 ∧ (p.v = aT ∨ p.v = lT ∨ ∃ r, r < R ∧ p.v = pT r)) = false := fun hb => tB_f fun k => by
      rcases k.2 with k | k | k
      · exact c3 k
      · exact c4 k
      · exact hb (hp.1 k)
    cases e5 : rdDec (p.v.extract 1 p.v.size) with
    | none =>
      unfold dcN dcB at h3
      rw [e5] at h3
      by_cases c5 : ((byt p.v 0 : Nat) : Int) = 112
      · simp only [f1, f2, e0, h2, h3, h4, c1, c2', c3', c4', c5, Option.getD_none, Option.isSome_none, zeros, fillAt, go_sem]
        exact (bad (by rw [e5]; rintro ⟨_, n, k, _⟩; cases k)).symm
      · simp only [f1, f2, e0, h2, h3, h4, c1, c2', c3', c4', c5, Option.getD_none, Option.isSome_none, zeros, fillAt, go_sem]
        exact (bad (by omega)).symm
    | some n =>
      unfold dcN dcB at h3
      rw [e5] at h3
      by_cases c5 : ((byt p.v 0 : Nat) : Int) = 112
      · by_cases c6 : (n : Int) < R
        · simp only [f1, f2, e0, h2, h3, h4, c1, c2', c3', c4', c5, c6, Option.getD_some, Option.isSome_some, zeros, fillAt, go_sem]
          exact (tB_t ⟨by omega, .inr (.inr (hp.2 ⟨by omega, n, e5, by omega⟩))⟩).symm
        · simp only [f1, f2, e0, h2, h3, h4, c1, c2', c3', c4', c5, c6, Option.getD_some, Option.isSome_some, zeros, fillAt, go_sem]
          exact (bad (by rw [e5]; rintro ⟨_, n', k, k2⟩; cases k; omega)).symm
      · simp only [f1, f2, e0, h2, h3, h4, c1, c2', c3', c4', c5, Option.getD_some, Option.isSome_some, zeros, fillAt, go_sem]
        exact (bad (by omega)).symm
theorem k_impl_linkOk (hm : Rows h 2 mv (prsL m)) (hl : m.length ≤ lim) (h0 : byt p.k 0 = 101) : C T X n_impl_linkOk [mv, .agg ⟨[.string p.k, .string p.v]⟩] h = some (.bool (tB (LinkI m p)), h) := by
  refine C_go t_impl_linkOk rfl ?_
  unfold F_impl_linkOk
  by_cases d1 : (p.k.size : Int) = 5
  rotate_left
  · simp only [d1, zeros, fillAt, go_sem]
    exact (tB_f fun k => by have := (link_size k).1; omega).symm
  by_cases d2 : (p.v.size : Int) = 3
  rotate_left
  · simp only [d1, d2, zeros, fillAt, go_sem]
    exact (tB_f fun k => by have := (link_size k).2; omega).symm
  have hk : p.k.size = 5 := by omega
  have f1 : slSV (.string p.k) (some (.int .i64 1)) (some (.int .i64 3)) = some (.string (p.k.extract 1 3)) := sl_mid (a := 1) (b := 3) (by omega) (by omega)
  have f2 : slSV (.string p.k) (some (.int .i64 3)) none = some (.string (p.k.extract 3 5)) := by rw [← hk]; exact sl_from (a := 3) (by omega)
  have h2 := k_impl_readTwo (X := X) (h := h) (s := p.k.extract 1 3)
  have h3 := k_impl_readTwo (X := X) (h := h) (s := p.k.extract 3 5)
  cases ea : rdTwo (p.k.extract 1 3) with
  | none =>
    have bad := tB_f (link_none (m := m) hk h0 (.inl ea))
    rw [twoV_none ea] at h2
    cases eb : rdTwo (p.k.extract 3 5) with
    | none =>
      rw [twoV_none eb] at h3
      simp only [f1, f2, h2, h3, d1, d2, zeros, fillAt, go_sem]
      exact bad.symm
    | some b =>
      rw [twoV_some eb] at h3
      simp only [f1, f2, h2, h3, d1, d2, zeros, fillAt, go_sem]
      exact bad.symm
  | some a =>
    rw [twoV_some ea] at h2
    cases eb : rdTwo (p.k.extract 3 5) with
    | none =>
      have bad := tB_f (link_none (m := m) hk h0 (.inr eb))
      rw [twoV_none eb] at h3
      simp only [f1, f2, h2, h3, d1, d2, zeros, fillAt, go_sem]
      exact bad.symm
    | some b =>
      rw [twoV_some eb] at h3
      rw [tB_iff (link_some (m := m) hk h0 ea eb)]
      have la := rdTwo_lt ea
      have lb := rdTwo_lt eb
      have ja := k_impl_joined (X := X) (i := a) (by omega) hm hl
      have jb := k_impl_joined (X := X) (i := b) (by omega) hm hl
      by_cases c1 : (a : Int) ≥ b
      · simp only [f1, f2, h2, h3, d1, d2, c1, zeros, fillAt, go_sem]
        exact (tB_f fun k => by have := k.1; omega).symm
      by_cases c2 : Jn m a
      rotate_left
      · rw [tB_f c2] at ja
        simp only [f1, f2, h2, h3, d1, d2, c1, ja, zeros, fillAt, go_sem]
        exact (tB_f fun k => c2 k.2.2.1).symm
      rw [tB_t c2] at ja
      by_cases c3 : Jn m b
      rotate_left
      · rw [tB_f c3] at jb
        simp only [f1, f2, h2, h3, d1, d2, c1, ja, jb, zeros, fillAt, go_sem]
        exact (tB_f fun k => c3 k.2.2.2).symm
      rw [tB_t c3] at jb
      have e0 : ixV (.string p.v) (.int .i64 0) = some (.int .u8 (byt p.v 0 : Nat)) := ix_byt (i := 0) (by omega)
      have e1 : ixV (.string p.v) (.int .i64 1) = some (.int .u8 (byt p.v 1 : Nat)) := ix_byt (i := 1) (by omega)
      have e2 : ixV (.string p.v) (.int .i64 2) = some (.int .u8 (byt p.v 2 : Nat)) := ix_byt (i := 2) (by omega)
      have good : (byt p.v 0 ≤ 50 ∧ byt p.v 1 ≤ 50 ∧ byt p.v 2 ≤ 50) ↔ (a < b ∧ Worths p.v ∧ Jn m a ∧ Jn m b) := by
        constructor
        · rintro ⟨w0, w1, w2⟩
          refine ⟨by omega, ⟨by omega, fun i hi => ?_⟩, c2, c3⟩
          rcases i with _ | _ | _ | i
          · exact w0
          · exact w1
          · exact w2
          · omega
        · rintro ⟨_, w, _, _⟩
          exact ⟨w.2 0 (by omega), w.2 1 (by omega), w.2 2 (by omega)⟩
      rw [← tB_iff good]
      by_cases w0 : ((byt p.v 0 : Nat) : Int) ≤ 50
      rotate_left
      · simp only [f1, f2, h2, h3, d1, d2, c1, ja, jb, e0, e1, e2, w0, zeros, fillAt, go_sem]
        exact (tB_f (by omega)).symm
      by_cases w1 : ((byt p.v 1 : Nat) : Int) ≤ 50
      rotate_left
      · simp only [f1, f2, h2, h3, d1, d2, c1, ja, jb, e0, e1, e2, w0, w1, zeros, fillAt, go_sem]
        exact (tB_f (by omega)).symm
      by_cases w2 : ((byt p.v 2 : Nat) : Int) ≤ 50
      · simp only [f1, f2, h2, h3, d1, d2, c1, ja, jb, e0, e1, e2, w0, w1, w2, zeros, fillAt, go_sem]
        exact (tB_t (by omega)).symm
      · simp only [f1, f2, h2, h3, d1, d2, c1, ja, jb, e0, e1, e2, w0, w1, w2, zeros, fillAt, go_sem]
        exact (tB_f (by omega)).symm
/-- What a part's key must say. -/
def PartI (m : List Pr) (R : Nat) (p : Pr) : Prop := ∃ r i, r < R ∧ i < 100 ∧ p.k = rK r i ∧ ∃ n, IsParts m r n ∧ i < n
theorem k_impl_partOk (hm : Rows h 2 mv (prsL m)) (hl : m.length ≤ lim) (hR : IsRnd m R) (hR6 : R ≤ 6) (hs : ∀ p ∈ m, p.v.size ≤ 40) (h0 : byt p.k 0 = 114) : C T X n_impl_partOk [mv, .agg ⟨[.string p.k, .string p.v]⟩] h = some (.bool (tB (PartI m R p)), h) := by
  refine C_go t_impl_partOk rfl ?_
  unfold F_impl_partOk
  by_cases d1 : (p.k.size : Int) = 5
  rotate_left
  · simp only [d1, zeros, fillAt, go_sem]
    exact (tB_f fun k => by have := r_size (R := R) (by omega) k; omega).symm
  have hk : p.k.size = 5 := by omega
  have f1 : slSV (.string p.k) (some (.int .i64 1)) (some (.int .i64 3)) = some (.string (p.k.extract 1 3)) := sl_mid (a := 1) (b := 3) (by omega) (by omega)
  have f2 : slSV (.string p.k) (some (.int .i64 3)) none = some (.string (p.k.extract 3 5)) := by rw [← hk]; exact sl_from (a := 3) (by omega)
  have h2 := k_impl_readTwo (X := X) (h := h) (s := p.k.extract 1 3)
  have h3 := k_impl_readTwo (X := X) (h := h) (s := p.k.extract 3 5)
  have h4 := k_impl_roundsOf (X := X) hm hl hR
  rw [show min R 7 = R by omega] at h4
  cases ea : rdTwo (p.k.extract 1 3) with
  | none =>
    have bad : tB (PartI m R p) = false := tB_f (r_none (R := R) (by omega) hk h0 (.inl ea))
    rw [twoV_none ea] at h2
    cases eb : rdTwo (p.k.extract 3 5) with
    | none =>
      rw [twoV_none eb] at h3
      simp only [f1, f2, h2, h3, h4, d1, zeros, fillAt, go_sem]
      exact bad.symm
    | some b =>
      rw [twoV_some eb] at h3
      simp only [f1, f2, h2, h3, h4, d1, zeros, fillAt, go_sem]
      exact bad.symm
  | some a =>
    rw [twoV_some ea] at h2
    cases eb : rdTwo (p.k.extract 3 5) with
    | none =>
      have bad : tB (PartI m R p) = false := tB_f (r_none (R := R) (by omega) hk h0 (.inr eb))
      rw [twoV_none eb] at h3
      simp only [f1, f2, h2, h3, h4, d1, zeros, fillAt, go_sem]
      exact bad.symm
    | some b =>
      rw [twoV_some eb] at h3
      have hb : tB (PartI m R p) = tB (a < R ∧ ∃ n, IsParts m a n ∧ b < n) := tB_iff (r_some (R := R) (by omega) hk h0 ea eb)
      rw [hb]
      have la := rdTwo_lt ea
      by_cases c1 : (a : Int) ≥ R
      · simp only [f1, f2, h2, h3, h4, d1, c1, zeros, fillAt, go_sem]
        exact (tB_f fun k => by have := k.1; omega).symm
      obtain ⟨n, hn⟩ := parts_ex m a
      have h5 := k_impl_certOf (X := X) (r := a) (by omega) hn hs hm hl
      by_cases c2 : (b : Int) < n
      · simp only [f1, f2, h2, h3, h4, h5, d1, c1, c2, zeros, fillAt, go_sem]
        exact (tB_t ⟨by omega, n, hn, by omega⟩).symm
      · simp only [f1, f2, h2, h3, h4, h5, d1, c1, c2, zeros, fillAt, go_sem]
        exact (tB_f fun k => by obtain ⟨_, n', k1, k2⟩ := k; have := hn.one k1; omega).symm
end
end Go.Proofs.YtgmljppiiighmaaGreatDoor.Ab
set_option linter.unusedSimpArgs false
set_option linter.unusedVariables false
set_option linter.unnecessarySimpa false
set_option maxHeartbeats 4000000
namespace Go.Proofs.YtgmljppiiighmaaGreatDoor.Ab
open Go.RowKit
def poolAt (m : List Pr) (v : ByteArray) (i : Nat) : Prop := Jn m (byt v i) ∧ (0 < i → byt v (i - 1) < byt v i)
def PoolI (m : List Pr) (R : Nat) (p : Pr) : Prop := ∃ r, r < R ∧ p.k = qK r ∧ RoundI cfR m r
theorem partsL_len {m : List Pr} {r n : Nat} : (partsL m r n).length = n := by simp [partsL]
theorem ext_getD {α : Type} {d : α} {l k : List α} (hl : l.length = k.length) (h : ∀ i, i < l.length → l.getD i d = k.getD i d) : l = k := by
  refine List.ext_getElem hl fun i h1 h2 => ?_
  have := h i h1
  rw [List.getD_eq_getElem?_getD, List.getD_eq_getElem?_getD, List.getElem?_eq_getElem h1, List.getElem?_eq_getElem h2] at this
  exact this
section
variable {X : CallF} [LibX X] {h : Heap} {m : List Pr} {mv : Value} {R : Nat} {p : Pr}
theorem k_impl_poolOk (hm : Rows h 2 mv (prsL m)) (hl : m.length ≤ lim) (hR : IsRnd m R) (hR6 : R ≤ 6) (hs : ∀ p ∈ m, p.v.size ≤ 40) (hk : 1 ≤ p.k.size) (h0 : byt p.k 0 = 113) (hp : getK m p.k = some p.v) : C T X n_impl_poolOk [mv, .agg ⟨[.string p.k, .string p.v]⟩] h = some (.bool (tB (PoolI m R p)), h) := by
  refine C_go t_impl_poolOk rfl ?_
  unfold F_impl_poolOk
  have f1 : slSV (.string p.k) (some (.int .i64 1)) none = some (.string (p.k.extract 1 p.k.size)) := sl_from (a := 1) hk
  have h2 := k_impl_readTwo (X := X) (h := h) (s := p.k.extract 1 p.k.size)
  have h4 := k_impl_roundsOf (X := X) hm hl hR
  rw [show min R 7 = R by omega] at h4
  cases e : rdTwo (p.k.extract 1 p.k.size) with
  | none =>
    rw [twoV_none e] at h2
    simp only [f1, h2, h4, zeros, fillAt, go_sem]
    exact (tB_f (q_none (R := R) (by omega) hk h0 e)).symm
  | some r =>
    rw [twoV_some e] at h2
    have hr := rdTwo_lt e
    have hb : tB (PoolI m R p) = tB (r < R ∧ RoundI cfR m r) := tB_iff (q_some hk h0 e)
    rw [hb]
    rw [((kq1 hk h0).1 e).1] at hp
    by_cases c1 : (r : Int) ≥ R
    · simp only [f1, h2, h4, c1, zeros, fillAt, go_sem]
      exact (tB_f fun k => by have := k.1; omega).symm
    have vv : ∀ {v}, getK m (qK r) = some v → v = p.v := fun k => by rw [hp] at k; exact (Option.some.inj k).symm
    by_cases c2 : (p.v.size : Int) > 9
    · simp only [f1, h2, h4, c1, c2, zeros, fillAt, go_sem]
      refine (tB_f fun k => ?_).symm
      obtain ⟨v, n, k1, k2, _⟩ := k.2
      have := k2.1
      rw [vv k1] at this
      omega
    simp only [f1, h2, h4, c1, c2, zeros, fillAt, go_sem]
    refine w_for p.v.size (fun i t loc h' => h' = h ∧ t 0 = mv ∧ loc 3 = some [.string p.k, .string p.v] ∧ t 5 = .int .i64 (r : Int) ∧ t 40 = .int .i64 (p.v.size : Int) ∧ t 41 = .int .i64 (i : Int) ∧ ∀ j, j < i → poolAt m p.v j) ⟨rfl, rfl, rfl, rfl, rfl, rfl, fun j hj => by omega⟩ ?_
    rintro i t loc h' hi ⟨rfl, t0, l3, t5, t40, t41, hj⟩
    simp only [t40, t41, go_sem]
    refine w_open (by simp only [go_sem]; rfl) ?_ ?_ <;> intro hc
    · have hi1 : i < p.v.size := by omega
      have hw : IntKind.i64.wrap ((i : Int) + 1) = ((i + 1 : Nat) : Int) := w64 (by omega) (by omega)
      have bad : ¬ poolAt m p.v i → tB (r < R ∧ RoundI cfR m r) = false := fun hb => tB_f fun k => by
        obtain ⟨v, n, k1, k2, _⟩ := k.2
        rw [vv k1] at k2
        exact hb (k2.2 i hi1)
      have e0 : ixV (.string p.v) (.int .i64 i) = some (.int .u8 (byt p.v i : Nat)) := ix_byt hi1
      have b0 := byt_lt (s := p.v) (i := i)
      have w0 : IntKind.i64.wrap ((byt p.v i : Nat) : Int) = ((byt p.v i : Nat) : Int) := w64 (by omega) (by omega)
      have hj1 := k_impl_joined (X := X) (i := byt p.v i) (by omega) hm hl
      by_cases c3 : Jn m (byt p.v i)
      rotate_left
      · rw [tB_f c3] at hj1
        simp only [t0, l3, t5, t40, t41, e0, w0, hj1, go_sem]
        exact (bad fun k => c3 k.1).symm
      rw [tB_t c3] at hj1
      by_cases c4 : (i : Int) > 0
      rotate_left
      · simp only [t0, l3, t5, t40, t41, e0, w0, hj1, c4, hw, go_sem]
        refine ⟨hi1, fun j hj' => ?_⟩
        by_cases e : j = i
        · rw [e]; exact ⟨c3, fun q => by omega⟩
        · exact hj j (by omega)
      have hw' : IntKind.i64.wrap ((i : Int) - 1) = ((i - 1 : Nat) : Int) := by rw [w64 (by omega) (by omega)]; omega
      have e1 : ixV (.string p.v) (.int .i64 ((i - 1 : Nat) : Int)) = some (.int .u8 (byt p.v (i - 1) : Nat)) := ix_byt (by omega)
      by_cases c5 : ((byt p.v (i - 1) : Nat) : Int) ≥ ((byt p.v i : Nat) : Int)
      · simp only [t0, l3, t5, t40, t41, e0, e1, w0, hj1, c4, c5, hw', go_sem]
        exact (bad fun k => by have := k.2 (by omega); omega).symm
      · simp only [t0, l3, t5, t40, t41, e0, e1, w0, hj1, c4, c5, hw, hw', go_sem]
        refine ⟨hi1, fun j hj' => ?_⟩
        by_cases e : j = i
        · rw [e]; exact ⟨c3, fun q => by omega⟩
        · exact hj j (by omega)
    have hpool : PoolIs m p.v := ⟨by omega, fun j hj' => hj j (by omega)⟩
    obtain ⟨n, hn⟩ := parts_ex m r
    have hn100 := hn.1
    have h5 := k_impl_certOf (X := X) (r := r) (by omega) hn hs hm hl
    have s1 := partsL_size hs (r := r) (n := n)
    obtain ⟨tx, htx⟩ : ∃ tx, tx = catB (partsL m r n) := ⟨_, rfl⟩
    rw [← htx] at h5 s1
    have bad : ¬ (cut tx = partsL m r n ∧ cfR tx p.v.size) → tB (r < R ∧ RoundI cfR m r) = false := fun hb => tB_f fun k => by
      obtain ⟨v, n', k1, k2, k3, k4, k5⟩ := k.2
      have := hn.one k3
      subst this
      rw [vv k1, ← htx] at k5
      rw [← htx] at k4
      exact hb ⟨k4, k5⟩
    obtain ⟨v6, h6, c6, p6, ew, mw, yw, gw, rfl, -⟩ := k_impl_ReadCert (X := X) (h := h') (s := tx) (by omega)
    obtain ⟨v7, h7, c7, p7, o7⟩ := k_impl_CertParts (X := X) (h := h6) (s0 := tx) (by omega)
    have hp7 := p6.trans p7
    have hln : lnV h7 v7 = some (.int .i64 ((cut tx).length : Int)) := o7.rows.lnm
    cases c8 : (rdI tx).ok with
    | false =>
      rw [c8] at c6
      unfold certV at c6
      simp only [t0, l3, t5, h5, c6, c7, hln, zeros, fillAt, go_sem]
      rw [bad fun k => by have := k.2.1; rw [c8] at this; cases this]
      exact finish_flat rfl hp7
    | true =>
      rw [c8] at c6
      unfold certV at c6
      by_cases c9 : (rdI tx).size = (p.v.size : Int)
      rotate_left
      · simp only [t0, l3, t5, h5, c6, c7, c9, hln, zeros, fillAt, go_sem]
        rw [bad fun k => c9 k.2.2]
        exact finish_flat rfl hp7
      by_cases c10 : ((cut tx).length : Int) = n
      rotate_left
      · simp only [t0, l3, t5, h5, c6, c7, c9, c10, hln, zeros, fillAt, go_sem]
        rw [bad fun k => c10 (by rw [k.1, partsL_len])]
        exact finish_flat rfl hp7
      simp only [t0, l3, t5, h5, c6, c7, c9, c10, hln, zeros, fillAt, go_sem]
      refine w_for n (fun i t loc h' => h' = h7 ∧ t 0 = mv ∧ t 5 = .int .i64 (r : Int) ∧ t 99 = v7 ∧ t 100 = .int .i64 (n : Int) ∧ t 101 = .int .i64 (i : Int) ∧ ∀ j, j < i → (cut tx).getD j noT = partV m r j) ⟨rfl, rfl, rfl, rfl, rfl, rfl, fun j hj => by omega⟩ ?_
      clear t0 l3 t5 t40 t41
      rintro i2 t2 loc2 h8 hi2 ⟨rfl, t0, t5, t99, t100, t101, hj2⟩
      simp only [t100, t101, go_sem]
      refine w_open (by simp only [go_sem]; rfl) ?_ ?_ <;> intro hc2
      · have hi3 : i2 < n := by omega
        have hw : IntKind.i64.wrap ((i2 : Int) + 1) = ((i2 + 1 : Nat) : Int) := w64 (by omega) (by omega)
        have h22 := k_impl_two (X := X) (h := h8) (n := r) (by omega)
        have h23 := k_impl_two (X := X) (h := h8) (n := i2) (by omega)
        have hz := twoT_size (n := r) (by omega)
        have hz' := twoT_size (n := i2) (by omega)
        have hz1 : (⟨[114]⟩ : Array UInt8).size + (twoT r).size ≤ 9223372036854775807 := by rw [asz]; omega
        have hz2 := r3_size (r := r) (by omega)
        have hz3 : (strOfNums (114 :: twoL r)).size + (twoT i2).size ≤ 9223372036854775807 := by omega
        have hg := k_impl_get (X := X) (k := rK r i2) (hm.up hp7) hl
        unfold getV at hg
        have el := o7.rows.el (f := txR) noT (i := i2) (by omega)
        have cl := o7.rows.cell (f := txR) noT (i := i2) (o := 0) (by omega) (by omega)
        obtain ⟨q, hq⟩ : ∃ q, q = (cut tx).getD i2 noT := ⟨_, rfl⟩
        rw [← hq] at el cl
        have k0 : ldC h8 (elemP v7 1 i2 0) 1 = some [.string q] := cl
        by_cases c11 : (getK m (rK r i2)).getD noT = q
        · have c11' : (((getK m (rK r i2)).getD noT).toList == q.toList) = true := by rw [str_eq]; exact decide_eq_true c11
          simp only [t0, t5, t99, t100, t101, el.1, k0, h22, h23, hz1, r3_app, hz3, rK_app', hg, c11', hw, go_sem]
          refine ⟨hi3, fun j hj' => ?_⟩
          by_cases e : j = i2
          · rw [e, ← hq, ← c11]; rfl
          · exact hj2 j (by omega)
        · have c11' : (((getK m (rK r i2)).getD noT).toList == q.toList) = false := by rw [str_eq]; exact decide_eq_false c11
          simp only [t0, t5, t99, t100, t101, el.1, k0, h22, h23, hz1, r3_app, hz3, rK_app', hg, c11', go_sem]
          rw [bad fun k => c11 (by rw [hq, k.1, partsL_get hi3]; rfl)]
          exact finish_flat rfl hp7
      · simp only [go_sem]
        rw [tB_t ⟨by omega, p.v, n, hp, hpool, hn, by
          rw [← htx]
          exact ext_getD (d := noT) (by rw [partsL_len]; omega) fun i hi => by rw [hj2 i (by omega), partsL_get (by omega)], by rw [← htx]; exact ⟨c8, c9⟩⟩]
        exact finish_flat rfl hp7
/-- What an entry of a state says. -/
def EntI (m : List Pr) (R : Nat) (p : Pr) : Prop := IdOk R p ∨ LinkI m p ∨ PoolI m R p ∨ PartI m R p
theorem ent_v (h : byt p.k 0 = 118) : EntI m R p ↔ IdOk R p := by
  refine ⟨fun k => ?_, .inl⟩
  rcases k with k | ⟨a, b, _, _, k, _⟩ | ⟨r, _, k, _⟩ | ⟨r, i, _, _, k, _⟩
  · exact k
  · rw [k, eK_0] at h; omega
  · rw [k, qK_0] at h; omega
  · rw [k, rK_0] at h; omega
theorem ent_e (h : byt p.k 0 = 101) : EntI m R p ↔ LinkI m p := by
  refine ⟨fun k => ?_, fun k => .inr (.inl k)⟩
  rcases k with ⟨i, _, k, _⟩ | k | ⟨r, _, k, _⟩ | ⟨r, i, _, _, k, _⟩
  · rw [k, vK_0] at h; omega
  · exact k
  · rw [k, qK_0] at h; omega
  · rw [k, rK_0] at h; omega
theorem ent_q (h : byt p.k 0 = 113) : EntI m R p ↔ PoolI m R p := by
  refine ⟨fun k => ?_, fun k => .inr (.inr (.inl k))⟩
  rcases k with ⟨i, _, k, _⟩ | ⟨a, b, _, _, k, _⟩ | k | ⟨r, i, _, _, k, _⟩
  · rw [k, vK_0] at h; omega
  · rw [k, eK_0] at h; omega
  · exact k
  · rw [k, rK_0] at h; omega
theorem ent_r (h : byt p.k 0 = 114) : EntI m R p ↔ PartI m R p := by
  refine ⟨fun k => ?_, fun k => .inr (.inr (.inr k))⟩
  rcases k with ⟨i, _, k, _⟩ | ⟨a, b, _, _, k, _⟩ | ⟨r, _, k, _⟩ | k
  · rw [k, vK_0] at h; omega
  · rw [k, eK_0] at h; omega
  · rw [k, qK_0] at h; omega
  · exact k
theorem ent_no (h1 : ¬ byt p.k 0 = 118) (h2 : ¬ byt p.k 0 = 101) (h3 : ¬ byt p.k 0 = 113) (h4 : ¬ byt p.k 0 = 114) : ¬ EntI m R p := by
  rintro (⟨i, _, k, _⟩ | ⟨a, b, _, _, k, _⟩ | ⟨r, _, k, _⟩ | ⟨r, i, _, _, k, _⟩)
  · rw [k, vK_0] at h1; omega
  · rw [k, eK_0] at h2; omega
  · rw [k, qK_0] at h3; omega
  · rw [k, rK_0] at h4; omega
theorem stI_iff (hR : IsRnd m R) : StI cfR m ↔ MapIs m ∧ R ≤ 6 ∧ ∀ i, i < m.length → EntI m R (m.getD i p0) := by
  have key : ∀ p, EntI m R p ↔ (IdOk R p ∨ LinkI m p ∨ (∃ r, r < R ∧ p.k = qK r ∧ RoundI cfR m r) ∨ ∃ r i n, r < R ∧ i < 100 ∧ p.k = rK r i ∧ IsParts m r n ∧ i < n) := fun p => by
    refine or_congr Iff.rfl (or_congr Iff.rfl (or_congr Iff.rfl ⟨?_, ?_⟩))
    · rintro ⟨r, i, h1, h2, h3, n, h4, h5⟩; exact ⟨r, i, n, h1, h2, h3, h4, h5⟩
    · rintro ⟨r, i, n, h1, h2, h3, h4, h5⟩; exact ⟨r, i, h1, h2, h3, n, h4, h5⟩
  constructor
  · rintro ⟨h1, R', h2, h3, h4⟩
    have := h3.one hR
    subst this
    exact ⟨h1, h2, fun i hi => (key _).2 (h4 _ (getD_mem hi))⟩
  · rintro ⟨h1, h2, h3⟩
    refine ⟨h1, R, h2, hR, fun p hp => (key p).1 ?_⟩
    obtain ⟨i, hi, e⟩ := List.mem_iff_getElem.1 hp
    have := h3 i hi
    rw [List.getD_eq_getElem?_getD, List.getElem?_eq_getElem hi, Option.getD_some, e] at this
    exact this
theorem k_impl_StateOk (hm : Rows h 2 mv (prsL m)) (hl : m.length ≤ lim) : C T X n_impl_StateOk [mv] h = some (.bool (tB (StI cfR m)), h) := by
  obtain ⟨R, hR⟩ := rnd_ex m
  rw [tB_iff (stI_iff hR)]
  have h1 := k_impl_MapOk (X := X) hm hl
  have h4 := k_impl_roundsOf (X := X) hm hl hR
  refine C_go t_impl_StateOk rfl ?_
  unfold F_impl_StateOk
  by_cases c1 : MapIs m
  rotate_left
  · rw [tB_f c1] at h1
    simp only [h1, go_sem]
    exact (tB_f fun k => c1 k.1).symm
  rw [tB_t c1] at h1
  by_cases c2 : R ≤ 6
  rotate_left
  · have c2' : ((min R 7 : Nat) : Int) > 6 := by omega
    simp only [h1, h4, c2', go_sem]
    exact (tB_f fun k => c2 k.2.1).symm
  have c2' : ¬ ((min R 7 : Nat) : Int) > 6 := by omega
  have hs : ∀ p ∈ m, p.v.size ≤ 40 := fun p hp => by
    obtain ⟨i, hi, e⟩ := List.mem_iff_getElem.1 hp
    have := (c1.2 i hi).1.2
    rw [List.getD_eq_getElem?_getD, List.getElem?_eq_getElem hi, Option.getD_some, e] at this
    exact this
  have hlen := c1.1
  simp only [h1, h4, c2', hm.lnm, zeros, fillAt, go_sem]
  refine w_for m.length (fun i t loc h' => h' = h ∧ t 0 = mv ∧ t 14 = mv ∧ t 15 = .int .i64 (m.length : Int) ∧ t 16 = .int .i64 (i : Int) ∧ ∀ j, j < i → EntI m R (m.getD j p0)) ⟨rfl, rfl, rfl, rfl, rfl, fun j hj => by omega⟩ ?_
  rintro i t loc h' hi ⟨rfl, t0, t14, t15, t16, hj⟩
  simp only [t15, t16, go_sem]
  refine w_open (by simp only [go_sem]; rfl) ?_ ?_ <;> intro hc
  · have hi1 : i < m.length := by omega
    have hw : IntKind.i64.wrap ((i : Int) + 1) = ((i + 1 : Nat) : Int) := w64 (by omega) (by omega)
    have bad : ¬ EntI m R (m.getD i p0) → tB (MapIs m ∧ R ≤ 6 ∧ ∀ i, i < m.length → EntI m R (m.getD i p0)) = false := fun hb => tB_f fun k => hb (k.2.2 i hi1)
    have good : EntI m R (m.getD i p0) → ∀ j, j < i + 1 → EntI m R (m.getD j p0) := fun hg j hj' => by
      by_cases e : j = i
      · rw [e]; exact hg
      · exact hj j (by omega)
    have el := hm.el (f := prR) p0 hi1
    have hks := (c1.2 i hi1).1
    have hgk := c1.get hi1
    have hsq := hks.2
    obtain ⟨q, hq⟩ : ∃ q, q = m.getD i p0 := ⟨_, rfl⟩
    rw [← hq] at el hks hgk bad good hsq
    have e0 : ixV (.string q.k) (.int .i64 0) = some (.int .u8 (byt q.k 0 : Nat)) := ix_byt (i := 0) (by omega)
    by_cases b1 : ((byt q.k 0 : Nat) : Int) = 118
    · have hc1 := k_impl_idOk (X := X) hm hl hR c2 hks.1.1 (by omega) hks.2
      have hi2 := ent_v (m := m) (R := R) (p := q) (by omega)
      by_cases g : IdOk R q
      · rw [tB_t g] at hc1
        simp only [t0, t14, t15, t16, el.1, el.2.1, el.2.2, prR, e0, b1, hc1, hw, zeros, fillAt, go_sem]
        exact ⟨hi1, good (hi2.2 g)⟩
      · rw [tB_f g] at hc1
        simp only [t0, t14, t15, t16, el.1, el.2.1, el.2.2, prR, e0, b1, hc1, hw, zeros, fillAt, go_sem]
        exact (bad fun k => g (hi2.1 k)).symm
    by_cases b2 : ((byt q.k 0 : Nat) : Int) = 101
    · have hc1 := k_impl_linkOk (X := X) (p := q) hm hl (by omega)
      have hi2 := ent_e (m := m) (R := R) (p := q) (by omega)
      by_cases g : LinkI m q
      · rw [tB_t g] at hc1
        simp only [t0, t14, t15, t16, el.1, el.2.1, el.2.2, prR, e0, b1, b2, hc1, hw, zeros, fillAt, go_sem]
        exact ⟨hi1, good (hi2.2 g)⟩
      · rw [tB_f g] at hc1
        simp only [t0, t14, t15, t16, el.1, el.2.1, el.2.2, prR, e0, b1, b2, hc1, hw, zeros, fillAt, go_sem]
        exact (bad fun k => g (hi2.1 k)).symm
    by_cases b3 : ((byt q.k 0 : Nat) : Int) = 113
    · have hc1 := k_impl_poolOk (X := X) (p := q) hm hl hR c2 hs hks.1.1 (by omega) hgk
      have hi2 := ent_q (m := m) (R := R) (p := q) (by omega)
      by_cases g : PoolI m R q
      · rw [tB_t g] at hc1
        simp only [t0, t14, t15, t16, el.1, el.2.1, el.2.2, prR, e0, b1, b2, b3, hc1, hw, zeros, fillAt, go_sem]
        exact ⟨hi1, good (hi2.2 g)⟩
      · rw [tB_f g] at hc1
        simp only [t0, t14, t15, t16, el.1, el.2.1, el.2.2, prR, e0, b1, b2, b3, hc1, hw, zeros, fillAt, go_sem]
        exact (bad fun k => g (hi2.1 k)).symm
    by_cases b4 : ((byt q.k 0 : Nat) : Int) = 114
    · have hc1 := k_impl_partOk (X := X) (p := q) hm hl hR c2 hs (by omega)
      have hi2 := ent_r (m := m) (R := R) (p := q) (by omega)
      by_cases g : PartI m R q
      · rw [tB_t g] at hc1
        simp only [t0, t14, t15, t16, el.1, el.2.1, el.2.2, prR, e0, b1, b2, b3, b4, hc1, hw, zeros, fillAt, go_sem]
        exact ⟨hi1, good (hi2.2 g)⟩
      · rw [tB_f g] at hc1
        simp only [t0, t14, t15, t16, el.1, el.2.1, el.2.2, prR, e0, b1, b2, b3, b4, hc1, hw, zeros, fillAt, go_sem]
        exact (bad fun k => g (hi2.1 k)).symm
    · simp only [t0, t14, t15, t16, el.1, el.2.1, el.2.2, prR, e0, b1, b2, b3, b4, hw, zeros, fillAt, go_sem]
      exact (bad (ent_no (by omega) (by omega) (by omega) (by omega))).symm
  · simp only [go_sem]
    exact (tB_t ⟨c1, c2, fun j hj' => hj j (by omega)⟩).symm
end
end Go.Proofs.YtgmljppiiighmaaGreatDoor.Ab
set_option linter.unusedSimpArgs false
set_option linter.unusedVariables false
set_option linter.unnecessarySimpa false
set_option maxHeartbeats 4000000
namespace Go.Proofs.YtgmljppiiighmaaGreatDoor.Ab
open Go.RowKit
section
variable {X : CallF} {h : Heap} {b : Nat} {s : ByteArray} {p : Nat × Bool}
theorem cap_le (n : Int) : cap100 n ≤ 100 := by unfold cap100; omega
theorem cap_more {n : Int} {i m : Nat} (hm : m + i = cap100 n) (h1 : (i : Int) < n) (h2 : (i : Int) < 100) : 0 < m := by unfold cap100 at hm; omega
theorem cap_end1 {n : Int} {i m : Nat} (hm : m + i = cap100 n) (h1 : ¬ (i : Int) < n) : m = 0 := by unfold cap100 at hm; omega
theorem cap_end2 {n : Int} {i m : Nat} (hm : m + i = cap100 n) (h1 : ¬ (i : Int) < 100) : m = 0 := by unfold cap100 at hm; omega
theorem groups_100 {q : Nat × Bool} : ∀ {n : Nat} {p : Nat × Bool}, ∀ g ∈ (rdN (gStep cap100 s) n p).1, g.ms.length ≤ 100
  | 0, _, g, h => absurd h List.not_mem_nil
  | n + 1, p, g, h => by
    rw [rdN] at h
    split at h
    · exact absurd h List.not_mem_nil
    · cases List.mem_cons.1 h with
      | inl e => rw [e]; exact Nat.le_trans rdN_len (cap_le _)
      | inr e => exact groups_100 (q := q) g e
theorem k_spec_ReadCert (hs2 : s.size ≤ 1048576) : ∃ v hh, C T X n_spec_ReadCert [.string s] h = some (v, hh) ∧ h <+: hh ∧ ∃ ew mw yw gw, v = .tuple ⟨[certV (rdS s).size ew mw yw gw, .bool (rdS s).ok]⟩ ∧ Own hh h.length hh.length 5 y_Edge ew (edges (rdS s).es) ∧ Own hh h.length hh.length 2 y_Couple mw (cps (rdS s).m) ∧ Own hh h.length hh.length 1 y_int yw (ints (rdS s).ys) ∧ OwnG hh h.length hh.length y_Group gw (rdS s).gs := by
  have hs : s.size ≤ lim := by unfold lim; omega
  refine C_ex t_spec_ReadCert rfl ?_
  obtain ⟨g, hg⟩ : ∃ g : Heap, g = h ++ [rdB y_l12Cur s (0, false)] := ⟨_, rfl⟩
  have hbw : bxW h y_l12Cur 3 (.agg ⟨[.string s, .int .i64 0, .bool false]⟩) = some (pk h.length 0, g) := by rw [hg]; rfl
  obtain ⟨b, hb⟩ : ∃ b, b = h.length := ⟨_, rfl⟩
  rw [← hb] at hbw
  have hgb : g[b]? = some (rdB y_l12Cur s (0, false)) := by rw [hg, hb]; simp
  have hgl : g.length = b + 1 := by rw [hg, hb]; simp
  have hbl : b < g.length := by omega
  have hpg : h <+: g := by rw [hg]; exact List.prefix_append _ _
  have r0 : Rdr b y_l12Cur s g g (0, false) := Rdr.refl hgb (Nat.zero_le _)
  have c1 := num_s (X := X) r0 hs
  have c2 := num_sn (X := X) r0 hs 1
  have r2 := r0.nums 2
  obtain ⟨g2, hg2⟩ : ∃ g2, g2 = g.set b (rdB y_l12Cur s (sS s (0, false) 2)) := ⟨_, rfl⟩
  rw [← hg2] at c2 r2
  have hz : sV s (0, false) 0 = (rz s).1 := rfl
  have hne : sV s (0, false) 1 = (rne s).1 := rfl
  have hq2 : sS s (0, false) 2 = (rne s).2 := rfl
  rw [hz] at c1
  rw [hne] at c2
  rw [hq2] at r2
  obtain ⟨size, hsz⟩ : ∃ z, z = (rz s).1 := ⟨_, rfl⟩
  rw [← hsz] at c1
  have hszr : 0 ≤ size ∧ size ≤ 1000000000 := by rw [hsz]; exact num_rng (Nat.zero_le _)
  obtain ⟨NE, hNE⟩ : ∃ z, z = (rne s).1 := ⟨_, rfl⟩
  rw [← hNE] at c2
  have hre : re cap100 s = rdN (eStep s) (cap100 NE) (rne s).2 := by unfold re; rw [hNE]
  unfold F_spec_ReadCert
  simp only [hbw, c1, c2, go_sem]
  have hb2 : b < g2.length := lt_of_get r2.at_
  -- the edges
  refine w_measX 0 (cap100 NE) (fun m t loc h' => t 0 = .string s ∧ t 4 = pk b 0 ∧ loc 2 = some [.int .i64 0, nilV, nilV, nilV, nilV] ∧ t 6 = .int .i64 NE ∧ ∃ (i : Nat), ∃ L q v, m + i = cap100 NE ∧ t 7 = .int .i64 (i : Nat) ∧ loc 5 = some [.int .i64 size, v, nilV, nilV, nilV] ∧ Rdr b y_l12Cur s g2 h' q ∧ Own h' g2.length h'.length 5 y_Edge v (edges L) ∧ RdTo (eStep s) (cap100 NE) (rne s).2 L m q)
    (fun t loc h' => t 0 = .string s ∧ t 4 = pk b 0 ∧ loc 2 = some [.int .i64 0, nilV, nilV, nilV, nilV] ∧ ∃ v, loc 5 = some [.int .i64 size, v, nilV, nilV, nilV] ∧ Rdr b y_l12Cur s g2 h' (re cap100 s).2 ∧ Own h' g2.length h'.length 5 y_Edge v (edges (re cap100 s).1))
    ⟨rfl, rfl, rfl, rfl, 0, [], _, _, rfl, rfl, rfl, Rdr.refl r2.at_ r2.le, Own.nil, RdTo.start⟩ ?_ ?_
  · rintro m t loc h' ⟨t0, t4, l2, t6, i, L, q, v, hmi, tcn, l5, hr, o, hto⟩
    have hpk : ∀ j, faV h' (pk b 0) j = some (pk b j) := fun j => rd_fa hr.at_
    have hcl := cap_le NE
    by_cases hk : (i : Int) < NE
    · cases hq : q.2 with
      | false =>
        by_cases hk2 : (i : Int) < 100
        · have hm0 := cap_more hmi hk hk2
          have hw : IntKind.i64.wrap ((i : Int) + 1) = ((i + 1 : Nat) : Int) := w64 (by omega) (by omega)
          have hkk : m = (m - 1) + 1 := by omega
          have hLN := hto.len
          have d0 := num_s (X := X) hr hs
          have d1 := num_sn (X := X) hr hs 1
          have d2 := num_sn (X := X) hr hs 2
          have d3 := num_sn (X := X) hr hs 3
          have d4 := num_sn (X := X) hr hs 4
          have hrn := hr.nums 5
          have o1 : Own (h'.set b (rdB y_l12Cur s (sS s q 5))) g2.length h'.length 5 y_Edge v (edges L) := o.num hb2
          obtain ⟨h2, hh2⟩ : ∃ h2, h2 = h'.set b (rdB y_l12Cur s (sS s q 5)) := ⟨_, rfl⟩
          rw [← hh2] at d4 hrn o1
          have hl2 : h2.length = h'.length := by rw [hh2, set_len]
          rw [← hl2] at o1
          obtain ⟨v3, h3, c3, q1, q2, o3⟩ := o1.push1 hrn.len (edgeR (eStep s q).1) rfl (by rw [List.length_map]; unfold lim; omega)
          unfold edgeR eStep at c3
          simp only [t0, t4, l2, t6, l5, tcn, hk, hk2, hpk, rd_chk hr.at_, rd_ld2 hr.at_, hq, d0, d1, d2, d3, d4, zeros, fillAt, c3, o3.cells, hw, go_sem]
          rw [hkk] at hto
          refine ⟨m - 1, by omega, i + 1, L ++ [(eStep s q).1], sS s q 5, v3, by omega, rfl, rfl, hrn.push hb2 q1 (fun c hc => q2 c (.inl hc)), ?_, hto.next hq⟩
          rw [Nat.max_eq_right q1] at o3
          simpa using o3
        · have hd := hto.done (.inl (cap_end2 hmi hk2))
          simp only [t0, t4, l2, t6, l5, tcn, hk, hk2, hpk, rd_chk hr.at_, rd_ld2 hr.at_, hq, go_sem]
          rw [hre, hd]
          exact ⟨v, rfl, hr, o⟩
      | true =>
        have hd := hto.done (.inr hq)
        simp only [t0, t4, l2, t6, l5, tcn, hk, hpk, rd_chk hr.at_, rd_ld2 hr.at_, hq, go_sem]
        rw [hre, hd]
        exact ⟨v, rfl, hr, o⟩
    · have hd := hto.done (.inl (cap_end1 hmi hk))
      simp only [t0, t4, l2, t6, l5, tcn, hk, hpk, go_sem]
      rw [hre, hd]
      exact ⟨v, rfl, hr, o⟩
  rintro t loc g3 ⟨t0, t4, l2, ev, l5, r3, oe⟩
  have hb3 : b < g3.length := lt_of_get r3.at_
  have n1 := num_s (X := X) r3 hs
  rw [show sV s (re cap100 s).2 0 = (rnm cap100 s).1 from rfl] at n1
  have r4' := r3.nums 1
  obtain ⟨g4, hg4⟩ : ∃ g4, g4 = g3.set b (rdB y_l12Cur s (sS s (re cap100 s).2 1)) := ⟨_, rfl⟩
  have oe4 : Own g4 g2.length g3.length 5 y_Edge ev (edges (re cap100 s).1) := by rw [hg4]; exact oe.num (lt_of_get r2.at_)
  rw [← hg4] at n1 r4'
  have hl4 : g4.length = g3.length := by rw [hg4, set_len]
  rw [show sS s (re cap100 s).2 1 = (rnm cap100 s).2 from rfl] at r4'
  have r4 : Rdr b y_l12Cur s g4 g4 (rnm cap100 s).2 := Rdr.refl r4'.at_ r4'.le
  obtain ⟨M, hM⟩ : ∃ M, M = (rnm cap100 s).1 := ⟨_, rfl⟩
  rw [← hM] at n1
  have hrm : rm cap100 s = rdN (cStep s) (cap100 M) (rnm cap100 s).2 := by unfold rm; rw [hM]
  simp only [t0, t4, l2, l5, n1, go_sem]
  have hb4 : b < g4.length := by omega
  -- the couples
  refine w_measX 2 (cap100 M) (fun m t loc h' => t 0 = .string s ∧ t 4 = pk b 0 ∧ loc 2 = some [.int .i64 0, nilV, nilV, nilV, nilV] ∧ t 6 = .int .i64 M ∧ ∃ (i : Nat), ∃ L q v, m + i = cap100 M ∧ t 9 = .int .i64 (i : Nat) ∧ loc 5 = some [.int .i64 size, ev, v, nilV, nilV] ∧ Rdr b y_l12Cur s g4 h' q ∧ Own h' g4.length h'.length 2 y_Couple v (cps L) ∧ RdTo (cStep s) (cap100 M) (rnm cap100 s).2 L m q)
    (fun t loc h' => t 0 = .string s ∧ t 4 = pk b 0 ∧ loc 2 = some [.int .i64 0, nilV, nilV, nilV, nilV] ∧ ∃ v, loc 5 = some [.int .i64 size, ev, v, nilV, nilV] ∧ Rdr b y_l12Cur s g4 h' (rm cap100 s).2 ∧ Own h' g4.length h'.length 2 y_Couple v (cps (rm cap100 s).1))
    ⟨rfl, rfl, rfl, rfl, 0, [], _, _, rfl, rfl, rfl, r4, Own.nil, RdTo.start⟩ ?_ ?_
  · rintro m t loc h' ⟨t0, t4, l2, t6, i, L, q, v, hmi, tcn, l5, hr, o, hto⟩
    have hpk : ∀ j, faV h' (pk b 0) j = some (pk b j) := fun j => rd_fa hr.at_
    have hcl := cap_le M
    by_cases hk : (i : Int) < M
    · cases hq : q.2 with
      | false =>
        by_cases hk2 : (i : Int) < 100
        · have hm0 := cap_more hmi hk hk2
          have hw : IntKind.i64.wrap ((i : Int) + 1) = ((i + 1 : Nat) : Int) := w64 (by omega) (by omega)
          have hkk : m = (m - 1) + 1 := by omega
          have hLN := hto.len
          have d0 := num_s (X := X) hr hs
          have d1 := num_sn (X := X) hr hs 1
          have hrn := hr.nums 2
          have o1 : Own (h'.set b (rdB y_l12Cur s (sS s q 2))) g4.length h'.length 2 y_Couple v (cps L) := o.num hb4
          obtain ⟨h2, hh2⟩ : ∃ h2, h2 = h'.set b (rdB y_l12Cur s (sS s q 2)) := ⟨_, rfl⟩
          rw [← hh2] at d1 hrn o1
          have hl2 : h2.length = h'.length := by rw [hh2, set_len]
          rw [← hl2] at o1
          obtain ⟨v3, h3, c3, q1, q2, o3⟩ := o1.push1 hrn.len (cpR (cStep s q).1) rfl (by rw [List.length_map]; unfold lim; omega)
          unfold cpR cStep at c3
          simp only [t0, t4, l2, t6, l5, tcn, hk, hk2, hpk, rd_chk hr.at_, rd_ld2 hr.at_, hq, d0, d1, zeros, fillAt, c3, o3.cells, hw, go_sem]
          rw [hkk] at hto
          refine ⟨m - 1, by omega, i + 1, L ++ [(cStep s q).1], sS s q 2, v3, by omega, rfl, rfl, hrn.push hb4 q1 (fun c hc => q2 c (.inl hc)), ?_, hto.next hq⟩
          rw [Nat.max_eq_right q1] at o3
          simpa using o3
        · have hd := hto.done (.inl (cap_end2 hmi hk2))
          simp only [t0, t4, l2, t6, l5, tcn, hk, hk2, hpk, rd_chk hr.at_, rd_ld2 hr.at_, hq, go_sem]
          rw [hrm, hd]
          exact ⟨v, rfl, hr, o⟩
      | true =>
        have hd := hto.done (.inr hq)
        simp only [t0, t4, l2, t6, l5, tcn, hk, hpk, rd_chk hr.at_, rd_ld2 hr.at_, hq, go_sem]
        rw [hrm, hd]
        exact ⟨v, rfl, hr, o⟩
    · have hd := hto.done (.inl (cap_end1 hmi hk))
      simp only [t0, t4, l2, t6, l5, tcn, hk, hpk, go_sem]
      rw [hrm, hd]
      exact ⟨v, rfl, hr, o⟩
  rintro t loc g5 ⟨t0, t4, l2, mv, l5, r5, om⟩
  have hb5 : b < g5.length := lt_of_get r5.at_
  have r5s : Rdr b y_l12Cur s g5 g5 (rm cap100 s).2 := Rdr.refl r5.at_ r5.le
  have hry : ry cap100 s = rdN (numStep s) (cap100 size) (rm cap100 s).2 := by unfold ry; rw [← hsz]
  simp only [t0, t4, l2, l5, go_sem]
  -- the numbers of the vertices
  refine w_measX 4 (cap100 size) (fun m t loc h' => t 0 = .string s ∧ t 4 = pk b 0 ∧ loc 2 = some [.int .i64 0, nilV, nilV, nilV, nilV] ∧ ∃ (i : Nat), ∃ L q v, m + i = cap100 size ∧ t 11 = .int .i64 (i : Nat) ∧ loc 5 = some [.int .i64 size, ev, mv, v, nilV] ∧ Rdr b y_l12Cur s g5 h' q ∧ Own h' g5.length h'.length 1 y_int v (ints L) ∧ RdTo (numStep s) (cap100 size) (rm cap100 s).2 L m q)
    (fun t loc h' => t 0 = .string s ∧ t 4 = pk b 0 ∧ loc 2 = some [.int .i64 0, nilV, nilV, nilV, nilV] ∧ ∃ v, loc 5 = some [.int .i64 size, ev, mv, v, nilV] ∧ Rdr b y_l12Cur s g5 h' (ry cap100 s).2 ∧ Own h' g5.length h'.length 1 y_int v (ints (ry cap100 s).1))
    ⟨rfl, rfl, rfl, 0, [], _, _, rfl, rfl, rfl, r5s, Own.nil, RdTo.start⟩ ?_ ?_
  · rintro m t loc h' ⟨t0, t4, l2, i, L, q, v, hmi, tcn, l5, hr, o, hto⟩
    have hpk : ∀ j, faV h' (pk b 0) j = some (pk b j) := fun j => rd_fa hr.at_
    have hcl := cap_le size
    by_cases hk : (i : Int) < size
    · cases hq : q.2 with
      | false =>
        by_cases hk2 : (i : Int) < 100
        · have hm0 := cap_more hmi hk hk2
          have hw : IntKind.i64.wrap ((i : Int) + 1) = ((i + 1 : Nat) : Int) := w64 (by omega) (by omega)
          have hkk : m = (m - 1) + 1 := by omega
          have hLN := hto.len
          have d0 := num_s (X := X) hr hs
          have hrn := hr.nums 1
          have o1 : Own (h'.set b (rdB y_l12Cur s (sS s q 1))) g5.length h'.length 1 y_int v (ints L) := o.num hb5
          obtain ⟨h2, hh2⟩ : ∃ h2, h2 = h'.set b (rdB y_l12Cur s (sS s q 1)) := ⟨_, rfl⟩
          rw [← hh2] at d0 hrn o1
          have hl2 : h2.length = h'.length := by rw [hh2, set_len]
          rw [← hl2] at o1
          obtain ⟨v3, h3, c3, q1, q2, o3⟩ := o1.push1 hrn.len ([.int .i64 (sV s q 0)]) rfl (by rw [ints_len]; unfold lim; omega)
          simp only [t0, t4, l2, l5, tcn, hk, hk2, hpk, rd_chk hr.at_, rd_ld2 hr.at_, hq, d0, zeros, fillAt, c3, o3.cells, hw, go_sem]
          rw [hkk] at hto
          refine ⟨m - 1, by omega, i + 1, L ++ [sV s q 0], sS s q 1, v3, by omega, rfl, rfl, hrn.push hb5 q1 (fun c hc => q2 c (.inl hc)), ?_, hto.next hq⟩
          rw [Nat.max_eq_right q1] at o3
          simpa [ints] using o3
        · have hd := hto.done (.inl (cap_end2 hmi hk2))
          simp only [t0, t4, l2, l5, tcn, hk, hk2, hpk, rd_chk hr.at_, rd_ld2 hr.at_, hq, go_sem]
          rw [hry, hd]
          exact ⟨v, rfl, hr, o⟩
      | true =>
        have hd := hto.done (.inr hq)
        simp only [t0, t4, l2, l5, tcn, hk, hpk, rd_chk hr.at_, rd_ld2 hr.at_, hq, go_sem]
        rw [hry, hd]
        exact ⟨v, rfl, hr, o⟩
    · have hd := hto.done (.inl (cap_end1 hmi hk))
      simp only [t0, t4, l2, l5, tcn, hk, hpk, go_sem]
      rw [hry, hd]
      exact ⟨v, rfl, hr, o⟩
  rintro t loc g6 ⟨t0, t4, l2, yv, l5, r6, oy⟩
  have hb6 : b < g6.length := lt_of_get r6.at_
  have n2 := num_s (X := X) r6 hs
  rw [show sV s (ry cap100 s).2 0 = (rgn cap100 s).1 from rfl] at n2
  have r7' := r6.nums 1
  obtain ⟨g7, hg7⟩ : ∃ g7, g7 = g6.set b (rdB y_l12Cur s (sS s (ry cap100 s).2 1)) := ⟨_, rfl⟩
  have oy7 : Own g7 g5.length g6.length 1 y_int yv (ints (ry cap100 s).1) := by rw [hg7]; exact oy.num hb5
  rw [← hg7] at n2 r7'
  have hl7 : g7.length = g6.length := by rw [hg7, set_len]
  have hb7 : b < g7.length := by omega
  rw [show sS s (ry cap100 s).2 1 = (rgn cap100 s).2 from rfl] at r7'
  have r7 : Rdr b y_l12Cur s g7 g7 (rgn cap100 s).2 := Rdr.refl r7'.at_ r7'.le
  obtain ⟨G, hG⟩ : ∃ G, G = (rgn cap100 s).1 := ⟨_, rfl⟩
  rw [← hG] at n2
  have hrgs : rg cap100 s = rdN (gStep cap100 s) (cap100 G) (rgn cap100 s).2 := by unfold rg; rw [hG]
  simp only [t0, t4, l2, l5, n2, go_sem]
  -- the groups
  refine w_measX 6 (cap100 G) (fun m t loc h' => t 0 = .string s ∧ t 4 = pk b 0 ∧ loc 2 = some [.int .i64 0, nilV, nilV, nilV, nilV] ∧ t 6 = .int .i64 G ∧ ∃ (i : Nat), ∃ L q v, m + i = cap100 G ∧ t 12 = .int .i64 (i : Nat) ∧ loc 5 = some [.int .i64 size, ev, mv, yv, v] ∧ Rdr b y_l12Cur s g7 h' q ∧ OwnG h' g7.length h'.length y_Group v L ∧ RdTo (gStep cap100 s) (cap100 G) (rgn cap100 s).2 L m q)
    (fun t loc h' => t 0 = .string s ∧ t 4 = pk b 0 ∧ loc 2 = some [.int .i64 0, nilV, nilV, nilV, nilV] ∧ ∃ v, loc 5 = some [.int .i64 size, ev, mv, yv, v] ∧ Rdr b y_l12Cur s g7 h' (rg cap100 s).2 ∧ OwnG h' g7.length h'.length y_Group v (rg cap100 s).1)
    ⟨rfl, rfl, rfl, rfl, 0, [], _, _, rfl, rfl, rfl, r7, OwnG.nil, RdTo.start⟩ ?_ ?_
  · rintro m t loc h' ⟨t0, t4, l2, t6, i, L, q, v, hmi, tcn, l5, hr, o, hto⟩
    have hpk : ∀ j, faV h' (pk b 0) j = some (pk b j) := fun j => rd_fa hr.at_
    have hcl := cap_le G
    by_cases hk : (i : Int) < G
    · cases hq : q.2 with
      | false =>
        by_cases hk2 : (i : Int) < 100
        · have hm0 := cap_more hmi hk hk2
          have hw : IntKind.i64.wrap ((i : Int) + 1) = ((i + 1 : Nat) : Int) := w64 (by omega) (by omega)
          have hkk : m = (m - 1) + 1 := by omega
          have hLN := hto.len
          have d0 := num_s (X := X) hr hs
          have hrn := hr.nums 1
          have o1 : OwnG (h'.set b (rdB y_l12Cur s (sS s q 1))) g7.length h'.length y_Group v L := o.num hb7
          obtain ⟨h1, hh1⟩ : ∃ h1, h1 = h'.set b (rdB y_l12Cur s (sS s q 1)) := ⟨_, rfl⟩
          rw [← hh1] at d0 hrn o1
          have hl1 : h1.length = h'.length := by rw [hh1, set_len]
          have hb1 : b < h1.length := by have := hrn.len; omega
          have ri : Rdr b y_l12Cur s h1 h1 (sS s q 1) := Rdr.refl hrn.at_ hrn.le
          obtain ⟨n, hn⟩ : ∃ n, n = sV s q 0 := ⟨_, rfl⟩
          rw [← hn] at d0
          have hms : rdN (numStep s) (cap100 (numStep s q).1) (numStep s q).2 = rdN (numStep s) (cap100 n) (sS s q 1) := by rw [hn]; rfl
          simp only [t0, t4, l2, t6, l5, tcn, hk, hk2, hpk, rd_chk hr.at_, rd_ld2 hr.at_, hq, d0, go_sem]
          -- its members
          refine w_measX 8 (cap100 n) (fun m t loc h' => t 0 = .string s ∧ t 4 = pk b 0 ∧ loc 2 = some [.int .i64 0, nilV, nilV, nilV, nilV] ∧ t 6 = .int .i64 G ∧ t 12 = .int .i64 i ∧ loc 5 = some [.int .i64 size, ev, mv, yv, v] ∧ t 14 = .int .i64 n ∧ ∃ (j : Nat), ∃ L q' x, m + j = cap100 n ∧ t 15 = .int .i64 (j : Nat) ∧ loc 13 = some [x, .int .i64 0] ∧ Rdr b y_l12Cur s h1 h' q' ∧ Own h' h1.length h'.length 1 y_int x (ints L) ∧ RdTo (numStep s) (cap100 n) (sS s q 1) L m q')
            (fun t loc h' => t 0 = .string s ∧ t 4 = pk b 0 ∧ loc 2 = some [.int .i64 0, nilV, nilV, nilV, nilV] ∧ t 6 = .int .i64 G ∧ t 12 = .int .i64 i ∧ loc 5 = some [.int .i64 size, ev, mv, yv, v] ∧ ∃ x, loc 13 = some [x, .int .i64 0] ∧ Rdr b y_l12Cur s h1 h' (rdN (numStep s) (cap100 n) (sS s q 1)).2 ∧ Own h' h1.length h'.length 1 y_int x (ints (rdN (numStep s) (cap100 n) (sS s q 1)).1))
            ⟨rfl, rfl, rfl, rfl, rfl, rfl, rfl, 0, [], _, _, rfl, rfl, rfl, ri, Own.nil, RdTo.start⟩ ?_ ?_
          · rintro m' t loc hx ⟨t0, t4, l2, t6, t12, l5, t14, j, L', q', x, hmj, t15, l13, hr', o', hto'⟩
            have hpk' : ∀ j, faV hx (pk b 0) j = some (pk b j) := fun j => rd_fa hr'.at_
            have hcl' := cap_le n
            by_cases jk : (j : Int) < n
            · cases jq : q'.2 with
              | false =>
                by_cases jk2 : (j : Int) < 100
                · have hm0' := cap_more hmj jk jk2
                  have hw' : IntKind.i64.wrap ((j : Int) + 1) = ((j + 1 : Nat) : Int) := w64 (by omega) (by omega)
                  have hkk' : m' = (m' - 1) + 1 := by omega
                  have hLN' := hto'.len
                  have e0 := num_s (X := X) hr' hs
                  have hrn' := hr'.nums 1
                  have o1' : Own (hx.set b (rdB y_l12Cur s (sS s q' 1))) h1.length hx.length 1 y_int x (ints L') := o'.num hb1
                  obtain ⟨h2, hh2⟩ : ∃ h2, h2 = hx.set b (rdB y_l12Cur s (sS s q' 1)) := ⟨_, rfl⟩
                  rw [← hh2] at e0 hrn' o1'
                  have hl2 : h2.length = hx.length := by rw [hh2, set_len]
                  rw [← hl2] at o1'
                  obtain ⟨v3, h3, c3, q1, q2, o3⟩ := o1'.push1 hrn'.len [.int .i64 (sV s q' 0)] rfl (by rw [ints_len]; unfold lim; omega)
                  simp only [t0, t4, l2, t6, t12, l5, t14, t15, l13, jk, jk2, hpk', rd_chk hr'.at_, rd_ld2 hr'.at_, jq, e0, zeros, fillAt, c3, o3.cells, hw', go_sem]
                  rw [hkk'] at hto'
                  refine ⟨m' - 1, by omega, j + 1, L' ++ [sV s q' 0], sS s q' 1, v3, by omega, rfl, rfl, hrn'.push hb1 q1 (fun c hc => q2 c (.inl hc)), ?_, hto'.next jq⟩
                  rw [Nat.max_eq_right q1] at o3
                  simpa [ints] using o3
                · have hd := hto'.done (.inl (cap_end2 hmj jk2))
                  simp only [t0, t4, l2, t6, t12, l5, t14, t15, l13, jk, jk2, hpk', rd_chk hr'.at_, rd_ld2 hr'.at_, jq, go_sem]
                  rw [hd]
                  exact ⟨x, rfl, hr', o'⟩
              | true =>
                have hd := hto'.done (.inr jq)
                simp only [t0, t4, l2, t6, t12, l5, t14, t15, l13, jk, hpk', rd_chk hr'.at_, rd_ld2 hr'.at_, jq, go_sem]
                rw [hd]
                exact ⟨x, rfl, hr', o'⟩
            · have hd := hto'.done (.inl (cap_end1 hmj jk))
              simp only [t0, t4, l2, t6, t12, l5, t14, t15, l13, jk, hpk', go_sem]
              rw [hd]
              exact ⟨x, rfl, hr', o'⟩
          rintro t loc hy ⟨t0, t4, l2, t6, t12, l5, x, l13, rx, ox⟩
          have hgs : gStep cap100 s q = (⟨(rdN (numStep s) (cap100 n) (sS s q 1)).1, (numStep s (rdN (numStep s) (cap100 n) (sS s q 1)).2).1⟩, (numStep s (rdN (numStep s) (cap100 n) (sS s q 1)).2).2) := by unfold gStep; rw [hms]
          have o2 : OwnG hy g7.length h'.length y_Group v L := o1.rdr rx hb7 (by omega)
          have e0 := num_s (X := X) rx hs
          have rx1 := rx.nums 1
          have o2' : OwnG (hy.set b (rdB y_l12Cur s (sS s (rdN (numStep s) (cap100 n) (sS s q 1)).2 1))) g7.length h'.length y_Group v L := o2.num hb7
          have ox' : Own (hy.set b (rdB y_l12Cur s (sS s (rdN (numStep s) (cap100 n) (sS s q 1)).2 1))) h1.length hy.length 1 y_int x (ints (rdN (numStep s) (cap100 n) (sS s q 1)).1) := ox.num hb1
          obtain ⟨h5, hh5⟩ : ∃ h5, h5 = hy.set b (rdB y_l12Cur s (sS s (rdN (numStep s) (cap100 n) (sS s q 1)).2 1)) := ⟨_, rfl⟩
          rw [← hh5] at e0 rx1 o2' ox'
          have hl5 : h5.length = hy.length := by rw [hh5, set_len]
          have hlen7 := hrn.len
          have hlenx := rx.len
          obtain ⟨v3, h3, c3, q1, q2, o3⟩ := o2'.push (z := sV s (rdN (numStep s) (cap100 n) (sS s q 1)).2 0) (by omega) (by omega) ox' hlen7 (by omega) (by omega) (by unfold lim; omega)
          simp only [t0, t4, l2, t6, t12, l5, l13, e0, ox'.cells, zeros, fillAt, c3, o3.cells', hw, go_sem]
          rw [hkk] at hto
          refine ⟨m - 1, by omega, i + 1, L ++ [(gStep cap100 s q).1], (gStep cap100 s q).2, v3, by omega, rfl, rfl, ?_, ?_, hto.next hq⟩
          · rw [hgs]
            exact (hrn.trans rx1).push hb7 q1 q2
          · rw [hgs]
            exact o3
        · have hd := hto.done (.inl (cap_end2 hmi hk2))
          simp only [t0, t4, l2, t6, l5, tcn, hk, hk2, hpk, rd_chk hr.at_, rd_ld2 hr.at_, hq, go_sem]
          rw [hrgs, hd]
          exact ⟨v, rfl, hr, o⟩
      | true =>
        have hd := hto.done (.inr hq)
        simp only [t0, t4, l2, t6, l5, tcn, hk, hpk, rd_chk hr.at_, rd_ld2 hr.at_, hq, go_sem]
        rw [hrgs, hd]
        exact ⟨v, rfl, hr, o⟩
    · have hd := hto.done (.inl (cap_end1 hmi hk))
      simp only [t0, t4, l2, t6, l5, tcn, hk, hpk, go_sem]
      rw [hrgs, hd]
      exact ⟨v, rfl, hr, o⟩
  rintro t loc g8 ⟨t0, t4, l2, gv, l5, r8, og⟩
  have lenA : g.length ≤ g2.length := by rw [hg2, set_len]; exact Nat.le_refl _
  have len8 := r8.len
  have len6 := r6.len
  have len5 := r5.len
  have len3 := r3.len
  have hpg8 : h <+: g8 := by
    have k2 : ∀ c, c < h.length → g2[c]? = h[c]? := fun c hc => by
      rw [hg2, List.getElem?_set_ne (by omega), hg, List.getElem?_append_left hc]
    have k3 : ∀ c, c < h.length → g3[c]? = h[c]? := fun c hc => by rw [r3.old c (by omega) (by omega), k2 c hc]
    have k4 : ∀ c, c < h.length → g4[c]? = h[c]? := fun c hc => by rw [hg4, List.getElem?_set_ne (by omega), k3 c hc]
    have k5 : ∀ c, c < h.length → g5[c]? = h[c]? := fun c hc => by rw [r5.old c (by omega) (by omega), k4 c hc]
    have k6 : ∀ c, c < h.length → g6[c]? = h[c]? := fun c hc => by rw [r6.old c (by omega) (by omega), k5 c hc]
    have k7 : ∀ c, c < h.length → g7[c]? = h[c]? := fun c hc => by rw [hg7, List.getElem?_set_ne (by omega), k6 c hc]
    exact pre_of_get (by omega) fun c hc => by rw [r8.old c (by omega) (by omega), k7 c hc]
  have oe8 : Own g8 g2.length g3.length 5 y_Edge ev (edges (re cap100 s).1) := by
    have a5 := oe4.rdr r5 hb2 (by omega)
    have a6 := a5.rdr r6 hb2 (by omega)
    have a7 : Own g7 g2.length g3.length 5 y_Edge ev (edges (re cap100 s).1) := by rw [hg7]; exact a6.num hb2
    exact a7.rdr r8 hb2 (by omega)
  have om8 : Own g8 g4.length g5.length 2 y_Couple mv (cps (rm cap100 s).1) := by
    have a6 := om.rdr r6 hb4 (by omega)
    have a7 : Own g7 g4.length g5.length 2 y_Couple mv (cps (rm cap100 s).1) := by rw [hg7]; exact a6.num hb4
    exact a7.rdr r8 hb4 (by omega)
  have oy8 : Own g8 g5.length g6.length 1 y_int yv (ints (ry cap100 s).1) := oy7.rdr r8 hb5 (by omega)
  have l1 : (re cap100 s).1.length ≤ 100 := Nat.le_trans (by rw [hre]; exact rdN_len) (cap_le NE)
  have l2' : (rm cap100 s).1.length ≤ 100 := Nat.le_trans (by rw [hrm]; exact rdN_len) (cap_le M)
  have l3 : (ry cap100 s).1.length ≤ 100 := Nat.le_trans (by rw [hry]; exact rdN_len) (cap_le size)
  have l4 : (rg cap100 s).1.length ≤ 100 := Nat.le_trans (by rw [hrgs]; exact rdN_len) (cap_le G)
  have cc := k_spec_CertText (X := X) (size := size) oe8.rows om8.rows oy8.rows og.rows (by unfold lim; omega) (by omega) ⟨by omega, by omega, fun x hx => by have := groups_100 (q := (0, false)) x hx; omega⟩
  unfold certV at cc
  have hpk : ∀ j, faV g8 (pk b 0) j = some (pk b j) := fun j => rd_fa r8.at_
  by_cases ok : CokS s
  · have hR : rdS s = ⟨(rz s).1, (re cap100 s).1, (rm cap100 s).1, (ry cap100 s).1, (rg cap100 s).1, true⟩ := if_pos ok
    have e1 : (rg cap100 s).2.2 = false := ok.1
    have e2 : CertOk size (re cap100 s).1 (rm cap100 s).1 (ry cap100 s).1 (rg cap100 s).1 := by rw [hsz]; exact ok.2.1
    have e3 : certT size (re cap100 s).1 (rm cap100 s).1 (ry cap100 s).1 (rg cap100 s).1 = s := by rw [hsz]; exact ok.2.2
    rw [if_pos e2, e3] at cc
    simp only [t0, t4, l2, l5, cc, e2, hpk, rd_chk r8.at_, rd_ld2 r8.at_, e1, BEq.rfl, go_sem]
    rw [hR]
    simp only
    rw [← hsz]
    obtain ⟨hh, e, p1, hc⟩ := finish_cases (v := .tuple ⟨[.agg ⟨[.int .i64 size, ev, mv, yv, gv]⟩, .bool true]⟩) hpg8
    rw [e]
    dsimp only
    rcases hc with rfl | ⟨hf, rfl⟩
    · exact ⟨p1, ev, mv, yv, gv, rfl, oe8.wide (by omega) (by omega), om8.wide (by omega) (by omega), oy8.wide (by omega) (by omega), og.wide (by omega) (Nat.le_refl _)⟩
    · have hf' : prim ev = true ∧ prim mv = true ∧ prim yv = true ∧ prim gv = true := by simpa [flat, flat1, prim] using hf
      exact ⟨p1, ev, mv, yv, gv, rfl, oe8.flatP hf'.1, om8.flatP hf'.2.1, oy8.flatP hf'.2.2.1, og.flatG hf'.2.2.2⟩
  · have hR : rdS s = ⟨0, [], [], [], [], false⟩ := if_neg ok
    have done : ∀ P : Prop, P = P := fun _ => rfl
    cases e1 : (rg cap100 s).2.2 with
    | true =>
      simp only [t0, t4, l2, l5, cc, hpk, rd_chk r8.at_, rd_ld2 r8.at_, e1, go_sem]
      rw [finish_flat rfl hpg8, hR]
      exact ⟨List.prefix_refl _, nilV, nilV, nilV, nilV, rfl, Own.nil, Own.nil, Own.nil, OwnG.nil⟩
    | false =>
      by_cases e2 : CertOk size (re cap100 s).1 (rm cap100 s).1 (ry cap100 s).1 (rg cap100 s).1
      · rw [if_pos e2] at cc
        have e3 : ¬ certT size (re cap100 s).1 (rm cap100 s).1 (ry cap100 s).1 (rg cap100 s).1 = s := fun k => ok ⟨e1, by rw [← hsz]; exact e2, by rw [← hsz]; exact k⟩
        have e4 : ((certT size (re cap100 s).1 (rm cap100 s).1 (ry cap100 s).1 (rg cap100 s).1).toList == s.toList) = false := by rw [str_eq]; exact decide_eq_false e3
        simp only [t0, t4, l2, l5, cc, e2, hpk, rd_chk r8.at_, rd_ld2 r8.at_, e1, e4, e3, go_sem]
        rw [finish_flat rfl hpg8, hR]
        exact ⟨List.prefix_refl _, nilV, nilV, nilV, nilV, rfl, Own.nil, Own.nil, Own.nil, OwnG.nil⟩
      · rw [if_neg e2] at cc
        simp only [t0, t4, l2, l5, cc, e2, hpk, rd_chk r8.at_, rd_ld2 r8.at_, e1, go_sem]
        rw [finish_flat rfl hpg8, hR]
        exact ⟨List.prefix_refl _, nilV, nilV, nilV, nilV, rfl, Own.nil, Own.nil, Own.nil, OwnG.nil⟩
end
end Go.Proofs.YtgmljppiiighmaaGreatDoor.Ab
set_option linter.unusedSimpArgs false
set_option linter.unusedVariables false
set_option linter.unnecessarySimpa false
set_option maxHeartbeats 4000000
namespace Go.Proofs.YtgmljppiiighmaaGreatDoor.Ab
open Go.RowKit
/-- What an entry says, as the reference asks. -/
def EntS (m : List Pr) (R : Nat) (p : Pr) : Prop := IdOk R p ∨ LinkS m p ∨ (∃ r, r < R ∧ p.k = qK r) ∨ ∃ r i, r < R ∧ i < 100 ∧ p.k = rK r i
section
variable {m : List Pr} {R : Nat} {p : Pr}
theorem entS_v (h : byt p.k 0 = 118) : EntS m R p ↔ IdOk R p := by
  refine ⟨fun k => ?_, .inl⟩
  rcases k with k | ⟨a, b, _, _, k, _⟩ | ⟨r, _, k⟩ | ⟨r, i, _, _, k⟩
  · exact k
  · rw [k, eK_0] at h; omega
  · rw [k, qK_0] at h; omega
  · rw [k, rK_0] at h; omega
theorem entS_e (h : byt p.k 0 = 101) : EntS m R p ↔ LinkS m p := by
  refine ⟨fun k => ?_, fun k => .inr (.inl k)⟩
  rcases k with ⟨i, _, k, _⟩ | k | ⟨r, _, k⟩ | ⟨r, i, _, _, k⟩
  · rw [k, vK_0] at h; omega
  · exact k
  · rw [k, qK_0] at h; omega
  · rw [k, rK_0] at h; omega
theorem entS_q (h : byt p.k 0 = 113) : EntS m R p ↔ ∃ r, r < R ∧ p.k = qK r ∧ True := by
  refine ⟨fun k => ?_, fun ⟨r, h1, h2, _⟩ => .inr (.inr (.inl ⟨r, h1, h2⟩))⟩
  rcases k with ⟨i, _, k, _⟩ | ⟨a, b, _, _, k, _⟩ | ⟨r, h1, h2⟩ | ⟨r, i, _, _, k⟩
  · rw [k, vK_0] at h; omega
  · rw [k, eK_0] at h; omega
  · exact ⟨r, h1, h2, trivial⟩
  · rw [k, rK_0] at h; omega
theorem entS_r (h : byt p.k 0 = 114) : EntS m R p ↔ ∃ r i, r < R ∧ i < 100 ∧ p.k = rK r i ∧ True := by
  refine ⟨fun k => ?_, fun ⟨r, i, h1, h2, h3, _⟩ => .inr (.inr (.inr ⟨r, i, h1, h2, h3⟩))⟩
  rcases k with ⟨i, _, k, _⟩ | ⟨a, b, _, _, k, _⟩ | ⟨r, _, k⟩ | ⟨r, i, h1, h2, h3⟩
  · rw [k, vK_0] at h; omega
  · rw [k, eK_0] at h; omega
  · rw [k, qK_0] at h; omega
  · exact ⟨r, i, h1, h2, h3, trivial⟩
theorem entS_size (hR : R ≤ 6) (h : EntS m R p) : (p.k.size = 3 ∧ (byt p.k 0 = 118 ∨ byt p.k 0 = 113)) ∨ (p.k.size = 5 ∧ (byt p.k 0 = 101 ∨ byt p.k 0 = 114)) := by
  rcases h with ⟨i, h1, k, _⟩ | ⟨a, b, h1, h2, k, _⟩ | ⟨r, h1, k⟩ | ⟨r, i, h1, h2, k⟩
  · rw [k]; exact .inl ⟨vK_size (by omega), .inl vK_0⟩
  · rw [k]; exact .inr ⟨eK_size (by omega) h2, .inl eK_0⟩
  · rw [k]; exact .inl ⟨qK_size (by omega), .inr qK_0⟩
  · rw [k]; exact .inr ⟨rK_size (by omega) h2, .inr rK_0⟩
theorem vK_read {k : ByteArray} {a : Nat} (h : rdTwo k = some a) : k = twoT a := by
  have hs : k.size = 2 := by unfold rdTwo at h; split at h; · rename_i q; exact q.1
                             · cases h
  have h0 : (strOfNums [((118 : Nat) : Int)] ++ k).size = 3 := by rw [ByteArray.size_append, hs, strOfNums_size]; rfl
  have ht : (strOfNums [((118 : Nat) : Int)] ++ k).extract 1 (strOfNums [((118 : Nat) : Int)] ++ k).size = k := by
    apply ByteArray.ext
    apply Array.toList_inj.1
    rw [ByteArray.data_extract, Array.toList_extract, h0, ByteArray.data_append, Array.toList_append, strOfNums_data]
    have : k.data.toList.length = 2 := by simpa using hs
    simp
    exact List.take_of_length_le (by omega)
  have hb : byt (strOfNums [((118 : Nat) : Int)] ++ k) 0 = 118 := by
    unfold byt
    rw [ByteArray.data_append, Array.toList_append, strOfNums_data]
    rfl
  have := (kv1 (i := a) (by omega) hb).1 (by rw [ht]; exact h)
  have e := congrArg (fun s : ByteArray => s.extract 1 s.size) this.1
  simp only [ht] at e
  rw [e]
  exact ext_tail
end
section
variable {X : CallF} {h : Heap} {m : List Pr} {mv : Value} {R : Nat} {p : Pr}
theorem k_spec_l13KeyOk (hm : Rows h 2 mv (prsL m)) (hl : m.length ≤ lim) (hR6 : R ≤ 6) (hk : 1 ≤ p.k.size) (hv : p.v.size ≤ 40) : C T X n_spec_l13KeyOk [mv, .agg ⟨[.string p.k, .string p.v]⟩, .int .i64 (R : Int)] h = some (.bool (tB (EntS m R p)), h) := by
  refine C_go t_spec_l13KeyOk rfl ?_
  unfold F_spec_l13KeyOk
  have e0 : ixV (.string p.k) (.int .i64 0) = some (.int .u8 (byt p.k 0 : Nat)) := ix_byt (i := 0) (by omega)
  have hsz := entS_size (m := m) (p := p) hR6
  by_cases d3 : (p.k.size : Int) = 3
  · have d5 : ¬ (p.k.size : Int) = 5 := by omega
    have f1 : slSV (.string p.k) (some (.int .i64 1)) none = some (.string (p.k.extract 1 p.k.size)) := sl_from (a := 1) hk
    have h2 := k_spec_l13Num (X := X) (h := h) (s := p.k.extract 1 p.k.size)
    by_cases b1 : ((byt p.k 0 : Nat) : Int) = 118
    · have h0 : byt p.k 0 = 118 := by omega
      rw [tB_iff (entS_v h0)]
      cases e : rdTwo (p.k.extract 1 p.k.size) with
      | none =>
        rw [twoV_none e] at h2
        simp only [f1, h2, d3, e0, b1, zeros, fillAt, go_sem]
        exact (tB_f (id_none hk h0 e)).symm
      | some i =>
        rw [twoV_some e] at h2
        rw [tB_iff (id_some hk h0 e)]
        by_cases c1 : (i : Int) ≥ 12
        · simp only [f1, h2, d3, e0, b1, c1, zeros, fillAt, go_sem]
          exact (tB_f fun k => by have := k.1; omega).symm
        by_cases c3 : p.v = aT
        · have c3' : (p.v.toList == ByteArray.toList ⟨⟨[97]⟩⟩) = true := by rw [str_eq]; exact decide_eq_true c3
          simp only [f1, h2, d3, e0, b1, c1, c3', zeros, fillAt, go_sem]
          exact (tB_t ⟨by omega, .inl c3⟩).symm
        have c3' : (p.v.toList == ByteArray.toList ⟨⟨[97]⟩⟩) = false := by rw [str_eq]; exact decide_eq_false c3
        by_cases c4 : p.v = lT
        · have c4' : (p.v.toList == ByteArray.toList ⟨⟨[108]⟩⟩) = true := by rw [str_eq]; exact decide_eq_true c4
          simp only [f1, h2, d3, e0, b1, c1, c3', c4', zeros, fillAt, go_sem]
          exact (tB_t ⟨by omega, .inr (.inl c4)⟩).symm
        have c4' : (p.v.toList == ByteArray.toList ⟨⟨[108]⟩⟩) = false := by rw [str_eq]; exact decide_eq_false c4
        have badp : ¬ (∃ r, r < R ∧ p.v = pT r) → tB (i < 12 ∧ (p.v = aT ∨ p.v = lT ∨ ∃ r, r < R ∧ p.v = pT r)) = false := fun hb => tB_f fun k => by
          rcases k.2 with k | k | k
          · exact c3 k
          · exact c4 k
          · exact hb k
        by_cases c5 : (p.v.size : Int) < 2
        · simp only [f1, h2, d3, e0, b1, c1, c3', c4', c5, zeros, fillAt, go_sem]
          refine (badp ?_).symm
          rintro ⟨r, _, k⟩
          have h1 := decL_pos r
          rw [k] at c5
          unfold pT at c5
          rw [strOfNums_size, List.length_cons] at c5
          omega
        have v1 : 1 ≤ p.v.size := by omega
        have f2 : slSV (.string p.v) (some (.int .i64 1)) none = some (.string (p.v.extract 1 p.v.size)) := sl_from (a := 1) v1
        have e2 : ixV (.string p.v) (.int .i64 0) = some (.int .u8 (byt p.v 0 : Nat)) := ix_byt (i := 0) (by omega)
        have h3 := k_spec_ReadDecimal (X := X) (h := h) (s := p.v.extract 1 p.v.size)
        have hp := pT_iff (v := p.v) (R := R) hR6 v1
        have bad : ¬ (byt p.v 0 = 112 ∧ ∃ n, rdDec (p.v.extract 1 p.v.size) = some n ∧ n < R) → tB (i < 12 ∧ (p.v = aT ∨ p.v = lT ∨ ∃ r, r < R ∧ p.v = pT r)) = false := fun hb => badp fun k => hb (hp.1 k)
        by_cases c6 : ((byt p.v 0 : Nat) : Int) = 112
        rotate_left
        · simp only [f1, f2, h2, d3, e0, e2, b1, c1, c3', c4', c5, c6, zeros, fillAt, go_sem]
          exact (bad (by omega)).symm
        cases e5 : rdDec (p.v.extract 1 p.v.size) with
        | none =>
          unfold dcN dcB at h3
          rw [e5] at h3
          simp only [f1, f2, h2, h3, d3, e0, e2, b1, c1, c3', c4', c5, c6, Option.getD_none, Option.isSome_none, zeros, fillAt, go_sem]
          exact (bad (by rw [e5]; rintro ⟨_, n, k, _⟩; cases k)).symm
        | some n =>
          unfold dcN dcB at h3
          rw [e5] at h3
          by_cases c7 : (n : Int) < R
          · simp only [f1, f2, h2, h3, d3, e0, e2, b1, c1, c3', c4', c5, c6, c7, Option.getD_some, Option.isSome_some, zeros, fillAt, go_sem]
            exact (tB_t ⟨by omega, .inr (.inr (hp.2 ⟨by omega, n, e5, by omega⟩))⟩).symm
          · simp only [f1, f2, h2, h3, d3, e0, e2, b1, c1, c3', c4', c5, c6, c7, Option.getD_some, Option.isSome_some, zeros, fillAt, go_sem]
            exact (bad (by rw [e5]; rintro ⟨_, n', k, k2⟩; cases k; omega)).symm
    by_cases b3 : ((byt p.k 0 : Nat) : Int) = 113
    · have h0 : byt p.k 0 = 113 := by omega
      rw [tB_iff (entS_q h0)]
      cases e : rdTwo (p.k.extract 1 p.k.size) with
      | none =>
        rw [twoV_none e] at h2
        simp only [f1, h2, d3, d5, e0, b1, b3, zeros, fillAt, go_sem]
        exact (tB_f fun ⟨r, k1, k2⟩ => q_none (R := R) (P := fun _ => True) (by omega) hk h0 e ⟨r, k1, k2, trivial⟩).symm
      | some i =>
        rw [twoV_some e] at h2
        rw [tB_iff (q_some (P := fun _ => True) hk h0 e)]
        by_cases c1 : (i : Int) < R
        · simp only [f1, h2, d3, d5, e0, b1, b3, c1, zeros, fillAt, go_sem]
          exact (tB_t (by omega)).symm
        · simp only [f1, h2, d3, d5, e0, b1, b3, c1, zeros, fillAt, go_sem]
          exact (tB_f (by omega)).symm
    · simp only [d3, d5, e0, b1, b3, zeros, fillAt, go_sem]
      exact (tB_f fun k => by have := hsz k; omega).symm
  by_cases d5 : (p.k.size : Int) = 5
  rotate_left
  · simp only [d3, d5, zeros, fillAt, go_sem]
    exact (tB_f fun k => by have := hsz k; omega).symm
  have hk5 : p.k.size = 5 := by omega
  have f1 : slSV (.string p.k) (some (.int .i64 1)) (some (.int .i64 3)) = some (.string (p.k.extract 1 3)) := sl_mid (a := 1) (b := 3) (by omega) (by omega)
  have f2 : slSV (.string p.k) (some (.int .i64 3)) none = some (.string (p.k.extract 3 5)) := by rw [← hk5]; exact sl_from (a := 3) (by omega)
  have h2 := k_spec_l13Num (X := X) (h := h) (s := p.k.extract 1 3)
  have h3 := k_spec_l13Num (X := X) (h := h) (s := p.k.extract 3 5)
  by_cases b1 : ((byt p.k 0 : Nat) : Int) = 101
  · have h0 : byt p.k 0 = 101 := by omega
    rw [tB_iff (entS_e h0)]
    cases ea : rdTwo (p.k.extract 1 3) with
    | none =>
      have bad := tB_f (linkS_none (m := m) hk5 h0 (.inl ea))
      rw [twoV_none ea] at h2
      cases eb : rdTwo (p.k.extract 3 5) with
      | none =>
        rw [twoV_none eb] at h3
        simp only [f1, f2, h2, h3, d3, d5, e0, b1, zeros, fillAt, go_sem]
        exact bad.symm
      | some b =>
        rw [twoV_some eb] at h3
        simp only [f1, f2, h2, h3, d3, d5, e0, b1, zeros, fillAt, go_sem]
        exact bad.symm
    | some a =>
      rw [twoV_some ea] at h2
      cases eb : rdTwo (p.k.extract 3 5) with
      | none =>
        have bad := tB_f (linkS_none (m := m) hk5 h0 (.inr eb))
        rw [twoV_none eb] at h3
        simp only [f1, f2, h2, h3, d3, d5, e0, b1, zeros, fillAt, go_sem]
        exact bad.symm
      | some b =>
        rw [twoV_some eb] at h3
        rw [tB_iff (linkS_some (m := m) hk5 h0 ea eb)]
        by_cases c1 : (a : Int) ≥ b
        · simp only [f1, f2, h2, h3, d3, d5, e0, b1, c1, zeros, fillAt, go_sem]
          exact (tB_f fun k => by have := k.1; omega).symm
        by_cases d2 : (p.v.size : Int) = 3
        rotate_left
        · simp only [f1, f2, h2, h3, d3, d5, e0, b1, c1, d2, zeros, fillAt, go_sem]
          exact (tB_f fun k => by have := k.2.1.1; omega).symm
        have ka : (⟨⟨[118]⟩⟩ : ByteArray) ++ p.k.extract 1 3 = vK a := by rw [vK_read ea]; exact vK_app
        have kb : (⟨⟨[118]⟩⟩ : ByteArray) ++ p.k.extract 3 5 = vK b := by rw [vK_read eb]; exact vK_app
        have za : (⟨[118]⟩ : Array UInt8).size + (p.k.extract 1 3).size ≤ 9223372036854775807 := by rw [asz, ByteArray.size_extract]; omega
        have zb : (⟨[118]⟩ : Array UInt8).size + (p.k.extract 3 5).size ≤ 9223372036854775807 := by rw [asz, ByteArray.size_extract]; omega
        have ga := k_spec_l13Get (X := X) (k := vK a) hm hl
        have gb := k_spec_l13Get (X := X) (k := vK b) hm hl
        unfold getV at ga gb
        have e3 : ixV (.string p.v) (.int .i64 0) = some (.int .u8 (byt p.v 0 : Nat)) := ix_byt (i := 0) (by omega)
        have e1 : ixV (.string p.v) (.int .i64 1) = some (.int .u8 (byt p.v 1 : Nat)) := ix_byt (i := 1) (by omega)
        have e2 : ixV (.string p.v) (.int .i64 2) = some (.int .u8 (byt p.v 2 : Nat)) := ix_byt (i := 2) (by omega)
        have b0 := byt_lt (s := p.v) (i := 0)
        have b1' := byt_lt (s := p.v) (i := 1)
        have b2 := byt_lt (s := p.v) (i := 2)
        have w0 : IntKind.i64.wrap ((byt p.v 0 : Nat) : Int) = ((byt p.v 0 : Nat) : Int) := w64 (by omega) (by omega)
        have w1 : IntKind.i64.wrap ((byt p.v 1 : Nat) : Int) = ((byt p.v 1 : Nat) : Int) := w64 (by omega) (by omega)
        have w2 : IntKind.i64.wrap ((byt p.v 2 : Nat) : Int) = ((byt p.v 2 : Nat) : Int) := w64 (by omega) (by omega)
        cases ga2 : (getK m (vK a)).isSome with
        | false =>
          rw [ga2] at ga
          simp only [f1, f2, h2, h3, d3, d5, e0, b1, c1, d2, ka, kb, za, zb, ga, gb, e3, e1, e2, w0, w1, w2, zeros, fillAt, go_sem]
          exact (tB_f fun k => k).symm
        | true =>
          rw [ga2] at ga
          cases gb2 : (getK m (vK b)).isSome with
          | false =>
            rw [gb2] at gb
            simp only [f1, f2, h2, h3, d3, d5, e0, b1, c1, d2, ka, kb, za, zb, ga, gb, e3, e1, e2, w0, w1, w2, zeros, fillAt, go_sem]
            exact (tB_f fun k => k).symm
          | true =>
            rw [gb2] at gb
            have good : (byt p.v 0 ≤ 50 ∧ byt p.v 1 ≤ 50 ∧ byt p.v 2 ≤ 50) ↔ (a < b ∧ Worths p.v ∧ true = true ∧ true = true) := by
              constructor
              · rintro ⟨w0, w1, w2⟩
                refine ⟨by omega, ⟨by omega, fun i hi => ?_⟩, rfl, rfl⟩
                rcases i with _ | _ | _ | i
                · exact w0
                · exact w1
                · exact w2
                · omega
              · rintro ⟨_, w, _, _⟩
                exact ⟨w.2 0 (by omega), w.2 1 (by omega), w.2 2 (by omega)⟩
            rw [← tB_iff good]
            by_cases y0 : ((byt p.v 0 : Nat) : Int) ≤ 50
            rotate_left
            · simp only [f1, f2, h2, h3, d3, d5, e0, b1, c1, d2, ka, kb, za, zb, ga, gb, e3, e1, e2, w0, w1, w2, y0, zeros, fillAt, go_sem]
              exact (tB_f (by omega)).symm
            by_cases y1 : ((byt p.v 1 : Nat) : Int) ≤ 50
            rotate_left
            · simp only [f1, f2, h2, h3, d3, d5, e0, b1, c1, d2, ka, kb, za, zb, ga, gb, e3, e1, e2, w0, w1, w2, y0, y1, zeros, fillAt, go_sem]
              exact (tB_f (by omega)).symm
            by_cases y2 : ((byt p.v 2 : Nat) : Int) ≤ 50
            · simp only [f1, f2, h2, h3, d3, d5, e0, b1, c1, d2, ka, kb, za, zb, ga, gb, e3, e1, e2, w0, w1, w2, y0, y1, y2, zeros, fillAt, go_sem]
              exact (tB_t (by omega)).symm
            · simp only [f1, f2, h2, h3, d3, d5, e0, b1, c1, d2, ka, kb, za, zb, ga, gb, e3, e1, e2, w0, w1, w2, y0, y1, y2, zeros, fillAt, go_sem]
              exact (tB_f (by omega)).symm
  by_cases b2 : ((byt p.k 0 : Nat) : Int) = 114
  rotate_left
  · simp only [d3, d5, e0, b1, b2, zeros, fillAt, go_sem]
    exact (tB_f fun k => by have := hsz k; omega).symm
  have h0 : byt p.k 0 = 114 := by omega
  rw [tB_iff (entS_r h0)]
  cases ea : rdTwo (p.k.extract 1 3) with
  | none =>
    have bad : tB (∃ r i, r < R ∧ i < 100 ∧ p.k = rK r i) = false := tB_f fun ⟨r, i, k1, k2, k3⟩ => r_none (R := R) (P := fun _ _ => True) (by omega) hk5 h0 (.inl ea) ⟨r, i, k1, k2, k3, trivial⟩
    rw [twoV_none ea] at h2
    cases eb : rdTwo (p.k.extract 3 5) with
    | none =>
      rw [twoV_none eb] at h3
      simp only [f1, f2, h2, h3, d3, d5, e0, b1, b2, zeros, fillAt, go_sem]
      exact bad.symm
    | some b =>
      rw [twoV_some eb] at h3
      simp only [f1, f2, h2, h3, d3, d5, e0, b1, b2, zeros, fillAt, go_sem]
      exact bad.symm
  | some a =>
    rw [twoV_some ea] at h2
    cases eb : rdTwo (p.k.extract 3 5) with
    | none =>
      have bad : tB (∃ r i, r < R ∧ i < 100 ∧ p.k = rK r i) = false := tB_f fun ⟨r, i, k1, k2, k3⟩ => r_none (R := R) (P := fun _ _ => True) (by omega) hk5 h0 (.inr eb) ⟨r, i, k1, k2, k3, trivial⟩
      rw [twoV_none eb] at h3
      simp only [f1, f2, h2, h3, d3, d5, e0, b1, b2, zeros, fillAt, go_sem]
      exact bad.symm
    | some b =>
      rw [twoV_some eb] at h3
      rw [tB_iff (r_some (R := R) (P := fun _ _ => True) (by omega) hk5 h0 ea eb)]
      by_cases c1 : (a : Int) < R
      · simp only [f1, f2, h2, h3, d3, d5, e0, b1, b2, c1, zeros, fillAt, go_sem]
        exact (tB_t (by omega)).symm
      · simp only [f1, f2, h2, h3, d3, d5, e0, b1, b2, c1, zeros, fillAt, go_sem]
        exact (tB_f (by omega)).symm
end
end Go.Proofs.YtgmljppiiighmaaGreatDoor.Ab
set_option linter.unusedSimpArgs false
set_option linter.unusedVariables false
set_option linter.unnecessarySimpa false
set_option maxHeartbeats 4000000
namespace Go.Proofs.YtgmljppiiighmaaGreatDoor.Ab
open Go.RowKit
theorem cut_len : ∀ (k : Nat) (s : ByteArray), s.size < k → (cut s).length ≤ s.size
  | 0, s, h => by omega
  | k + 1, s, h => by
    by_cases c : 40 < s.size
    · have e : (s.extract 40 s.size).size = s.size - 40 := by rw [ByteArray.size_extract]; omega
      have := cut_len k (s.extract 40 s.size) (by omega)
      rw [cut_big c, List.length_cons]
      omega
    · by_cases c0 : s.size = 0
      · rw [cut_none c0]; exact Nat.zero_le _
      · rw [cut_small c c0]; simp; omega
theorem textS_le {m : List Pr} (hs : ∀ p ∈ m, p.v.size ≤ 40) {r : Nat} : (textS m r).size ≤ 40 * m.length := textS_size hs
theorem bytL_get {v : ByteArray} {i : Nat} (hi : i < v.size) : (bytL v).getD i 0 = ((byt v i : Nat) : Int) := by simp [bytL, hi]
section
variable {X : CallF} {h : Heap} {m : List Pr} {mv : Value} {R : Nat} {p : Pr} {v : ByteArray}
theorem k_spec_l13RoundOk {r : Nat} (hr : r ≤ 1000000000) (hv : getK m (qK r) = some v) (hs : ∀ p ∈ m, p.v.size ≤ 40) (hm : Rows h 2 mv (prsL m)) (hl : m.length ≤ 10000) : C T X n_spec_l13RoundOk [mv, .int .i64 (r : Int)] h = some (.bool (tB (RoundS cfR m r)), h) := by
  have hll : m.length ≤ lim := by unfold lim; omega
  refine C_go t_spec_l13RoundOk rfl ?_
  unfold F_spec_l13RoundOk
  obtain ⟨v5, h1, c5, p1, o5⟩ := k_spec_l13Pool (X := X) hr hs hm hll
  rw [hv, Option.getD_some] at o5
  have vs : v.size ≤ 40 := by have := getK_size hs (k := qK r); rw [hv] at this; exact this
  have hln : lnV h1 v5 = some (.int .i64 (v.size : Int)) := by have := o5.rows.lnm; rwa [bytL_len] at this
  have vv : ∀ {w}, getK m (qK r) = some w → w = v := fun k => by rw [hv] at k; exact (Option.some.inj k).symm
  by_cases c2 : (v.size : Int) > 9
  · simp only [c5, hln, c2, go_sem]
    rw [tB_f fun k => by obtain ⟨w, k1, k2, _⟩ := k; have := k2.1; rw [vv k1] at this; omega]
    exact finish_flat rfl p1
  simp only [c5, hln, c2, go_sem]
  refine w_for v.size (fun i t loc h' => h' = h1 ∧ t 0 = mv ∧ t 1 = .int .i64 (r : Int) ∧ t 5 = v5 ∧ t 6 = .int .i64 (i : Int) ∧ ∀ j, j < i → poolAt m v j) ⟨rfl, rfl, rfl, rfl, rfl, fun j hj => by omega⟩ ?_
  rintro i t loc h' hi ⟨rfl, t0, t1, t5, t6, hj⟩
  simp only [t0, t1, t5, t6, hln, go_sem]
  refine w_open (by simp only [go_sem]; rfl) ?_ ?_ <;> intro hc
  · have hi1 : i < v.size := by omega
    have hw : IntKind.i64.wrap ((i : Int) + 1) = ((i + 1 : Nat) : Int) := w64 (by omega) (by omega)
    have bad : ¬ poolAt m v i → tB (RoundS cfR m r) = false := fun hb => tB_f fun k => by
      obtain ⟨w, k1, k2, _⟩ := k
      rw [vv k1] at k2
      exact hb (k2.2 i hi1)
    have el := o5.rows.el (f := fun n => [.int .i64 n]) (0 : Int) (i := i) (by rw [bytL_len]; exact hi1)
    have cl := o5.rows.cell (f := fun n => [.int .i64 n]) (0 : Int) (i := i) (o := 0) (by rw [bytL_len]; exact hi1) (by omega)
    rw [bytL_get hi1] at el cl
    have k0 : ldC h' (elemP v5 1 i 0) 1 = some [.int .i64 ((byt v i : Nat) : Int)] := cl
    have b0 := byt_lt (s := v) (i := i)
    have h2 := k_spec_l13Two (X := X) (h := h') (n := byt v i) (by omega)
    have hz := twoT_size (n := byt v i) (by omega)
    have hz1 : (⟨[118]⟩ : Array UInt8).size + (twoT (byt v i)).size ≤ 9223372036854775807 := by rw [asz]; omega
    have hg := k_spec_l13Get (X := X) (k := vK (byt v i)) (hm.up p1) hll
    unfold getV at hg
    by_cases c3 : ((byt v i : Nat) : Int) ≥ 12
    · simp only [t0, t1, t5, t6, el.1, k0, h2, vK_app, hz1, hg, c3, go_sem]
      rw [bad fun k => by have := k.1.1; omega]
      exact finish_flat rfl p1
    cases c4 : (getK m (vK (byt v i))).isSome with
    | false =>
      rw [c4] at hg
      simp only [t0, t1, t5, t6, el.1, k0, h2, vK_app, hz1, hg, c3, go_sem]
      rw [bad fun k => by have := k.1.2; rw [c4] at this; cases this]
      exact finish_flat rfl p1
    | true =>
      rw [c4] at hg
      have jn : Jn m (byt v i) := ⟨by omega, c4⟩
      by_cases c6 : (i : Int) > 0
      rotate_left
      · simp only [t0, t1, t5, t6, el.1, k0, h2, vK_app, hz1, hg, c3, c6, hw, go_sem]
        refine ⟨hi1, fun j hj' => ?_⟩
        by_cases e : j = i
        · rw [e]; exact ⟨jn, fun q => by omega⟩
        · exact hj j (by omega)
      have hw' : IntKind.i64.wrap ((i : Int) - 1) = ((i - 1 : Nat) : Int) := by rw [w64 (by omega) (by omega)]; omega
      have el' := o5.rows.el (f := fun n => [.int .i64 n]) (0 : Int) (i := i - 1) (by rw [bytL_len]; omega)
      have cl' := o5.rows.cell (f := fun n => [.int .i64 n]) (0 : Int) (i := i - 1) (o := 0) (by rw [bytL_len]; omega) (by omega)
      rw [bytL_get (by omega)] at el' cl'
      have k1 : ldC h' (elemP v5 1 (i - 1) 0) 1 = some [.int .i64 ((byt v (i - 1) : Nat) : Int)] := cl'
      by_cases c7 : ((byt v (i - 1) : Nat) : Int) ≥ ((byt v i : Nat) : Int)
      · simp only [t0, t1, t5, t6, el.1, el'.1, k0, k1, h2, vK_app, hz1, hg, c3, c6, c7, hw', go_sem]
        rw [bad fun k => by have := k.2 (by omega); omega]
        exact finish_flat rfl p1
      · simp only [t0, t1, t5, t6, el.1, el'.1, k0, k1, h2, vK_app, hz1, hg, c3, c6, c7, hw, hw', go_sem]
        refine ⟨hi1, fun j hj' => ?_⟩
        by_cases e : j = i
        · rw [e]; exact ⟨jn, fun q => by omega⟩
        · exact hj j (by omega)
  have hpool : PoolIs m v := ⟨by omega, fun j hj' => hj j (by omega)⟩
  have ht := k_spec_l13Text (X := X) hr hs (hm.up p1) (by omega)
  have s1 := textS_le hs (r := r)
  obtain ⟨tx, htx⟩ : ∃ tx, tx = textS m r := ⟨_, rfl⟩
  rw [← htx] at ht s1
  obtain ⟨v7, h7, c7, p7, o7⟩ := k_spec_CertParts (X := X) (h := h') (s0 := tx) (by omega)
  have hln7 : lnV h7 v7 = some (.int .i64 ((cut tx).length : Int)) := o7.rows.lnm
  have cl7 := cut_len (tx.size + 1) tx (by omega)
  have hp7 := p1.trans p7
  have hln5 : lnV h7 v5 = some (.int .i64 (v.size : Int)) := by have := (o5.up p7).rows.lnm; rwa [bytL_len] at this
  have badP : ¬ (∀ i, i < (cut tx).length → i ≤ 99 ∧ getK m (rK r i) = some ((cut tx).getD i noT)) → tB (RoundS cfR m r) = false := fun hb => tB_f fun k => by
    obtain ⟨w, k1, k2, k3, k4, k5⟩ := k
    rw [← htx] at k3
    exact hb k3
  simp only [t0, t1, t5, ht, c7, hln7, zeros, fillAt, go_sem]
  refine w_for (cut tx).length (fun i t loc h' => h' = h7 ∧ t 0 = mv ∧ t 1 = .int .i64 (r : Int) ∧ t 5 = v5 ∧ t 9 = .string tx ∧ t 10 = v7 ∧ t 11 = .int .i64 (i : Int) ∧ ∀ j, j < i → j ≤ 99 ∧ getK m (rK r j) = some ((cut tx).getD j noT)) ⟨rfl, rfl, rfl, rfl, rfl, rfl, rfl, fun j hj => by omega⟩ ?_
  clear t0 t1 t5 t6
  rintro i2 t2 loc2 h8 hi2 ⟨rfl, t0, t1, t5, t9, t10, t11, hj2⟩
  have hz := twoT_size (n := r) (by omega)
  have hz1 : (⟨[114]⟩ : Array UInt8).size + (twoT r).size ≤ 9223372036854775807 := by rw [asz]; omega
  have hz2 := r3_size (r := r) (by omega)
  have h22 := k_spec_l13Two (X := X) (h := h8) (n := r) (by omega)
  simp only [t0, t1, t5, t9, t10, t11, hln7, go_sem]
  refine w_open (by simp only [go_sem]; rfl) ?_ ?_ <;> intro hc2
  · have hi3 : i2 < (cut tx).length := by omega
    have hw : IntKind.i64.wrap ((i2 : Int) + 1) = ((i2 + 1 : Nat) : Int) := w64 (by omega) (by omega)
    have h23 := k_spec_l13Two (X := X) (h := h8) (n := i2) (by omega)
    have hz' := twoT_size (n := i2) (by omega)
    have hz3 : (strOfNums (114 :: twoL r)).size + (twoT i2).size ≤ 9223372036854775807 := by omega
    have hg := k_spec_l13Get (X := X) (k := rK r i2) (hm.up hp7) hll
    unfold getV at hg
    have el := o7.rows.el (f := txR) noT (i := i2) (by omega)
    have cl := o7.rows.cell (f := txR) noT (i := i2) (o := 0) (by omega) (by omega)
    obtain ⟨q, hq⟩ : ∃ q, q = (cut tx).getD i2 noT := ⟨_, rfl⟩
    rw [← hq] at el cl
    have k0 : ldC h8 (elemP v7 1 i2 0) 1 = some [.string q] := cl
    by_cases c9 : (i2 : Int) > 99
    · simp only [t0, t1, t5, t9, t10, t11, el.1, k0, h22, h23, hz1, r3_app, hz3, rK_app', hg, c9, go_sem]
      rw [badP fun k => by have := (k i2 hi3).1; omega]
      exact finish_flat rfl hp7
    cases c10 : getK m (rK r i2) with
    | none =>
      rw [c10] at hg
      simp only [t0, t1, t5, t9, t10, t11, el.1, k0, h22, h23, hz1, r3_app, hz3, rK_app', hg, c9, Option.getD_none, Option.isSome_none, go_sem]
      rw [badP fun k => by have := (k i2 hi3).2; rw [c10] at this; cases this]
      exact finish_flat rfl hp7
    | some u =>
      rw [c10] at hg
      by_cases c11 : u = q
      · have c11' : (u.toList == q.toList) = true := by rw [str_eq]; exact decide_eq_true c11
        simp only [t0, t1, t5, t9, t10, t11, el.1, k0, h22, h23, hz1, r3_app, hz3, rK_app', hg, c9, c11', hw, Option.getD_some, Option.isSome_some, go_sem]
        refine ⟨hi3, fun j hj' => ?_⟩
        by_cases e : j = i2
        · rw [e, ← hq, c10, c11]; exact ⟨by omega, rfl⟩
        · exact hj2 j (by omega)
      · have c11' : (u.toList == q.toList) = false := by rw [str_eq]; exact decide_eq_false c11
        simp only [t0, t1, t5, t9, t10, t11, el.1, k0, h22, h23, hz1, r3_app, hz3, rK_app', hg, c9, c11', Option.getD_some, Option.isSome_some, go_sem]
        rw [badP fun k => by have := (k i2 hi3).2; rw [c10, ← hq] at this; exact c11 (Option.some.inj this)]
        exact finish_flat rfl hp7
  have hin : i2 = (cut tx).length := by omega
  have hall : ∀ i, i < (cut tx).length → i ≤ 99 ∧ getK m (rK r i) = some ((cut tx).getD i noT) := fun i hi => hj2 i (by omega)
  have h23 := k_spec_l13Two (X := X) (h := h8) (n := (cut tx).length) (by omega)
  have hz' := twoT_size (n := (cut tx).length) (by omega)
  have hz3 : (strOfNums (114 :: twoL r)).size + (twoT (cut tx).length).size ≤ 9223372036854775807 := by omega
  have hg := k_spec_l13Get (X := X) (k := rK r (cut tx).length) (hm.up hp7) hll
  unfold getV at hg
  obtain ⟨v12, h12, c12, p12, ew, mw, yw, gw, rfl, -⟩ := k_spec_ReadCert (X := X) (h := h8) (s := tx) (by omega)
  rw [rd_same] at c12
  unfold certV at c12
  have hp12 := hp7.trans p12
  have hln5' : lnV h12 v5 = some (.int .i64 (v.size : Int)) := by have := ((o5.up p7).up p12).rows.lnm; rwa [bytL_len] at this
  have badE : ¬ (getK m (rK r (cut tx).length) = none ∧ cfR tx v.size) → tB (RoundS cfR m r) = false := fun hb => tB_f fun k => by
    obtain ⟨w, k1, k2, k3, k4, k5⟩ := k
    rw [vv k1] at k5
    rw [← htx] at k4 k5
    exact hb ⟨k4, k5⟩
  cases c13 : (rdI tx).ok with
  | false =>
    rw [c13] at c12
    simp only [t0, t1, t5, t9, t10, hln7, h22, h23, hz1, r3_app, hz3, rK_app', hg, c12, hln5', zeros, fillAt, go_sem]
    rw [badE fun k => by have := k.2.1; rw [c13] at this; cases this]
    exact finish_flat rfl hp12
  | true =>
    rw [c13] at c12
    cases c14 : (getK m (rK r (cut tx).length)).isSome with
    | true =>
      rw [c14] at hg
      simp only [t0, t1, t5, t9, t10, hln7, h22, h23, hz1, r3_app, hz3, rK_app', hg, c12, hln5', zeros, fillAt, go_sem]
      rw [badE fun k => by rw [k.1] at c14; cases c14]
      exact finish_flat rfl hp12
    | false =>
      rw [c14] at hg
      by_cases c15 : (rdI tx).size = (v.size : Int)
      · simp only [t0, t1, t5, t9, t10, hln7, h22, h23, hz1, r3_app, hz3, rK_app', hg, c12, c15, hln5', zeros, fillAt, go_sem]
        rw [tB_t ⟨v, hv, hpool, by rw [← htx]; exact hall, by rw [← htx]; simpa using c14, by rw [← htx]; exact ⟨c13, c15⟩⟩]
        exact finish_flat rfl hp12
      · simp only [t0, t1, t5, t9, t10, hln7, h22, h23, hz1, r3_app, hz3, rK_app', hg, c12, c15, hln5', zeros, fillAt, go_sem]
        rw [badE fun k => c15 k.2.2]
        exact finish_flat rfl hp12
end
end Go.Proofs.YtgmljppiiighmaaGreatDoor.Ab
