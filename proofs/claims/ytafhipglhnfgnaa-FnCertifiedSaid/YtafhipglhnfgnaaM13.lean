/- Joined: K25, S18, S19, P1, P2, P4, P17, K90, K91, K92, K93. No conditions. -/
import Derived.Test.YtafhipglhnfgnaaM12
import Derived.Test.YtafhipglhnfgnaaM10
import Derived.Test.YtafhipglhnfgnaaR7
set_option linter.unusedSimpArgs false
set_option linter.unusedVariables false
set_option linter.unnecessarySimpa false
set_option maxHeartbeats 4000000
namespace Go.Proofs.Ytafhipglhnfgnaa.Ab
open Go.RowKit
def worthL (es : List E) (m : List Cp) : Int := m.foldl (fun s c => s + scalar (es.getD (edgeIx es c.a c.b).toNat e0).w1 (es.getD (edgeIx es c.a c.b).toNat e0).w2 (es.getD (edgeIx es c.a c.b).toNat e0).w3) 0
def scAt (es : List E) (c : Cp) : Int := scalar (es.getD (edgeIx es c.a c.b).toNat e0).w1 (es.getD (edgeIx es c.a c.b).toNat e0).w2 (es.getD (edgeIx es c.a c.b).toNat e0).w3
theorem worthL_take {es : List E} {m : List Cp} {i : Nat} (hi : i < m.length) : worthL es (m.take (i + 1)) = worthL es (m.take i) + scAt es (m.getD i c0) := by
  unfold worthL
  rw [take_getD (d := c0) hi, List.foldl_append]
  rfl
theorem ix_lt {es : List E} {a b : Int} (h : 0 ≤ edgeIx es a b) : ∃ k : Nat, edgeIx es a b = k ∧ k < es.length := by
  unfold edgeIx at *
  rcases firstIx_cases (p := Join a b) e0 es with ⟨h1, _⟩ | ⟨i, h1, h2, _⟩
  · omega
  · exact ⟨i, h1, h2⟩
theorem scAt_bnd {size : Int} {es : List E} {m : List Cp} (g : MOk size es m) {i : Nat} (hi : i < m.length) : 0 ≤ scAt es (m.getD i c0) ∧ scAt es (m.getD i c0) ≤ 5000000 := by
  obtain ⟨k, h1, h2⟩ := ix_lt (g.2 i hi).2.1
  have hE := gok_mem g.1 (getD_mem (d := e0) h2)
  unfold EOk at hE
  unfold scAt
  rw [h1]
  simp only [Int.toNat_natCast]
  unfold scalar
  omega
theorem worthL_bnd {size : Int} {es : List E} {m : List Cp} (g : MOk size es m) : ∀ i, i ≤ m.length → 0 ≤ worthL es (m.take i) ∧ worthL es (m.take i) ≤ 5000000 * i := by
  intro i
  induction i with
  | zero => intro _; simp [worthL]
  | succ i ih =>
    intro hi
    have h1 := ih (by omega)
    have h2 := scAt_bnd g (show i < m.length by omega)
    rw [worthL_take (by omega)]
    omega
def CertOk (size : Int) (es : List E) (m : List Cp) (ys : List Int) (gs : List Gp) : Prop := PfOk size es ys gs ∧ MOk size es m ∧ 2 * worthL es m = weightL ys gs
section
variable {X : CallF} {h : Heap} {v w ev yv gv mv : Value} {ys : List Int} {gs : List Gp} {es : List E} {m : List Cp} {size : Int}
open Classical in
theorem k_impl_Certifies (he : Rows h 5 ev (edges es)) (hm : Rows h 2 mv (cps m)) (hy : Rows h 1 yv (ints ys)) (hg : RowsG h gv gs) (hl : es.length ≤ lim) (hml : m.length ≤ 1048576) (hb : PfBnd ys gs) :
    C T X n_impl_Certifies [graphV size ev, mv, proofV yv gv] h = some (.bool (decide (CertOk size es m ys gs)), h) := by
  have k1 := k_impl_ProofOk (X := X) (size := size) he hy hg hl hb
  have k2 := k_impl_MatchOk (X := X) (size := size) he hm hl hml
  refine C_go t_impl_Certifies rfl ?_
  unfold F_impl_Certifies
  by_cases p : PfOk size es ys gs
  rotate_left
  · have hr : ¬ CertOk size es m ys gs := fun h => p h.1
    unfold graphV proofV at *
    simp only [k1, p, hr, List.prefix_refl, go_sem]
  by_cases g : MOk size es m
  rotate_left
  · have hr : ¬ CertOk size es m ys gs := fun h => g h.2.1
    unfold graphV proofV at *
    simp only [k1, k2, p, g, hr, List.prefix_refl, go_sem]
  have f := pfOk_fit p
  have hwt := weight_bnd f
  have cw := k_impl_weight (X := X) hy hg f fun i hi => (p.2.2.1 i hi).1.1.2.1
  have hwb := worthL_bnd g
  have hgl := mok_len g
  have g11 := g.1.1
  unfold graphV proofV at *
  simp only [k1, k2, p, g, hm.lnm, go_sem]
  refine w_for m.length (fun i t loc h' => h' = h ∧ loc 3 = some [.int .i64 size, ev] ∧ loc 5 = some [yv, gv] ∧ t 7 = .int .i64 (worthL es (m.take i)) ∧ t 20 = mv ∧ t 21 = .int .i64 m.length ∧ t 22 = .int .i64 i) ⟨rfl, rfl, rfl, rfl, rfl, rfl, rfl⟩ ?_
  rintro i t loc h' hi ⟨rfl, l3, l5, t7, t20, t21, t22⟩
  simp only [t21, t22, go_sem]
  refine w_open (by simp only [go_sem]; rfl) ?_ ?_ <;> intro hc
  · have hi1 : i < m.length := by omega
    have hw : IntKind.i64.wrap ((i : Int) + 1) = ((i + 1 : Nat) : Int) := w64 (by omega) (by omega)
    have hel := cp_el hm hi1
    have cat := k_impl_edgeAt (X := X) (size := size) (x := (m.getD i c0).a) (y := (m.getD i c0).b) he hl
    obtain ⟨k, h1, h2⟩ := ix_lt (g.2 i hi1).2.1
    rw [h1] at cat
    have hek := edge_el he h2
    have hWk := eok_w (gok_mem g.1 (getD_mem (d := e0) h2))
    have csc := k_impl_Scalar (X := X) (h := h') hWk
    have hsc : scalar (es.getD k e0).w1 (es.getD k e0).w2 (es.getD k e0).w3 = scAt es (m.getD i c0) := by unfold scAt; rw [h1]; rfl
    rw [hsc] at csc
    have hst := worthL_take (es := es) hi1
    have b1 := hwb i (by omega)
    have b2 := scAt_bnd g hi1
    have hw2 : IntKind.i64.wrap (worthL es (m.take i) + scAt es (m.getD i c0)) = worthL es (m.take (i + 1)) := by rw [hst]; exact w64 (by omega) (by omega)
    unfold graphV at cat
    unfold edgeV edgeR at csc
    simp only [l3, l5, t7, t20, t21, t22, hel.1, hel.2.2.1, cat, hek.1, hek.2.2.1, csc, hw2, hw, List.prefix_refl, go_sem]
    exact hi1
  · have hil : i = m.length := by omega
    subst hil
    have b1 := hwb m.length (Nat.le_refl _)
    rw [List.take_length] at t7 b1
    have hw2 : IntKind.i64.wrap (2 * worthL es m) = 2 * worthL es m := w64 (by omega) (by omega)
    by_cases q : 2 * worthL es m = weightL ys gs
    · have hr : CertOk size es m ys gs := ⟨p, g, q⟩
      simp only [l5, t7, cw, hw2, decide_eq_true q, hr, List.prefix_refl, go_sem]
    · have hr : ¬ CertOk size es m ys gs := fun h => q h.2.2
      simp only [l5, t7, cw, hw2, q, hr, List.prefix_refl, go_sem]
end
end Go.Proofs.Ytafhipglhnfgnaa.Ab
set_option linter.unusedSimpArgs false
set_option linter.unusedVariables false
set_option linter.unnecessarySimpa false
set_option maxHeartbeats 4000000
namespace Go.Proofs.Ytafhipglhnfgnaa.Ab
open Go.RowKit
theorem gokS_lt {size : Int} {es : List E} (g : GOk size es) {i : Nat} : ∀ j, i < j → j < es.length → ELt (es.getD i e0) (es.getD j e0)
  | j + 1, h, hj => by
    have h1 := (g.2 (j + 1) hj).2 (by omega)
    rw [Nat.add_sub_cancel] at h1
    by_cases e : i = j
    · rw [e]; exact h1
    · have h2 := gokS_lt g (i := i) j (by omega) (by omega)
      unfold ELt at *
      omega
theorem edge_ix {size : Int} {es : List E} (g : GOk size es) {e : Nat} (he : e < es.length) : edgeIx es (es.getD e e0).a (es.getD e e0).b = e := by
  refine firstIx_at (d := e0) he (.inl ⟨rfl, rfl⟩) fun j hj hJ => ?_
  have h1 := gokS_lt g e hj he
  have h2 := (g.2 e he).1
  have h3 := (g.2 j (by omega)).1
  unfold ELt at h1
  unfold EOk at h2 h3
  rcases hJ with q | q <;> omega
theorem gok_ed {size : Int} {es : List E} {n : Nat} (g : GOk size es) (hn : size = n) : ∀ e, e < es.length → vA es e < n ∧ vB es e < n ∧ vA es e ≠ vB es e := fun e he => by
  have h := (g.2 e he).1
  unfold EOk at h
  unfold vA vB
  omega
theorem gok_int {size : Int} {es : List E} (g : GOk size es) {e : Nat} (he : e < es.length) : (es.getD e e0).a = (vA es e : Int) ∧ (es.getD e e0).b = (vB es e : Int) ∧ vA es e < vB es e := by
  have h := (g.2 e he).1
  unfold EOk at h
  unfold vA vB
  omega
theorem gok_w {size : Int} {es : List E} (g : GOk size es) {e : Nat} (he : e < es.length) : 0 ≤ vW es e ∧ vW es e ≤ 4515050 := by
  have h := (g.2 e he).1
  unfold EOk at h
  unfold vW scalar
  omega
def cpAt (es : List E) (m : Nat → Option Nat) (v : Nat) : Option Cp := match m v with
  | some e => if vA es e = v then some ⟨(v : Int), (vB es e : Int)⟩ else none
  | none => none
def cplL (es : List E) (n : Nat) (m : Nat → Option Nat) : List Cp := (List.range n).filterMap (cpAt es m)
section
variable {es : List E} {s s' : Sv} {n : Nat} {m : Nat → Option Nat} {v e p : Nat} {size Y M : Int}
theorem cpAt_some {c : Cp} (h : cpAt es m v = some c) : ∃ e, m v = some e ∧ vA es e = v ∧ c = ⟨(v : Int), (vB es e : Int)⟩ := by
  unfold cpAt at h
  cases hm : m v with
  | none => rw [hm] at h; cases h
  | some e =>
    rw [hm] at h
    simp only at h
    by_cases q : vA es e = v
    · rw [if_pos q] at h; exact ⟨e, rfl, q, (Option.some.inj h).symm⟩
    · rw [if_neg q] at h; cases h
def CApart (c d : Cp) : Prop := c.a < d.a ∧ d.a ≠ c.b ∧ d.b ≠ c.a ∧ d.b ≠ c.b
theorem mok_of {l : List Cp} (g : GOk size es) (h1 : ∀ c ∈ l, c.a < c.b ∧ 0 ≤ edgeIx es c.a c.b) (h2 : l.Pairwise CApart) : MOk size es l := by
  have hp : ∀ i j, i < j → j < l.length → CApart (l.getD i c0) (l.getD j c0) := fun i j hij hj => by
    have := List.pairwise_iff_getElem.1 h2 i j (by omega) hj hij
    simpa [List.getD, hj, show i < l.length by omega] using this
  refine ⟨g, fun i hi => ?_⟩
  obtain ⟨q1, q2⟩ := h1 _ (getD_mem (d := c0) hi)
  have out : ∀ x, x ∈ metL (l.take i) → ∃ j, j < i ∧ (x = (l.getD j c0).a ∨ x = (l.getD j c0).b) := fun x hx => by
    unfold metL at hx
    obtain ⟨c, hc, hx⟩ := List.mem_flatMap.1 hx
    obtain ⟨j, hj, e⟩ := mem_getD (d := c0) hc
    rw [List.length_take] at hj
    have e2 : (l.take i).getD j c0 = l.getD j c0 := by
      rw [List.getD_eq_getElem?_getD, List.getElem?_take, if_pos (by omega), ← List.getD_eq_getElem?_getD]
    rw [e2] at e
    subst e
    refine ⟨j, by omega, ?_⟩
    simpa using hx
  refine ⟨q1, q2, fun h0 => (hp (i - 1) i (by omega) hi).1, fun hx => ?_, fun hx => ?_⟩
  · obtain ⟨j, hj, e⟩ := out _ hx
    obtain ⟨a1, a2, a3, a4⟩ := hp j i hj hi
    rcases e with e | e
    · omega
    · exact a2 e
  · obtain ⟨j, hj, e⟩ := out _ hx
    obtain ⟨a1, a2, a3, a4⟩ := hp j i hj hi
    rcases e with e | e
    · exact a3 e
    · exact a4 e
theorem cpl_mok (g : GOk size es) (hn : size = n) (H : Pm es n m) : MOk size es (cplL es n m) := by
  refine mok_of g (fun c hc => ?_) ?_
  · obtain ⟨v, hv, h⟩ := List.mem_filterMap.1 hc
    obtain ⟨e, h1, h2, h3⟩ := cpAt_some h
    obtain ⟨he, _⟩ := H.of v e (List.mem_range.1 hv) h1
    obtain ⟨i1, i2, i3⟩ := gok_int g he
    rw [h3, ← h2, ← i1, ← i2]
    refine ⟨by show (es.getD e e0).a < (es.getD e e0).b; omega, ?_⟩
    show 0 ≤ edgeIx es (es.getD e e0).a (es.getD e e0).b
    rw [edge_ix g he]
    omega
  · unfold cplL
    rw [List.pairwise_filterMap]
    refine List.Pairwise.imp_of_mem (R := (· < ·)) (fun {v w} hv hw hvw c hc d hd => ?_) List.pairwise_lt_range
    obtain ⟨e, h1, h2, h3⟩ := cpAt_some hc
    obtain ⟨f, g1, g2, g3⟩ := cpAt_some hd
    obtain ⟨e1, e2, e3, _⟩ := H.of v e (List.mem_range.1 hv) h1
    obtain ⟨f1, f2, f3, _⟩ := H.of w f (List.mem_range.1 hw) g1
    have ne : e ≠ f := fun q => by rw [q] at h2; omega
    subst h3 g3
    refine ⟨by show (v : Int) < w; omega, fun q => ?_, fun q => ?_, fun q => ?_⟩
    · have q' : w = vB es e := by have : (w : Int) = vB es e := q; omega
      rw [← q', g1] at e3
      exact ne (Option.some.inj e3).symm
    · have q' : vB es f = v := by have : (vB es f : Int) = v := q; omega
      rw [q', h1] at f3
      exact ne (Option.some.inj f3)
    · have q' : vB es f = vB es e := by have : (vB es f : Int) = vB es e := q; omega
      rw [q', e3] at f3
      exact ne (Option.some.inj f3)
theorem worthL_app {a b : List Cp} : worthL es (a ++ b) = worthL es a + worthL es b := by
  have key : ∀ (l : List Cp) (x : Int), l.foldl (fun s c => s + scalar (es.getD (edgeIx es c.a c.b).toNat e0).w1 (es.getD (edgeIx es c.a c.b).toNat e0).w2 (es.getD (edgeIx es c.a c.b).toNat e0).w3) x = x + worthL es l := by
    intro l
    unfold worthL
    induction l with
    | nil => intro x; simp
    | cons c l ih =>
      intro x
      simp only [List.foldl_cons]
      rw [ih, ih (0 + _)]
      omega
  unfold worthL
  rw [List.foldl_append, key]
  rfl
open Classical in
theorem cpl_worth (g : GOk size es) (H : Pm es n m) : worthL es (cplL es n m) = SI (fun e => if m (vA es e) = some e then vW es e else 0) es.length := by
  have h1 : ∀ k, k ≤ n → worthL es (cplL es k m) = SI (fun v => SI (fun e => if m v = some e ∧ vA es e = v then vW es e else 0) es.length) k := by
    intro k
    induction k with
    | zero => intro _; rfl
    | succ k ih =>
      intro hk
      have e1 : cplL es (k + 1) m = cplL es k m ++ [k].filterMap (cpAt es m) := by unfold cplL; rw [List.range_succ, List.filterMap_append]
      rw [e1, worthL_app, ih (by omega)]
      show _ = SI _ k + SI _ es.length
      congr 1
      cases hc : cpAt es m k with
      | none =>
        have : [k].filterMap (cpAt es m) = [] := by simp [hc]
        rw [this]
        rw [SI_congr (g := fun _ => 0) fun e _ => if_neg fun q => ?_, SI_zero]
        · rfl
        · unfold cpAt at hc
          rw [q.1] at hc
          simp only [q.2, if_true] at hc
          cases hc
      | some c =>
        have : [k].filterMap (cpAt es m) = [c] := by simp [hc]
        rw [this]
        obtain ⟨e, h1, h2, h3⟩ := cpAt_some hc
        obtain ⟨he, _⟩ := H.of k e (by omega) h1
        obtain ⟨i1, i2, i3⟩ := gok_int g he
        rw [SI_one (a := e) he fun i _ hi => if_neg fun q => hi (Option.some.inj (h1.symm.trans q.1)).symm, if_pos ⟨h1, h2⟩]
        have : edgeIx es c.a c.b = e := by rw [h3]; show edgeIx es (k : Int) (vB es e) = e; rw [← h2, ← i1, ← i2]; exact edge_ix g he
        unfold worthL
        simp only [List.foldl_cons, List.foldl_nil, this, Int.toNat_natCast, Int.zero_add]
        rfl
  rw [h1 n (Nat.le_refl n), SI_swap]
  refine SI_congr fun e he => ?_
  rw [SI_one (a := vA es e) (H.ed e he).1 fun i _ hi => if_neg fun q => hi q.2.symm]
  by_cases c : m (vA es e) = some e
  · rw [if_pos c, if_pos ⟨c, rfl⟩]
  · rw [if_neg c, if_neg (fun q => c q.1)]
end
end Go.Proofs.Ytafhipglhnfgnaa.Ab
set_option linter.unusedSimpArgs false
set_option linter.unusedVariables false
set_option linter.unnecessarySimpa false
set_option maxHeartbeats 4000000
namespace Go.Proofs.Ytafhipglhnfgnaa.Ab
open Go.RowKit
def ysOf (s : Sv) : List Int := (List.range s.n).map s.y
open Classical in
noncomputable def memL (s : Sv) (p : Nat) : List Int := ((List.range s.n).filter fun v => decide (Wi s v p)).map fun v : Nat => (v : Int)
open Classical in
noncomputable def zRings (s : Sv) : List Nat := (List.range s.N).filter fun p => decide (IsRing s p ∧ 0 < s.z p)
noncomputable def grpOf (s : Sv) (p : Nat) : Gp := ⟨memL s p, s.z p⟩
section
variable {es : List E} {s s' : Sv} {n : Nat} {m : Nat → Option Nat} {v e p : Nat} {size Y M a b : Int} {ps : List Nat}
theorem zRings_mem : p ∈ zRings s ↔ IsRing s p ∧ 0 < s.z p := by
  unfold zRings
  simp only [List.mem_filter, List.mem_range, decide_eq_true_eq]
  exact ⟨fun h => h.2, fun h => ⟨h.1.2.1, h⟩⟩
theorem memL_mem {x : Int} : x ∈ memL s p ↔ ∃ v : Nat, x = v ∧ v < s.n ∧ Wi s v p := by
  unfold memL
  simp only [List.mem_map, List.mem_filter, List.mem_range, decide_eq_true_eq]
  constructor
  · rintro ⟨v, h, rfl⟩; exact ⟨v, rfl, h⟩
  · rintro ⟨v, rfl, h⟩; exact ⟨v, h, rfl⟩
theorem memL_nat (hv : v < s.n) : (v : Int) ∈ memL s p ↔ Wi s v p := by
  rw [memL_mem]
  constructor
  · rintro ⟨w, e, _, h⟩
    have : v = w := by omega
    rw [this]; exact h
  · exact fun h => ⟨v, rfl, hv, h⟩
theorem memL_asc : (memL s p).Pairwise (· < ·) := by
  unfold memL
  rw [List.pairwise_map]
  exact (List.Pairwise.filter _ List.pairwise_lt_range).imp fun h => by omega
open Classical in
theorem memL_len : ((memL s p).length : Int) = vcnt s p := by
  unfold memL vcnt
  rw [List.length_map]
  generalize s.n = k
  induction k with
  | zero => rfl
  | succ k ih =>
    rw [List.range_succ, List.filter_append, List.length_append]
    show _ = SI _ k + _
    rw [← ih]
    by_cases h : Wi s k p
    · simp [h]
    · simp [h]
theorem sumY_app {l k : List Int} : sumY (l ++ k) = sumY l + sumY k := by
  have key : ∀ (l : List Int) (x : Int), l.foldl (· + ·) x = x + sumY l := by
    intro l
    unfold sumY
    induction l with
    | nil => intro x; simp
    | cons c l ih =>
      intro x
      simp only [List.foldl_cons]
      rw [ih, ih (0 + _)]
      omega
  unfold sumY
  rw [List.foldl_append, key]
  rfl
theorem ys_sum : sumY (ysOf s) = SI s.y s.n := by
  unfold ysOf
  generalize s.n = k
  induction k with
  | zero => rfl
  | succ k ih =>
    rw [List.range_succ, List.map_append, sumY_app, ih]
    show _ + sumY [s.y k] = SI s.y k + s.y k
    unfold sumY
    simp
theorem ys_get (hv : v < s.n) : (ysOf s).getD v 0 = s.y v := by
  unfold ysOf
  simp [List.getD, hv]
theorem sumG_perm {g g' : List Gp} (h : g.Perm g') : sumG g = sumG g' := by
  unfold sumG
  exact h.foldl_eq' (fun x _ y _ z => by omega) 0
theorem grAdd_perm {g g' : List Gp} (h : g.Perm g') : grAdd a b g = grAdd a b g' := by
  unfold grAdd
  exact h.foldl_eq' (fun x _ y _ z => by split <;> split <;> omega) 0
theorem sumG_app {l k : List Gp} : sumG (l ++ k) = sumG l + sumG k := by
  have key : ∀ (l : List Gp) (x : Int), l.foldl (fun s g => s + g.z * ((g.ms.length / 2 : Nat) : Int)) x = x + sumG l := by
    intro l
    unfold sumG
    induction l with
    | nil => intro x; simp
    | cons c l ih =>
      intro x
      simp only [List.foldl_cons]
      rw [ih, ih (0 + _)]
      omega
  unfold sumG
  rw [List.foldl_append, key]
  rfl
theorem grAdd_app {l k : List Gp} : grAdd a b (l ++ k) = grAdd a b l + grAdd a b k := by
  have key : ∀ (l : List Gp) (x : Int), l.foldl (fun s g => if a ∈ g.ms ∧ b ∈ g.ms then s + g.z else s) x = x + grAdd a b l := by
    intro l
    unfold grAdd
    induction l with
    | nil => intro x; simp
    | cons c l ih =>
      intro x
      simp only [List.foldl_cons]
      split
      · rw [ih, ih (0 + _)]; omega
      · rw [ih]
  unfold grAdd
  rw [List.foldl_append, key]
  rfl
open Classical in
theorem zr_weight (K : Ok es s) (hodd : ∀ p, IsRing s p → vcnt s p % 2 = 1) : sumG ((zRings s).map (grpOf s)) = SI (fun p => if IsRing s p then s.z p * ((vcnt s p - 1) / 2) else 0) s.N := by
  have : ∀ k, sumG (((List.range k).filter fun p => decide (IsRing s p ∧ 0 < s.z p)).map (grpOf s)) = SI (fun p => if IsRing s p then s.z p * ((vcnt s p - 1) / 2) else 0) k := by
    intro k
    induction k with
    | zero => rfl
    | succ k ih =>
      rw [List.range_succ, List.filter_append, List.map_append, sumG_app, ih]
      show _ = SI _ k + if IsRing s k then s.z k * ((vcnt s k - 1) / 2) else 0
      congr 1
      by_cases h : IsRing s k
      · rw [if_pos h]
        have z0 := (K.z0 k h).1
        by_cases q : 0 < s.z k
        · have e : [k].filter (fun p => decide (IsRing s p ∧ 0 < s.z p)) = [k] := by simp [h, q]
          rw [e]
          unfold sumG
          simp only [List.map_cons, List.map_nil, List.foldl_cons, List.foldl_nil, Int.zero_add]
          show s.z k * (((memL s k).length / 2 : Nat) : Int) = _
          congr 1
          have h1 := memL_len (s := s) (p := k)
          have h2 := hodd k h
          omega
        · have e : [k].filter (fun p => decide (IsRing s p ∧ 0 < s.z p)) = [] := by simp [q]
          rw [e, show s.z k = 0 by omega, Int.zero_mul]
          rfl
      · have e : [k].filter (fun p => decide (IsRing s p ∧ 0 < s.z p)) = [] := by simp [h]
        rw [e, if_neg h]
        rfl
  exact this s.N
open Classical in
theorem zr_add (K : Ok es s) {u w : Nat} (hu : u < s.n) (hw : w < s.n) : grAdd (u : Int) w ((zRings s).map (grpOf s)) = zSum s u w s.N := by
  have : ∀ k, k ≤ s.N → grAdd (u : Int) w (((List.range k).filter fun p => decide (IsRing s p ∧ 0 < s.z p)).map (grpOf s)) = zSum s u w k := by
    intro k
    induction k with
    | zero => intro _; rfl
    | succ k ih =>
      intro hk
      rw [List.range_succ, List.filter_append, List.map_append, grAdd_app, ih (by omega)]
      show _ = zSum s u w k + _
      congr 1
      have hm : ∀ x, x < s.n → ((x : Int) ∈ (grpOf s k).ms ↔ Wi s x k) := fun x hx => memL_nat hx
      by_cases c : s.n ≤ k ∧ Wi s u k ∧ Wi s w k
      · have hr : IsRing s k := ⟨c.1, by omega, K.wi_gone c.2.1 (K.ngone hu)⟩
        have z0 := (K.z0 k hr).1
        rw [if_pos c]
        by_cases q : 0 < s.z k
        · have e : [k].filter (fun p => decide (IsRing s p ∧ 0 < s.z p)) = [k] := by simp [hr, q]
          rw [e]
          unfold grAdd
          simp only [List.map_cons, List.map_nil, List.foldl_cons, List.foldl_nil, Int.zero_add]
          rw [if_pos ⟨(hm u hu).2 c.2.1, (hm w hw).2 c.2.2⟩]
          rfl
        · have e : [k].filter (fun p => decide (IsRing s p ∧ 0 < s.z p)) = [] := by simp [q]
          rw [e, show s.z k = 0 by omega]
          rfl
      · rw [if_neg c]
        by_cases q : IsRing s k ∧ 0 < s.z k
        · have e : [k].filter (fun p => decide (IsRing s p ∧ 0 < s.z p)) = [k] := by simp [q]
          rw [e]
          unfold grAdd
          simp only [List.map_cons, List.map_nil, List.foldl_cons, List.foldl_nil]
          rw [if_neg fun g => c ⟨q.1.1, (hm u hu).1 g.1, (hm w hw).1 g.2⟩]
        · have e : [k].filter (fun p => decide (IsRing s p ∧ 0 < s.z p)) = [] := by simp only [List.filter_cons, decide_eq_false q]; rfl
          rw [e]
          rfl
  exact this s.N (Nat.le_refl _)
theorem ring_three (K : Ok es s) (hp : IsRing s p) : 3 ≤ (memL s p).length := by
  obtain ⟨r1, r2, r3, r4⟩ := K.ring p hp
  have mem : ∀ j ∈ s.mem p, s.base j < s.n ∧ Wi s (s.base j) j ∧ s.up j = some p := fun j hj => by
    have h := r4 j hj
    obtain ⟨h1, h2, h3, _⟩ := K.up j p h
    obtain ⟨b1, b2⟩ := K.base j (by have := h2.2.1; omega) h3
    exact ⟨b1, b2, h⟩
  have nd : ((s.mem p).map fun j => s.base j).Nodup := by
    rw [List.nodup_iff_pairwise_ne, List.pairwise_map]
    refine List.Pairwise.imp_of_mem (R := (· ≠ ·)) (fun {i j} hi hj hne q => ?_) (List.nodup_iff_pairwise_ne.1 r3)
    obtain ⟨b1, b2, b3⟩ := mem i hi
    obtain ⟨c1, c2, c3⟩ := mem j hj
    rw [← q] at c2
    have key : ∀ {x y : Nat}, Wi s x y → s.up x = some p → s.up y = some p → x = y := fun {x y} w hx hy => by
      cases w with
      | refl => rfl
      | step k1 k2 =>
        rw [hx] at k1
        cases k1
        have h1 := k2.le K.upOk
        have h2 := (K.up _ _ hy).1
        omega
    rcases b2.chain c2 with g | g
    · exact hne (key g b3 c3)
    · exact hne (key g c3 b3).symm
  have h := nsub_len (a := (s.mem p).map fun j => s.base j) (b := (memL s p).map Int.toNat) nd fun x hx => by
    obtain ⟨j, hj, rfl⟩ := List.mem_map.1 hx
    obtain ⟨b1, b2, b3⟩ := mem j hj
    refine List.mem_map.2 ⟨(s.base j : Int), (memL_nat b1).2 (b2.trans (.one b3)), Int.toNat_natCast _⟩
  rw [List.length_map, List.length_map] at h
  omega
theorem zr_len (K : Ok es s) (h9 : s.n ≤ 9) : (zRings s).length ≤ 4 := by
  have h1 := nsub_len (a := zRings s) (b := ringsL s) (List.Pairwise.filter _ List.nodup_range) fun p hp => ringsL_mem.2 (zRings_mem.1 hp).1
  have := rings_le K
  omega
theorem cert_end (g : GOk size es) (hn : size = s.n) (K : Ok es s) (L : Lo s Y) (D : Bd s Y M) (hM : M ≤ 10000000) (F : Frz s) (O : OpenAll es s s') (hp : ps.Perm (zRings s)) : CertOk size es (cplL es s.n s'.mate) (ysOf s) (ps.map (grpOf s)) := by
  obtain ⟨P, C, hw⟩ := end_worth K F O
  have h9 : s.n ≤ 9 := by have := g.1; omega
  have hodd : ∀ p, IsRing s p → vcnt s p % 2 = 1 := fun p hr => by rw [cnt_odd P C hr.2.1 hr.2.2]; omega
  have hpm : ∀ p ∈ ps, IsRing s p ∧ 0 < s.z p := fun p h => zRings_mem.1 (hp.subset h)
  have hgd : ∀ i, i < ps.length → (ps.map (grpOf s)).getD i g0 = grpOf s (ps.getD i 0) := fun i hi => by simp [List.getD, hi]
  have hlen : (ps.map (grpOf s)).length = ps.length := List.length_map _
  have hYl : (ysOf s).length = s.n := by unfold ysOf; simp
  refine ⟨⟨⟨g, by rw [hYl, hn], by have := zr_len K h9; rw [hlen, hp.length_eq]; omega⟩, fun j hj => ?_, fun i hi => ?_, fun i hi => ?_⟩, cpl_mok g hn P, ?_⟩
  · rw [hYl] at hj
    rw [ys_get hj]
    have h1 := L.low j hj
    have h2 := L.y0
    have h3 := D.y j hj
    omega
  · rw [hlen] at hi
    rw [hgd i hi]
    obtain ⟨q1, q2⟩ := hpm _ (getD_mem (d := 0) hi)
    refine ⟨⟨⟨ring_three K q1, ?_, ?_, ?_⟩, fun j hj => ?_⟩, fun k hk => ?_⟩
    · have h1 := memL_len (s := s) (p := ps.getD i 0)
      have h2 := hodd _ q1
      show (memL s (ps.getD i 0)).length % 2 = 1
      omega
    · show 1 ≤ s.z _; omega
    · show s.z _ ≤ _
      have h1 := D.z _ q1
      have h2 := L.y0
      omega
    · have hj' : j < (memL s (ps.getD i 0)).length := hj
      obtain ⟨v, e, hv, _⟩ := memL_mem.1 (getD_mem (d := 0) hj')
      refine ⟨by show 0 ≤ (memL s (ps.getD i 0)).getD j 0 ∧ (memL s (ps.getD i 0)).getD j 0 ≤ size - 1; rw [e]; omega, fun h0 => ?_⟩
      show (memL s (ps.getD i 0)).getD (j - 1) 0 < (memL s (ps.getD i 0)).getD j 0
      have ha := memL_asc (s := s) (p := ps.getD i 0)
      generalize memL s (ps.getD i 0) = l at hj' ha
      have := List.pairwise_iff_getElem.1 ha (j - 1) j (by omega) hj' (by omega)
      simpa [List.getD, hj', show j - 1 < l.length by omega] using this
    · rw [hgd k (by omega)]
      generalize ps.getD k 0 = a
      generalize ps.getD i 0 = b
      show Nest (memL s a) (memL s b)
      unfold Nest
      by_cases c : ∃ x ∈ memL s b, x ∈ memL s a
      · obtain ⟨x, x1, x2⟩ := c
        obtain ⟨v, rfl, hv, w1⟩ := memL_mem.1 x1
        have w2 := (memL_nat hv).1 x2
        rcases w1.chain w2 with w | w
        · refine .inl fun y hy => ?_
          obtain ⟨u, rfl, hu, u1⟩ := memL_mem.1 hy
          exact (memL_nat hu).2 (u1.trans w)
        · refine .inr (.inr fun y hy => ?_)
          obtain ⟨u, rfl, hu, u1⟩ := memL_mem.1 hy
          exact (memL_nat hu).2 (u1.trans w)
      · exact .inr (.inl fun x h1 h2 => c ⟨x, h1, h2⟩)
  · obtain ⟨i1, i2, i3⟩ := gok_int g hi
    obtain ⟨e1, e2, e3⟩ := K.ed i hi
    have := K.feas i hi
    unfold slackL
    rw [grAdd_perm (hp.map _), i1, i2, zr_add K e1 e2, Int.toNat_natCast, Int.toNat_natCast, ys_get e1, ys_get e2]
    exact this
  · rw [cpl_worth g P]
    unfold weightL
    rw [sumG_perm (hp.map _), zr_weight K hodd, ys_sum, hw]
end
end Go.Proofs.Ytafhipglhnfgnaa.Ab
set_option linter.unusedSimpArgs false
set_option linter.unusedVariables false
set_option linter.unnecessarySimpa false
set_option maxHeartbeats 4000000
namespace Go.Proofs.Ytafhipglhnfgnaa.Ab
inductive Conn (R : Int → Int → Prop) (a : Int) : Int → Prop
  | refl : Conn R a a
  | step {b c : Int} (h : Conn R a b) (r : R b c) : Conn R a c
section
variable {R S : Int → Int → Prop} {a b c : Int}
theorem Conn.one (r : R a b) : Conn R a b := .step .refl r
theorem Conn.trans (h : Conn R a b) (k : Conn R b c) : Conn R a c := by
  induction k with
  | refl => exact h
  | step _ r ih => exact .step ih r
theorem Conn.symm (hs : ∀ {x y}, R x y → R y x) (h : Conn R a b) : Conn R b a := by
  induction h with
  | refl => exact .refl
  | step _ r ih => exact (Conn.one (hs r)).trans ih
theorem Conn.imp (hi : ∀ {x y}, R x y → S x y) (h : Conn R a b) : Conn S a b := by
  induction h with
  | refl => exact .refl
  | step _ r ih => exact .step ih (hi r)
theorem Conn.ends (h : Conn R a b) (hr : ∀ {x y}, R x y → S x y) : a = b ∨ ∃ x y, S a x ∧ S y b := by
  induction h with
  | refl => exact .inl rfl
  | step h r ih =>
    rcases ih with rfl | ⟨x, y, h1, _⟩
    · exact .inr ⟨_, _, hr r, hr r⟩
    · exact .inr ⟨x, _, h1, hr r⟩
end
def Adj (es : List E) (out : List Int) (a b : Int) : Prop := (∃ e ∈ es, Join a b e) ∧ ¬ a ∈ out ∧ ¬ b ∈ out
theorem Adj.symm {es : List E} {out : List Int} {a b : Int} (h : Adj es out a b) : Adj es out b a := by
  obtain ⟨⟨e, he, hj⟩, h1, h2⟩ := h
  exact ⟨⟨e, he, Or.symm hj⟩, h2, h1⟩
abbrev Cn (es : List E) (out : List Int) (a b : Int) : Prop := Conn (Adj es out) a b
theorem Cn.symm {es : List E} {out : List Int} {a b : Int} (h : Cn es out a b) : Cn es out b a := Conn.symm Adj.symm h
end Go.Proofs.Ytafhipglhnfgnaa.Ab
set_option linter.unusedSimpArgs false
set_option linter.unusedVariables false
set_option linter.unnecessarySimpa false
set_option maxHeartbeats 4000000
namespace Go.Proofs.Ytafhipglhnfgnaa.Ab
theorem nodup_len : ∀ {n : Nat} {l : List Int}, l.Nodup → (∀ x ∈ l, 0 ≤ x ∧ x < n) → l.length ≤ n
  | 0, [], _, _ => Nat.le_refl _
  | 0, a :: l, _, h => by have := h a List.mem_cons_self; omega
  | n + 1, l, hn, h => by
    by_cases hm : (n : Int) ∈ l
    · have h1 := List.length_erase_of_mem hm
      have h2 := nodup_len (n := n) (hn.erase (n : Int)) fun x hx => by
        obtain ⟨h3, h4⟩ := (hn.mem_erase_iff).1 hx
        have := h x h4
        omega
      omega
    · have := nodup_len (n := n) hn fun x hx => by
        have h3 := h x hx
        have : x ≠ n := fun e => hm (e ▸ hx)
        omega
      omega
structure Bfs (es : List E) (out : List Int) (n : Nat) (v : Int) (i : Nat) (L : List Int) : Prop where
  nodup : L.Nodup
  top : v ∈ L
  all : ∀ x ∈ L, (0 ≤ x ∧ x < n) ∧ ¬ x ∈ out ∧ Cn es out v x
  near : ∀ j, j < i → ∀ w, Adj es out (L.getD j 0) w → w ∈ L
theorem Bfs.len {es : List E} {out : List Int} {n : Nat} {v : Int} {i : Nat} {L : List Int} (b : Bfs es out n v i L) : L.length ≤ n := nodup_len b.nodup fun x hx => (b.all x hx).1
end Go.Proofs.Ytafhipglhnfgnaa.Ab
set_option linter.unusedSimpArgs false
set_option linter.unusedVariables false
set_option linter.unnecessarySimpa false
set_option maxHeartbeats 4000000
namespace Go.Proofs.Ytafhipglhnfgnaa.Ab
open Go.RowKit
def Apart (e f : E) : Prop := e.a ≠ f.a ∧ e.a ≠ f.b ∧ e.b ≠ f.a ∧ e.b ≠ f.b
theorem Apart.symm {e f : E} (h : Apart e f) : Apart f e := ⟨fun x => h.1 x.symm, fun x => h.2.2.1 x.symm, fun x => h.2.1 x.symm, fun x => h.2.2.2 x.symm⟩
def Mt (es : List E) (P : Int → Prop) (l : List E) : Prop := (∀ e ∈ l, e ∈ es ∧ P e.a ∧ P e.b) ∧ l.Pairwise Apart
def Most (es : List E) (P : Int → Prop) (w : Nat) : Prop := (∃ l, Mt es P l ∧ l.length = w) ∧ ∀ l, Mt es P l → l.length ≤ w
theorem Mt.imp {es fs : List E} {P Q : Int → Prop} {l : List E} (h : Mt es P l) (hi : ∀ e ∈ es, P e.a → P e.b → e ∈ fs ∧ Q e.a ∧ Q e.b) : Mt fs Q l :=
  ⟨fun e he => hi e (h.1 e he).1 (h.1 e he).2.1 (h.1 e he).2.2, h.2⟩
theorem Most.congr {es fs : List E} {P Q : Int → Prop} {w : Nat} (h : Most es P w) (h1 : ∀ e ∈ es, P e.a → P e.b → e ∈ fs ∧ Q e.a ∧ Q e.b) (h2 : ∀ e ∈ fs, Q e.a → Q e.b → e ∈ es ∧ P e.a ∧ P e.b) : Most fs Q w := by
  obtain ⟨⟨l, a, b⟩, c⟩ := h
  exact ⟨⟨l, a.imp h1, b⟩, fun l hl => c l (hl.imp h2)⟩
def mm : List E → List Int → Nat
  | [], _ => 0
  | e :: es, u => if e.a ∈ u ∨ e.b ∈ u then mm es u else max (mm es u) (mm es (e.a :: e.b :: u) + 1)
end Go.Proofs.Ytafhipglhnfgnaa.Ab
set_option linter.unusedSimpArgs false
set_option linter.unusedVariables false
set_option linter.unnecessarySimpa false
set_option maxHeartbeats 4000000
namespace Go.Proofs.Ytafhipglhnfgnaa.Ab
open Go.RowKit
structure S3 where
  x : Int
  y : Int
  z : Int
theorem S3.ext' {a b : S3} (h1 : a.x = b.x) (h2 : a.y = b.y) (h3 : a.z = b.z) : a = b := by cases a; cases b; simp only at h1 h2 h3; rw [h1, h2, h3]
def S3.add (a b : S3) : S3 := ⟨a.x + b.x, a.y + b.y, a.z + b.z⟩
def s0 : S3 := ⟨0, 0, 0⟩
def bet (a b : S3) : Prop := b.x < a.x ∨ a.x = b.x ∧ (b.y < a.y ∨ a.y = b.y ∧ b.z < a.z)
instance (a b : S3) : Decidable (bet a b) := by unfold bet; exact inferInstance
def wS (e : E) : S3 := ⟨e.w1, e.w2, e.w3⟩
def sumS : List E → S3
  | [] => s0
  | e :: l => (wS e).add (sumS l)
def Best (es : List E) (P : Int → Prop) (w : S3) : Prop := (∃ l, Mt es P l ∧ sumS l = w) ∧ ∀ l, Mt es P l → ¬ bet (sumS l) w
theorem Best.congr {es fs : List E} {P Q : Int → Prop} {w : S3} (h : Best es P w) (h1 : ∀ e ∈ es, P e.a → P e.b → e ∈ fs ∧ Q e.a ∧ Q e.b) (h2 : ∀ e ∈ fs, Q e.a → Q e.b → e ∈ es ∧ P e.a ∧ P e.b) : Best fs Q w := by
  obtain ⟨⟨l, a, b⟩, c⟩ := h
  exact ⟨⟨l, a.imp h1, b⟩, fun l hl => c l (hl.imp h2)⟩
end Go.Proofs.Ytafhipglhnfgnaa.Ab
set_option linter.unusedSimpArgs false
set_option linter.unusedVariables false
set_option linter.unnecessarySimpa false
set_option maxHeartbeats 4000000
namespace Go.Proofs.Ytafhipglhnfgnaa.Ab
open Go.RowKit
inductive Tg where
  | y | n | m | rg (i : Nat) | lk (i : Nat) | tb | lb | ah | rt
abbrev Tags := Nat → Option Tg
structure Has (g : Tags) (h : Heap) (τ : Tg) (sz : Nat) (ty : TypeId) (v : Value) (rws : List (List Value)) : Prop where
  len : ∀ r ∈ rws, r.length = sz
  is : (v = nilV ∧ rws = []) ∨ ∃ c, g c = some τ ∧ v = .slice (some ⟨c, 0, none⟩) rws.length rws.length ∧ h[c]? = some ⟨rws.flatten, sz, ty, true⟩
def TagOk (b : Nat) (g : Tags) (h : Heap) : Prop := ∀ c τ, g c = some τ → (b ≤ c + 1 ∧ c ≠ b) ∧ c < h.length
structure Tn (b : Nat) (T : Tg → Prop) (g : Tags) (h : Heap) (g' : Tags) (h' : Heap) : Prop where
  len : h.length ≤ h'.length
  blk : ∀ c, c < h.length → c ≠ b → (∀ τ, g c = some τ → ¬ T τ) → h'[c]? = h[c]?
  tag : ∀ c τ, ¬ T τ → g c = some τ → g' c = some τ
  new : ∀ c τ, c < h.length → g' c = some τ → g c = some τ
  ok : TagOk b g' h'
def FarV (v : Value) (n : Nat) : Prop := ∃ c m, n ≤ c ∧ v = .slice (some ⟨c, 0, none⟩) m m
section
variable {g g' g2 : Tags} {h h' h2 : Heap} {b sz i k : Nat} {τ : Tg} {T U : Tg → Prop} {ty : TypeId} {v : Value} {rws : List (List Value)}
theorem Has.own (a : Has g h τ sz ty v rws) : (v = nilV ∧ rws = []) ∨ ∃ c, g c = some τ ∧ v = .slice (some ⟨c, 0, none⟩) rws.length rws.length ∧ Own h c (c + 1) sz ty v rws := by
  rcases a.is with q | ⟨c, h1, h2, h3⟩
  · exact .inl q
  · exact .inr ⟨c, h1, h2, a.len, .inr ⟨c, Nat.le_refl _, Nat.lt_succ_self _, h2, h3⟩⟩
theorem Has.rows (a : Has g h τ sz ty v rws) : Rows h sz v rws := by
  rcases a.own with ⟨rfl, rfl⟩ | ⟨c, _, _, o⟩
  · exact Rows.nil
  · exact o.rows
theorem Has.nil : Has g h τ sz ty nilV [] := ⟨fun _ h => (by cases h), .inl ⟨rfl, rfl⟩⟩
theorem Has.up (a : Has g h τ sz ty v rws) (hp : h <+: h') : Has g h' τ sz ty v rws := by
  refine ⟨a.len, ?_⟩
  rcases a.is with q | ⟨c, h1, h2, h3⟩
  · exact .inl q
  · exact .inr ⟨c, h1, h2, pre_get hp h3⟩
theorem TagOk.up (a : TagOk b g h) (hp : h <+: h') : TagOk b g h' := fun c τ hc => ⟨(a c τ hc).1, Nat.lt_of_lt_of_le (a c τ hc).2 (pre_len hp)⟩
theorem Tn.refl (ok : TagOk b g h) : Tn b T g h g h := ⟨Nat.le_refl _, fun _ _ _ _ => rfl, fun _ _ _ q => q, fun _ _ _ q => q, ok⟩
theorem Tn.trans (a : Tn b T g h g' h') (c : Tn b T g' h' g2 h2) : Tn b T g h g2 h2 := by
  refine ⟨Nat.le_trans a.len c.len, fun x hx hb hT => ?_, fun x τ hT q => c.tag x τ hT (a.tag x τ hT q), fun x τ hx q => a.new x τ hx (c.new x τ (Nat.lt_of_lt_of_le hx a.len) q), c.ok⟩
  rw [c.blk x (Nat.lt_of_lt_of_le hx a.len) hb fun τ q => hT τ (a.new x τ hx q), a.blk x hx hb hT]
theorem Tn.mono (a : Tn b T g h g' h') (hu : ∀ τ, T τ → U τ) : Tn b U g h g' h' :=
  ⟨a.len, fun c hc hb q => a.blk c hc hb fun τ k => fun t => q τ k (hu τ t), fun c τ q => a.tag c τ fun t => q (hu τ t), a.new, a.ok⟩
theorem Tn.up (ok : TagOk b g h) (hp : h <+: h') : Tn b T g h g h' :=
  ⟨pre_len hp, fun c hc _ _ => get_of_pre hp hc, fun _ _ _ q => q, fun _ _ _ q => q, ok.up hp⟩
theorem Has.tn (a : Has g h τ sz ty v rws) (ok : TagOk b g h) (f : Tn b T g h g' h') (hT : ¬ T τ) : Has g' h' τ sz ty v rws := by
  refine ⟨a.len, ?_⟩
  rcases a.is with q | ⟨c, h1, h2, h3⟩
  · exact .inl q
  · refine .inr ⟨c, f.tag c τ hT h1, h2, ?_⟩
    have hc := ok c τ h1
    rw [f.blk c hc.2 (by omega) fun τ' q => by rw [h1] at q; cases q; exact hT]
    exact h3
theorem Has.st {vs : List Value} (a : Has g h τ sz ty v rws) (ok : TagOk b g h) (hi : i < rws.length) (hk : k + vs.length ≤ sz) :
    ∃ h', stC h (elemP v sz i k) vs = some h' ∧ Tn b (· = τ) g h g h' ∧ h'.length = h.length ∧ h'[b]? = h[b]? ∧ Has g h' τ sz ty v (rws.set i (putAt rws[i] k vs)) := by
  rcases a.own with ⟨_, rfl⟩ | ⟨c, h1, h2, o⟩
  · simp at hi
  · obtain ⟨h', e1, e2, e3⟩ := o.st hi hk
    have hcb := ok c τ h1
    have hlen : (rws.set i (putAt rws[i] k vs)).length = rws.length := List.length_set ..
    refine ⟨h', e1, ⟨Nat.le_of_eq e2.len.symm, fun x hx hb q => e2.blk x ?_, fun _ _ _ q => q, fun _ _ _ q => q, fun x t q => by rw [e2.len]; exact ok x t q⟩, e2.len, e2.blk b (by omega), e3.len, .inr ⟨c, h1, by rw [hlen]; exact h2, ?_⟩⟩
    · have : x ≠ c := fun e => by subst e; exact q τ h1 rfl
      omega
    · rcases e3.is with ⟨q, _⟩ | ⟨c', l1, l2, _, l4⟩
      · rw [h2] at q; cases q
      · have : c' = c := by omega
        rw [← this]
        exact l4
theorem Has.push {cs : List Value} (a : Has g h τ sz ty v rws) (ok : TagOk b g h) (hb : b < h.length) (hc : cs.length = sz) (hl : rws.length < lim) :
    ∃ v' h' g', appLW h sz ty 1 v (some cs) = some (v', h') ∧ Tn b (· = τ) g h g' h' ∧ h'[b]? = h[b]? ∧ Has g' h' τ sz ty v' (rws ++ [cs]) ∧ ∀ n, FarV v n → FarV v' n := by
  rcases a.own with ⟨rfl, rfl⟩ | ⟨c, h1, h2, o⟩
  · have o : Own h h.length h.length sz ty nilV [] := Own.nil
    obtain ⟨v', h', e1, e2, e3, e4, e5⟩ := push_is o (Nat.le_refl _) [cs] (fun r hr => by rw [List.mem_singleton.1 hr]; exact hc) (by simp) (by simp; omega)
    rw [List.flatten_cons, List.flatten_nil, List.append_nil] at e1
    rcases e4 with ⟨_, t1, t2, t3⟩ | ⟨q, _⟩
    · have nb : ∀ x, x < h.length → h'[x]? = h[x]? := fun x hx => e3 x hx (.inr (Nat.zero_le _))
      refine ⟨v', h', fun x => if x = h.length then some τ else g x, e1, ⟨e2, fun x hx _ _ => nb x hx, fun x t _ q => ?_, fun x t hx q => ?_, fun x t q => ?_⟩, nb b hb, ⟨e5.len, ?_⟩, fun n ⟨_, _, _, q⟩ => (by cases q)⟩
      · show (if x = h.length then some τ else g x) = some t
        rw [if_neg (by have := (ok x t q).2; omega)]
        exact q
      · have q' : (if x = h.length then some τ else g x) = some t := q
        rw [if_neg (by omega)] at q'
        exact q'
      · have q' : (if x = h.length then some τ else g x) = some t := q
        by_cases e : x = h.length
        · subst e; exact ⟨by omega, by omega⟩
        · rw [if_neg e] at q'
          have := ok x t q'
          exact ⟨this.1, by omega⟩
      · rcases e5.is with ⟨_, q⟩ | ⟨c', l1, l2, l3, l4⟩
        · simp at q
        · have : c' = h.length := by omega
          subst this
          exact .inr ⟨h.length, if_pos rfl, l3, l4⟩
    · exact absurd rfl q
  · obtain ⟨v', h', e1, e2, e3, e4, e5⟩ := push_is o (by have := (ok c τ h1).2; omega) [cs] (fun r hr => by rw [List.mem_singleton.1 hr]; exact hc) (by simp) (by simp; omega)
    rw [List.flatten_cons, List.flatten_nil, List.append_nil] at e1
    have hcb := ok c τ h1
    have tv : tlo v = c ∧ thi v = c + 1 := by rw [h2]; exact ⟨rfl, rfl⟩
    rcases e4 with ⟨q, _⟩ | ⟨_, t1, t2, t3⟩
    · rw [h2] at q; cases q
    · have nb : ∀ x, x < h.length → x ≠ c → h'[x]? = h[x]? := fun x hx hne => e3 x hx (by omega)
      refine ⟨v', h', g, e1, ⟨e2, fun x hx _ q => nb x hx fun e => ?_, fun _ _ _ q => q, fun _ _ _ q => q, fun x t q => by rw [t1]; exact ok x t q⟩, nb b hb (by omega), ⟨e5.len, ?_⟩, fun n q => ?_⟩
      · subst e; exact q τ h1 rfl
      · rcases e5.is with ⟨_, q⟩ | ⟨c', l1, l2, l3, l4⟩
        · simp at q
        · have : c' = c := by omega
          subst this
          exact .inr ⟨c', h1, l3, l4⟩
      · obtain ⟨c2, m2, z1, z2⟩ := q
        rw [h2] at z2
        injection z2 with z2
        injection z2 with z2
        injection z2 with z2
        rcases e5.is with ⟨_, q⟩ | ⟨c', l1, l2, l3, l4⟩
        · simp at q
        · exact ⟨c', _, by omega, l3⟩
theorem Has.take {lo hi : Nat} (o : Own h lo hi sz ty v rws) (hlo : ∀ c, lo ≤ c → c < hi → g c = some τ) : Has g h τ sz ty v rws := by
  refine ⟨o.len, ?_⟩
  rcases o.is with q | ⟨c, l1, l2, l3, l4⟩
  · exact .inl q
  · exact .inr ⟨c, hlo c l1 l2, l3, l4⟩
end
structure Lk where
  f : Nat
  t : Nat
def l0 : Lk := ⟨0, 0⟩
def lkR (x : Lk) : List Value := [.int .i64 (x.f : Nat), .int .i64 (x.t : Nat)]
theorem lkR_len (x : Lk) : (lkR x).length = 2 := rfl
def Lk.rev (x : Lk) : Lk := ⟨x.t, x.f⟩
def IsE (es : List E) (e : Nat) (x : Lk) : Prop := e < es.length ∧ ((x.f = vA es e ∧ x.t = vB es e) ∨ (x.f = vB es e ∧ x.t = vA es e))
theorem IsE.rev {es : List E} {e : Nat} {x : Lk} (h : IsE es e x) : IsE es e x.rev := ⟨h.1, h.2.symm.imp (fun q => ⟨q.2, q.1⟩) fun q => ⟨q.2, q.1⟩⟩
def upI : Option Nat → Int
  | some p => p
  | none => -1
structure RV where
  ev : Value
  yv : Value
  nv : Value
  mv : Value
  rv : Nat → Value
  lv : Nat → Value
  bs : Nat → Nat
def BsOk (s : Sv) (bs : Nat → Nat) : Prop := ∀ t i, IsTop s t → s.mate t = none → Wi s i t → Wi s (s.base t) i → bs i = s.base i
structure Nd where
  rv : Value
  lv : Value
  base : Int
  z : Int
  up : Int
  gone : Bool
def nd0 : Nd := ⟨nilV, nilV, 0, 0, 0, false⟩
def ndR (x : Nd) : List Value := [x.rv, x.lv, .int .i64 x.base, .int .i64 x.z, .int .i64 x.up, .bool x.gone]
def mkNd (s : Sv) (V : RV) (i : Nat) : Nd := ⟨V.rv i, V.lv i, (V.bs i : Nat), s.z i, upI (s.up i), s.gone i⟩
def ndsOf (s : Sv) (V : RV) : List Nd := (List.range s.N).map (mkNd s V)
theorem nds_len {s : Sv} {V : RV} : (ndsOf s V).length = s.N := by unfold ndsOf; simp
theorem nds_get {s : Sv} {V : RV} {i : Nat} (h : i < s.N) : (ndsOf s V).getD i nd0 = mkNd s V i := by unfold ndsOf; simp [h]
def runB (s : Sv) (V : RV) (k : Nat) (dn : Bool) : Blk := ⟨[.int .i64 (s.n : Nat), V.ev, V.yv, V.nv, V.mv, .int .i64 (k : Nat), .bool dn], 7, y_l10Run, true⟩
def p7 (b k : Nat) : Value := .pointer (some ⟨b, k, some 7⟩)
def LnkOk (es : List E) (s : Sv) (i : Nat) (L : List Lk) : Prop := L.length = (s.lnk i).length ∧ ∀ j, j < L.length → IsE es ((s.lnk i).getD j 0) (L.getD j l0)
def natI (l : List Nat) : List Int := l.map fun v : Nat => (v : Int)
structure Rn (g : Tags) (h : Heap) (b : Nat) (es : List E) (s : Sv) (M : List Lk) (k : Nat) (dn : Bool) (V : RV) : Prop where
  ok : TagOk b g h
  blk : h[b]? = some (runB s V k dn)
  e : Rows (h.take (b - 1)) 5 V.ev (edges es)
  y : Has g h .y 1 y_int V.yv (ints (ysOf s))
  nd : Has g h .n 6 y_l10Node V.nv ((ndsOf s V).map ndR)
  m : Has g h .m 2 y_l10Link V.mv (M.map lkR)
  rg : ∀ i, i < s.N → Has g h (.rg i) 1 y_int (V.rv i) (ints (natI (s.mem i)))
  lk : ∀ i, i < s.N → ∃ L, Has g h (.lk i) 2 y_l10Link (V.lv i) (L.map lkR) ∧ LnkOk es s i L
section
variable {g : Tags} {h h' : Heap} {b i k v : Nat} {es : List E} {s : Sv} {M : List Lk} {dn : Bool} {V : RV}
theorem Rn.up (R : Rn g h b es s M k dn V) (hp : h <+: h') : Rn g h' b es s M k dn V := by
  have hb := lt_of_get R.blk
  refine ⟨R.ok.up hp, pre_get hp R.blk, ?_, R.y.up hp, R.nd.up hp, R.m.up hp, fun i hi => (R.rg i hi).up hp, fun i hi => ?_⟩
  · have : h'.take (b - 1) = h.take (b - 1) := by
      obtain ⟨t, rfl⟩ := hp
      rw [List.take_append_of_le_length (by omega)]
    rw [this]
    exact R.e
  · obtain ⟨L, h1, h2⟩ := R.lk i hi
    exact ⟨L, h1.up hp, h2⟩
theorem Rn.bl (R : Rn g h b es s M k dn V) : b < h.length := lt_of_get R.blk
theorem Rn.ev (R : Rn g h b es s M k dn V) : Rows h 5 V.ev (edges es) := R.e.up (List.take_prefix (b - 1) h)
theorem Rn.chk (R : Rn g h b es s M k dn V) : chkV h (p7 b 0) = some (p7 b 0) := by simp [chkV, ldC, p7, R.blk, runB]
theorem Rn.fa (R : Rn g h b es s M k dn V) : ∀ i j, faV h (p7 b i) j = some (p7 b (i + j)) := fun i j => by simp [faV, p7, R.blk, runB]
theorem Rn.ld0 (R : Rn g h b es s M k dn V) : ldC h (p7 b 0) 1 = some [.int .i64 (s.n : Nat)] := by simp [ldC, p7, R.blk, runB]
theorem Rn.ld1 (R : Rn g h b es s M k dn V) : ldC h (p7 b 1) 1 = some [V.ev] := by simp [ldC, p7, R.blk, runB]
theorem Rn.ld2 (R : Rn g h b es s M k dn V) : ldC h (p7 b 2) 1 = some [V.yv] := by simp [ldC, p7, R.blk, runB]
theorem Rn.ld3 (R : Rn g h b es s M k dn V) : ldC h (p7 b 3) 1 = some [V.nv] := by simp [ldC, p7, R.blk, runB]
theorem Rn.ld4 (R : Rn g h b es s M k dn V) : ldC h (p7 b 4) 1 = some [V.mv] := by simp [ldC, p7, R.blk, runB]
theorem Rn.ld5 (R : Rn g h b es s M k dn V) : ldC h (p7 b 5) 1 = some [.int .i64 (k : Nat)] := by simp [ldC, p7, R.blk, runB]
theorem Rn.ld6 (R : Rn g h b es s M k dn V) : ldC h (p7 b 6) 1 = some [.bool dn] := by simp [ldC, p7, R.blk, runB]
theorem Rn.nln (R : Rn g h b es s M k dn V) : lnV h V.nv = some (.int .i64 (s.N : Nat)) := by rw [R.nd.rows.lnm, nds_len]
theorem Rn.mln (R : Rn g h b es s M k dn V) : lnV h V.mv = some (.int .i64 (M.length : Nat)) := R.m.rows.lnm
theorem Rn.eln (R : Rn g h b es s M k dn V) : lnV h V.ev = some (.int .i64 (es.length : Nat)) := R.ev.lnm
theorem Rn.nia (R : Rn g h b es s M k dn V) (hi : i < s.N) : iaV h 6 V.nv (.int .i64 (i : Nat)) = some (elemP V.nv 6 i 0) := (R.nd.rows.el nd0 (by rw [nds_len]; exact hi)).1
theorem Rn.nfa (R : Rn g h b es s M k dn V) (hi : i < s.N) : ∀ o j, faV h (elemP V.nv 6 i o) j = some (elemP V.nv 6 i (o + j)) := (R.nd.rows.el nd0 (by rw [nds_len]; exact hi)).2.1
theorem Rn.nld (R : Rn g h b es s M k dn V) (hi : i < s.N) : ldC h (elemP V.nv 6 i 0) 6 = some (ndR (mkNd s V i)) := by
  have := (R.nd.rows.el nd0 (i := i) (by rw [nds_len]; exact hi)).2.2
  rw [nds_get hi] at this
  exact this
theorem Rn.ncell (R : Rn g h b es s M k dn V) (hi : i < s.N) {o : Nat} (ho : o < 6) : ldC h (elemP V.nv 6 i o) 1 = some [(ndR (mkNd s V i)).getD o undef] := by
  have := R.nd.rows.cell nd0 (i := i) (o := o) (by rw [nds_len]; exact hi) ho
  rw [nds_get hi] at this
  exact this
theorem Rn.n2 (R : Rn g h b es s M k dn V) (hi : i < s.N) : ldC h (elemP V.nv 6 i 2) 1 = some [.int .i64 (V.bs i : Nat)] := R.ncell hi (by omega)
theorem Rn.n3 (R : Rn g h b es s M k dn V) (hi : i < s.N) : ldC h (elemP V.nv 6 i 3) 1 = some [.int .i64 (s.z i)] := R.ncell hi (by omega)
theorem Rn.n4 (R : Rn g h b es s M k dn V) (hi : i < s.N) : ldC h (elemP V.nv 6 i 4) 1 = some [.int .i64 (upI (s.up i))] := R.ncell hi (by omega)
theorem Rn.n5 (R : Rn g h b es s M k dn V) (hi : i < s.N) : ldC h (elemP V.nv 6 i 5) 1 = some [.bool (s.gone i)] := R.ncell hi (by omega)
theorem Rn.yia (R : Rn g h b es s M k dn V) (hv : v < s.n) : iaV h 1 V.yv (.int .i64 (v : Nat)) = some (elemP V.yv 1 v 0) ∧ ldC h (elemP V.yv 1 v 0) 1 = some [.int .i64 (s.y v)] := by
  have hl : v < (ysOf s).length := by unfold ysOf; simp; exact hv
  have := R.y.rows.el (f := fun n : Int => [.int .i64 n]) (l := ysOf s) 0 hl
  rw [ys_get hv] at this
  exact ⟨this.1, this.2.2⟩
theorem Rn.mia (R : Rn g h b es s M k dn V) (hi : i < M.length) : iaV h 2 V.mv (.int .i64 (i : Nat)) = some (elemP V.mv 2 i 0) ∧ (∀ o j, faV h (elemP V.mv 2 i o) j = some (elemP V.mv 2 i (o + j))) ∧ ldC h (elemP V.mv 2 i 0) 2 = some (lkR (M.getD i l0)) := R.m.rows.el l0 hi
theorem Rn.m0 (R : Rn g h b es s M k dn V) (hi : i < M.length) : ldC h (elemP V.mv 2 i 0) 1 = some [.int .i64 ((M.getD i l0).f : Nat)] := R.m.rows.cell l0 hi (by omega)
theorem Rn.m1 (R : Rn g h b es s M k dn V) (hi : i < M.length) : ldC h (elemP V.mv 2 i 1) 1 = some [.int .i64 ((M.getD i l0).t : Nat)] := R.m.rows.cell l0 hi (by omega)
end
section
variable {X : CallF} {g : Tags} {h : Heap} {b k v t : Nat} {es : List E} {s : Sv} {M : List Lk} {dn : Bool} {V : RV}
theorem k_l10Top (R : Rn g h b es s M k dn V) (hu : UpOk s) (hv : v < s.N) : C T X n_spec_l10Top [p7 b 0, .int .i64 (v : Nat)] h = some (.int .i64 (top s v : Nat), h) := by
  refine C_go t_spec_l10Top rfl ?_
  unfold F_spec_l10Top
  simp only [go_sem]
  refine w_meas (s.N - v) (fun m t loc h' => h' = h ∧ t 0 = p7 b 0 ∧ ∃ u : Nat, t 1 = .int .i64 (u : Nat) ∧ u < s.N ∧ m = s.N - u ∧ top s u = top s v) ⟨rfl, rfl, v, rfl, hv, rfl, rfl⟩ ?_
  rintro m t loc h' ⟨rfl, t0, u, t1, hul, hm, ht⟩
  cases hup : s.up u with
  | none =>
    have n4 := R.n4 hul
    rw [hup] at n4
    have hn : ¬ (upI none ≥ 0) := by show ¬ ((-1 : Int) ≥ 0); omega
    have hs := top_self hu hup
    simp only [t0, t1, R.chk, R.fa, R.ld3, R.nia hul, R.nfa hul, n4, hn, Nat.zero_add, go_sem]
    rw [← ht, hs]
  | some p =>
    have n4 := R.n4 hul
    rw [hup] at n4
    have hp := hu _ _ hup
    have hn : upI (some p) ≥ 0 := by show ((p : Int) ≥ 0); omega
    simp only [t0, t1, R.chk, R.fa, R.ld3, R.nia hul, R.nfa hul, n4, hn, Nat.zero_add, go_sem]
    exact ⟨s.N - p, by omega, p, rfl, hp.2, rfl, by rw [← top_step hu hup]; exact ht⟩
end
end Go.Proofs.Ytafhipglhnfgnaa.Ab
set_option linter.unusedSimpArgs false
set_option linter.unusedVariables false
set_option linter.unnecessarySimpa false
set_option maxHeartbeats 4000000
namespace Go.Proofs.Ytafhipglhnfgnaa.Ab
open Go.RowKit
noncomputable def tP (p : Prop) : Bool := @decide p (Classical.propDecidable p)
theorem tP_t {p : Prop} (h : p) : tP p = true := by unfold tP; exact @decide_eq_true p (Classical.propDecidable p) h
theorem tP_f {p : Prop} (h : ¬ p) : tP p = false := by unfold tP; exact @decide_eq_false p (Classical.propDecidable p) h
structure Sm (s : Sv) : Prop where
  n : s.n ≤ 9
  N : s.N ≤ 400
  y : ∀ v, v < s.n → -100000000 ≤ s.y v ∧ s.y v ≤ 100000000
  z : ∀ p, p < s.N → -100000000 ≤ s.z p ∧ s.z p ≤ 100000000
def mateR (s : Sv) (i : Nat) (x : Lk) : Option Lk := if top s x.f = i then some x else if top s x.t = i then some x.rev else none
def mateL (s : Sv) (i : Nat) (M : List Lk) : Option Lk := M.findSome? (mateR s i)
structure MtOk (es : List E) (s : Sv) (M : List Lk) : Prop where
  of : ∀ x ∈ M, ∃ e, IsE es e x ∧ s.mate (top s x.f) = some e ∧ s.mate (top s x.t) = some e ∧ top s x.f ≠ top s x.t ∧ IsTop s (top s x.f) ∧ IsTop s (top s x.t)
  all : ∀ t e, IsTop s t → s.mate t = some e → ∃ x ∈ M, IsE es e x
  nd : M.Pairwise fun x y => ∀ e, IsE es e x → ¬ IsE es e y
  le : M.length ≤ 400
theorem zSum_low {s : Sv} {a c : Nat} : ∀ {k}, k ≤ s.n → zSum s a c k = 0
  | 0, _ => rfl
  | k + 1, h => by
    unfold zSum
    rw [zSum_low (by omega), if_neg (fun q => by omega)]
    rfl
theorem zSum_bnd {s : Sv} (hs : Sm s) {a c : Nat} : ∀ {k}, k ≤ s.N → -100000000 * (k : Int) ≤ zSum s a c k ∧ zSum s a c k ≤ 100000000 * (k : Int)
  | 0, _ => by unfold zSum; omega
  | k + 1, h => by
    have ih := zSum_bnd hs (a := a) (c := c) (k := k) (by omega)
    have hz := hs.z k (by omega)
    unfold zSum
    split <;> omega
theorem ends_lt {es : List E} {s : Sv} (K : Ok es s) {e : Nat} {x : Lk} (h : IsE es e x) : x.f < s.n ∧ x.t < s.n := by
  have := K.ed e h.1
  rcases h.2 with ⟨h1, h2⟩ | ⟨h1, h2⟩ <;> omega
theorem isE_uniq {es : List E} {size : Int} (g : GOk size es) {e e' : Nat} {x : Lk} (h : IsE es e x) (h' : IsE es e' x) : e = e' := by
  have a1 := gok_int g h.1
  have a2 := gok_int g h'.1
  have i1 := edge_ix g h.1
  have i2 := edge_ix g h'.1
  have e1 : vA es e = vA es e' ∧ vB es e = vB es e' := by
    rcases h.2 with ⟨h1, h2⟩ | ⟨h1, h2⟩ <;> rcases h'.2 with ⟨h3, h4⟩ | ⟨h3, h4⟩ <;> omega
  rw [a1.1, a1.2.1, e1.1, e1.2, ← a2.1, ← a2.2.1] at i1
  have : (e : Int) = e' := i1.symm.trans i2
  omega
theorem isE_jn {es : List E} {s : Sv} {e a c : Nat} (hj : Jn es s e a c) : ∀ {x : Lk}, IsE es e x → (Wi s x.f a ∧ Wi s x.t c) ∨ (Wi s x.t a ∧ Wi s x.f c) := fun h => by
  rcases h.2 with ⟨h1, h2⟩ | ⟨h1, h2⟩ <;> rcases hj.2 with ⟨h3, h4⟩ | ⟨h3, h4⟩ <;> rw [h1, h2]
  · exact .inl ⟨h3, h4⟩
  · exact .inr ⟨h3, h4⟩
  · exact .inr ⟨h3, h4⟩
  · exact .inl ⟨h3, h4⟩
section
variable {es : List E} {s : Sv} {M : List Lk} {i e : Nat} {x : Lk}
theorem mateL_some (K : Ok es s) (m : MtOk es s M) (h : mateL s i M = some x) : IsTop s i ∧ ∃ e, IsE es e x ∧ s.mate i = some e ∧ top s x.f = i ∧ IsTop s (top s x.t) ∧ s.mate (top s x.t) = some e ∧ top s x.t ≠ i := by
  obtain ⟨u, hu, hr⟩ := List.exists_of_findSome?_eq_some h
  obtain ⟨e, h1, h2, h3, h4, h5, h6⟩ := m.of u hu
  unfold mateR at hr
  split at hr
  · next c =>
    cases hr
    rw [c] at h2 h4 h5
    exact ⟨h5, e, h1, h2, c, h6, h3, fun q => h4 q.symm⟩
  · split at hr
    · next c =>
      cases hr
      rw [c] at h3 h4 h6
      exact ⟨h6, e, h1.rev, h3, c, h5, h2, h4⟩
    · cases hr
theorem mateL_none (K : Ok es s) (m : MtOk es s M) (h : mateL s i M = none) (ht : IsTop s i) : s.mate i = none := by
  cases hm : s.mate i with
  | none => rfl
  | some e =>
    exfalso
    obtain ⟨u, hu, h1⟩ := m.all i e ht hm
    have h2 := List.findSome?_eq_none_iff.1 h u hu
    obtain ⟨_, o, ho, hne, hmo, hj⟩ := K.mate i e ht hm
    have hi := K.upOk
    unfold mateR at h2
    rcases isE_jn hj h1 with ⟨q, _⟩ | ⟨q, _⟩
    · rw [if_pos (top_of hi q ht.2.1)] at h2; cases h2
    · by_cases c : top s u.f = i
      · rw [if_pos c] at h2; cases h2
      · rw [if_neg c, if_pos (top_of hi q ht.2.1)] at h2; cases h2
theorem mateL_iff (K : Ok es s) (m : MtOk es s M) (ht : IsTop s i) : (mateL s i M).isSome = true ↔ ∃ e, s.mate i = some e := by
  constructor
  · intro h
    cases hm : mateL s i M with
    | none => rw [hm] at h; cases h
    | some x => obtain ⟨_, e, _, h2, _⟩ := mateL_some K m hm; exact ⟨e, h2⟩
  · rintro ⟨e, he⟩
    cases hm : mateL s i M with
    | none => rw [mateL_none K m hm ht] at he; cases he
    | some x => rfl
end
section
variable {X : CallF} {g : Tags} {h : Heap} {b k v t i : Nat} {es : List E} {s : Sv} {M : List Lk} {dn : Bool} {V : RV}
open Classical in
theorem k_l10Within (R : Rn g h b es s M k dn V) (hu : UpOk s) (hv : v < s.N) : C T X n_spec_l10Within [p7 b 0, .int .i64 (v : Nat), .int .i64 (t : Nat)] h = some (.bool (tP (Wi s v t)), h) := by
  refine C_go t_spec_l10Within rfl ?_
  unfold F_spec_l10Within
  simp only [go_sem]
  refine w_meas (s.N + 1) (fun m t' loc h' => h' = h ∧ t' 0 = p7 b 0 ∧ t' 2 = .int .i64 (t : Nat) ∧ ((∃ u : Nat, t' 1 = .int .i64 (u : Nat) ∧ u < s.N ∧ m + u = s.N + 1 + v ∧ v ≤ u ∧ (Wi s u t ↔ Wi s v t)) ∨ (t' 1 = .int .i64 (-1) ∧ ¬ Wi s v t))) ⟨rfl, rfl, rfl, .inl ⟨v, rfl, hv, by omega, Nat.le_refl _, Iff.rfl⟩⟩ ?_
  rintro m t' loc h' ⟨rfl, t0, t2, ⟨u, t1, hul, hm, hvu, hw⟩ | ⟨t1, hw⟩⟩
  · by_cases c : (u : Int) = (t : Int)
    · have e : u = t := by omega
      subst e
      have hc : ((u : Int) ≥ 0) := by omega
      have hy : Wi s v u := hw.1 (.refl _)
      simp only [t0, t1, t2, hc, go_sem]
      exact (tP_t hy).symm
    · have hc : ((u : Int) ≥ 0) := by omega
      have n4 := R.n4 hul
      cases hup : s.up u with
      | none =>
        rw [hup] at n4
        have n4' : ldC h' (elemP V.nv 6 u 4) 1 = some [.int .i64 (-1)] := n4
        have hn : ¬ Wi s v t := fun q => by
          have := (hw.2 q).top_eq hup
          omega
        simp only [t0, t1, t2, c, hc, R.chk, R.fa, R.ld3, R.nia hul, R.nfa hul, n4', Nat.zero_add, go_sem]
        exact ⟨m - 1, by omega, .inr hn⟩
      | some p =>
        rw [hup] at n4
        have n4' : ldC h' (elemP V.nv 6 u 4) 1 = some [.int .i64 (p : Nat)] := n4
        have hp := hu _ _ hup
        have hw' : Wi s p t ↔ Wi s v t := by
          rw [← hw]
          constructor
          · exact fun q => .step hup q
          · intro q
            cases q with
            | refl => omega
            | step e q => rw [hup] at e; cases e; exact q
        simp only [t0, t1, t2, c, hc, R.chk, R.fa, R.ld3, R.nia hul, R.nfa hul, n4', Nat.zero_add, go_sem]
        exact ⟨m - (p - u), by omega, p, rfl, hp.2, by omega, by omega, hw'⟩
  · have hc : ¬ ((-1 : Int) = (t : Int)) := by omega
    simp only [t0, t1, t2, hc, go_sem]
    exact (tP_f hw).symm
theorem up_nn {o : Option Nat} : (upI o < 0) ↔ o = none := by
  cases o with
  | none => exact ⟨fun _ => rfl, fun _ => by show (-1 : Int) < 0; omega⟩
  | some p => exact ⟨fun q => by have : (p : Int) < 0 := q; omega, fun q => by cases q⟩
open Classical in
theorem k_l10IsTop (R : Rn g h b es s M k dn V) (hi : i < s.N) : C T X n_spec_l10IsTop [p7 b 0, .int .i64 (i : Nat)] h = some (.bool (tP (IsTop s i)), h) := by
  refine C_go t_spec_l10IsTop rfl ?_
  unfold F_spec_l10IsTop
  have n5 := R.n5 hi
  have n4 := R.n4 hi
  cases hg : s.gone i with
  | true =>
    rw [hg] at n5
    simp only [R.chk, R.fa, R.ld3, R.nia hi, R.nfa hi, n5, Nat.zero_add, List.prefix_refl, go_sem]
    exact (tP_f fun q => by rw [q.2.2] at hg; cases hg).symm
  | false =>
    rw [hg] at n5
    by_cases c : upI (s.up i) < 0
    · simp only [R.chk, R.fa, R.ld3, R.nia hi, R.nfa hi, n5, n4, c, Nat.zero_add, List.prefix_refl, go_sem]
      exact (tP_t ⟨hi, up_nn.1 c, hg⟩).symm
    · simp only [R.chk, R.fa, R.ld3, R.nia hi, R.nfa hi, n5, n4, c, Nat.zero_add, List.prefix_refl, go_sem]
      exact (tP_f fun q => c (up_nn.2 q.2.1)).symm
def mateV (o : Option Lk) : Value := .tuple ⟨[.agg ⟨lkR (o.getD l0)⟩, .bool o.isSome]⟩
theorem k_l10Mate (R : Rn g h b es s M k dn V) (hu : UpOk s) (hM : ∀ x ∈ M, x.f < s.N ∧ x.t < s.N) (hl : M.length ≤ 400) : C T X n_spec_l10Mate [p7 b 0, .int .i64 (i : Nat)] h = some (mateV (mateL s i M), h) := by
  refine C_go t_spec_l10Mate rfl ?_
  unfold F_spec_l10Mate mateV
  simp only [go_sem]
  refine w_for M.length (fun j t loc h' => h' = h ∧ t 0 = p7 b 0 ∧ t 1 = .int .i64 (i : Nat) ∧ t 6 = .int .i64 (j : Nat) ∧ loc 4 = some [.int .i64 0, .int .i64 0] ∧ ∀ q, q < j → mateR s i (M.getD q l0) = none) ⟨rfl, rfl, rfl, rfl, rfl, fun q hq => by omega⟩ ?_
  rintro j t loc h' hj ⟨rfl, t0, t1, t6, l4, hq⟩
  simp only [t0, t6, R.chk, R.fa, R.ld4, R.mln, Nat.zero_add, go_sem]
  refine w_open (by simp only [go_sem]; rfl) ?_ ?_ <;> intro hc
  · have hj1 : j < M.length := by omega
    have hw : IntKind.i64.wrap ((j : Int) + 1) = ((j + 1 : Nat) : Int) := w64 (by omega) (by omega)
    obtain ⟨m1, m2, m3⟩ := R.mia hj1
    obtain ⟨hx1, hx2⟩ := hM _ (getD_mem (d := l0) hj1)
    obtain ⟨x, hx⟩ : ∃ x, x = M.getD j l0 := ⟨_, rfl⟩
    rw [← hx] at m3 hx1 hx2
    have c1 := k_l10Top (X := X) R hu hx1
    have c2 := k_l10Top (X := X) R hu hx2
    have found : ∀ y, mateR s i x = some y → mateL s i M = some y := fun y hy => by
      unfold mateL
      have e : M = M.take j ++ x :: M.drop (j + 1) := by rw [hx, List.getD_eq_getElem?_getD, List.getElem?_eq_getElem hj1, Option.getD_some, ← List.drop_eq_getElem_cons hj1, List.take_append_drop]
      rw [e, List.findSome?_append]
      have : (M.take j).findSome? (mateR s i) = none := by
        rw [List.findSome?_eq_none_iff]
        intro u hu'
        obtain ⟨q, hq1, hq2⟩ := mem_getD (d := l0) hu'
        rw [List.length_take] at hq1
        have := hq q (by omega)
        rw [← hq2]
        have e2 : (M.take j).getD q l0 = M.getD q l0 := by simp [List.getD_eq_getElem?_getD, List.getElem?_take, show q < j by omega]
        rw [e2]
        exact this
      rw [this]
      simp [hy]
    by_cases d1 : (top s x.f : Int) = (i : Int)
    · have hm := found x (by unfold mateR; rw [if_pos (by omega)])
      rw [hm]
      simp only [t0, t1, t6, l4, R.chk, R.fa, R.ld4, m1, m2, m3, lkR, c1, d1, Nat.zero_add, List.prefix_refl, go_sem]
      rfl
    · by_cases d2 : (top s x.t : Int) = (i : Int)
      · have hm := found x.rev (by unfold mateR; rw [if_neg (by omega), if_pos (by omega)])
        rw [hm]
        simp only [t0, t1, t6, l4, R.chk, R.fa, R.ld4, m1, m2, m3, lkR, c1, c2, d1, d2, Nat.zero_add, List.prefix_refl, go_sem]
        rfl
      · simp only [t0, t1, t6, l4, R.chk, R.fa, R.ld4, m1, m2, m3, lkR, c1, c2, d1, d2, hw, Nat.zero_add, List.prefix_refl, go_sem]
        refine ⟨hj1, fun q hq' => ?_⟩
        by_cases e : q = j
        · rw [e, ← hx]
          unfold mateR
          rw [if_neg (by omega), if_neg (by omega)]
        · exact hq q (by omega)
  · have hm : mateL s i M = none := by
      unfold mateL
      rw [List.findSome?_eq_none_iff]
      intro u hu'
      obtain ⟨q, hq1, hq2⟩ := mem_getD (d := l0) hu'
      rw [← hq2]
      exact hq q (by omega)
    rw [hm]
    simp only [t0, t1, t6, l4, go_sem]
    rfl
def baseR (s : Sv) (bs : Nat → Nat) (M : List Lk) (i : Nat) : Nat := match mateL s i M with
  | some x => x.f
  | none => bs i
theorem k_l10Base (R : Rn g h b es s M k dn V) (hu : UpOk s) (hM : ∀ x ∈ M, x.f < s.N ∧ x.t < s.N) (hl : M.length ≤ 400) (hi : i < s.N) : C T X n_spec_l10Base [p7 b 0, .int .i64 (i : Nat)] h = some (.int .i64 ((baseR s V.bs M i : Nat) : Int), h) := by
  have c := k_l10Mate (X := X) (i := i) R hu hM hl
  unfold mateV at c
  refine C_go t_spec_l10Base rfl ?_
  unfold F_spec_l10Base baseR
  cases hm : mateL s i M with
  | some x =>
    rw [hm] at c
    simp only [Option.getD_some, Option.isSome_some, lkR] at c
    simp only [c, R.chk, R.fa, R.ld3, R.nia hi, R.nfa hi, R.n2 hi, Nat.zero_add, List.prefix_refl, go_sem]
  | none =>
    rw [hm] at c
    simp only [Option.getD_none, Option.isSome_none, lkR] at c
    simp only [c, R.chk, R.fa, R.ld3, R.nia hi, R.nfa hi, R.n2 hi, Nat.zero_add, List.prefix_refl, go_sem]
def leastI (a b : Int) : Int := if a < 0 ∨ b < a then b else a
theorem k_l10Least {a c : Int} : C T X n_spec_l10Least [.int .i64 a, .int .i64 c] h = some (.int .i64 (leastI a c), h) := by
  refine C_go t_spec_l10Least rfl ?_
  unfold F_spec_l10Least leastI
  by_cases c1 : a < 0
  · rw [if_pos (.inl c1)]
    simp only [c1, go_sem]
  · by_cases c2 : c < a
    · rw [if_pos (.inr c2)]
      simp only [c1, c2, go_sem]
    · rw [if_neg (by omega)]
      simp only [c1, c2, go_sem]
end
end Go.Proofs.Ytafhipglhnfgnaa.Ab
set_option linter.unusedSimpArgs false
set_option linter.unusedVariables false
set_option linter.unnecessarySimpa false
set_option maxHeartbeats 4000000
namespace Go.Proofs.Ytafhipglhnfgnaa.Ab
open Go.RowKit
section
variable {X : CallF} {g : Tags} {h : Heap} {b k v t i : Nat} {es : List E} {s : Sv} {M : List Lk} {dn : Bool} {V : RV}
open Classical in
theorem k_l10Slack {size : Int} (R : Rn g h b es s M k dn V) (K : Ok es s) (hs : Sm s) (gk : GOk size es) (hi : i < es.length) : C T X n_spec_l10Slack [p7 b 0, edgeV (es.getD i e0)] h = some (.int .i64 (slk es s i), h) := by
  obtain ⟨hE, hEB⟩ := K.ed i hi
  obtain ⟨ga, gb, _⟩ := gok_int gk hi
  obtain ⟨w0, w1⟩ := gok_w gk hi
  have hu := K.upOk
  have nN := K.nN
  have cs := k_spec_Scalar (X := X) (h := h) (e := es.getD i e0) (eok_w (gok_mem gk (getD_mem (d := e0) hi)))
  obtain ⟨q, hq⟩ : ∃ q, q = es.getD i e0 := ⟨_, rfl⟩
  have hsc : scalar (es.getD i e0).w1 (es.getD i e0).w2 (es.getD i e0).w3 = vW es i := rfl
  rw [hsc] at cs
  rw [← hq] at cs ga gb ⊢
  unfold edgeV edgeR at cs ⊢
  rw [ga, gb] at cs ⊢
  obtain ⟨y1, y2⟩ := hs.y _ hE
  obtain ⟨y3, y4⟩ := hs.y _ hEB.1
  obtain ⟨a1, a2⟩ := R.yia hE
  obtain ⟨b1, b2⟩ := R.yia hEB.1
  have x1 : IntKind.i64.wrap (s.y (vA es i) + s.y (vB es i)) = s.y (vA es i) + s.y (vB es i) := w64 (by omega) (by omega)
  have x2 : IntKind.i64.wrap (2 * vW es i) = 2 * vW es i := w64 (by omega) (by omega)
  have x3 : IntKind.i64.wrap (s.y (vA es i) + s.y (vB es i) - 2 * vW es i) = s.y (vA es i) + s.y (vB es i) - 2 * vW es i := w64 (by omega) (by omega)
  refine C_go t_spec_l10Slack rfl ?_
  unfold F_spec_l10Slack
  simp only [cs, R.chk, R.fa, R.ld0, R.ld2, a1, a2, b1, b2, x1, x2, x3, Nat.zero_add, List.prefix_refl, zeros, fillAt, go_sem]
  refine w_for (s.N - s.n) (fun j t' loc h' => h' = h ∧ t' 0 = p7 b 0 ∧ t' 6 = .int .i64 ((s.n + j : Nat) : Int) ∧ loc 3 = some [.int .i64 (vA es i : Int), .int .i64 (vB es i : Int), .int .i64 q.w1, .int .i64 q.w2, .int .i64 q.w3] ∧ t' 5 = .int .i64 (s.y (vA es i) + s.y (vB es i) - 2 * vW es i + zSum s (vA es i) (vB es i) (s.n + j))) ⟨rfl, rfl, rfl, rfl, by rw [zSum_low (by omega), Int.add_zero]; rfl⟩ ?_
  rintro j t' loc h' hj ⟨rfl, t0, t6, l3, t5⟩
  simp only [t0, t6, R.chk, R.fa, R.ld3, R.nln, Nat.zero_add, go_sem]
  refine w_open (by simp only [go_sem]; rfl) ?_ ?_ <;> intro hc
  · have hj1 : s.n + j < s.N := by omega
    have h9 := hs.N
    have hw : IntKind.i64.wrap (((s.n + j : Nat) : Int) + 1) = ((s.n + (j + 1) : Nat) : Int) := w64 (by omega) (by omega)
    have n5 := R.n5 hj1
    have n3 := R.n3 hj1
    have d1 := k_l10Within (X := X) (t := s.n + j) R hu (v := vA es i) (by omega)
    have d2 := k_l10Within (X := X) (t := s.n + j) R hu (v := vB es i) (by omega)
    obtain ⟨z1, z2⟩ := hs.z _ hj1
    obtain ⟨z3, z4⟩ := zSum_bnd hs (a := vA es i) (c := vB es i) (k := s.n + j) (by omega)
    have h9 := hs.N
    have zs : zSum s (vA es i) (vB es i) (s.n + (j + 1)) = zSum s (vA es i) (vB es i) (s.n + j) + if s.n ≤ s.n + j ∧ Wi s (vA es i) (s.n + j) ∧ Wi s (vB es i) (s.n + j) then s.z (s.n + j) else 0 := rfl
    cases hg : s.gone (s.n + j) with
    | true =>
      rw [hg] at n5
      have nw : ¬ (s.n ≤ s.n + j ∧ Wi s (vA es i) (s.n + j) ∧ Wi s (vB es i) (s.n + j)) := fun q => by
        rcases q.2.1.last with e | ⟨m, e, _⟩
        · omega
        · have := (K.up _ _ e).2.1.2.2; rw [hg] at this; cases this
      rw [if_neg nw, Int.add_zero] at zs
      simp only [t0, t5, t6, l3, R.chk, R.fa, R.ld3, R.nia hj1, R.nfa hj1, n5, hw, Nat.zero_add, List.prefix_refl, go_sem]
      exact ⟨by omega, by rw [zs]⟩
    | false =>
      rw [hg] at n5
      by_cases c1 : Wi s (vA es i) (s.n + j)
      · rw [tP_t c1] at d1
        by_cases c2 : Wi s (vB es i) (s.n + j)
        · rw [tP_t c2] at d2
          rw [if_pos ⟨by omega, c1, c2⟩] at zs
          have x4 : IntKind.i64.wrap (s.y (vA es i) + s.y (vB es i) - 2 * vW es i + zSum s (vA es i) (vB es i) (s.n + j) + s.z (s.n + j)) = s.y (vA es i) + s.y (vB es i) - 2 * vW es i + zSum s (vA es i) (vB es i) (s.n + j) + s.z (s.n + j) := w64 (by omega) (by omega)
          simp only [t0, t5, t6, l3, R.chk, R.fa, R.ld3, R.nia hj1, R.nfa hj1, n5, n3, d1, d2, x4, hw, Nat.zero_add, List.prefix_refl, go_sem]
          exact ⟨by omega, by rw [zs, Int.add_assoc]⟩
        · rw [tP_f c2] at d2
          rw [if_neg (fun q => c2 q.2.2), Int.add_zero] at zs
          simp only [t0, t5, t6, l3, R.chk, R.fa, R.ld3, R.nia hj1, R.nfa hj1, n5, d1, d2, hw, Nat.zero_add, List.prefix_refl, go_sem]
          exact ⟨by omega, by rw [zs]⟩
      · rw [tP_f c1] at d1
        rw [if_neg (fun q => c1 q.2.1), Int.add_zero] at zs
        simp only [t0, t5, t6, l3, R.chk, R.fa, R.ld3, R.nia hj1, R.nfa hj1, n5, d1, hw, Nat.zero_add, List.prefix_refl, go_sem]
        exact ⟨by omega, by rw [zs]⟩
  · have : s.n + j = s.N := by omega
    simp only [t5, go_sem]
    rw [this]
    rfl
def FirstOk (s : Sv) (L : List Nat) (i : Nat) : Prop := IsTop s i ∧ s.z i = 0 ∧ (L = [] ∨ L.getD i 0 = 2)
theorem k_l10First {lv : Value} {L : List Nat} (R : Rn g h b es s M k dn V) (hs : Sm s) (nN : s.n ≤ s.N) (hL : Rows h 1 lv (ints (natI L))) (hl : L = [] ∨ L.length = s.N) :
    ∃ r : Int, C T X n_spec_l10First [p7 b 0, lv] h = some (.int .i64 r, h) ∧ ((r = -1 ∧ ∀ i, s.n ≤ i → i < s.N → ¬ FirstOk s L i) ∨ ∃ i : Nat, r = i ∧ s.n ≤ i ∧ i < s.N ∧ FirstOk s L i) := by
  suffices hx : ∃ w hh, C T X n_spec_l10First [p7 b 0, lv] h = some (w, hh) ∧ hh = h ∧ ∃ r : Int, w = .int .i64 r ∧ ((r = -1 ∧ ∀ i, s.n ≤ i → i < s.N → ¬ FirstOk s L i) ∨ ∃ i : Nat, r = i ∧ s.n ≤ i ∧ i < s.N ∧ FirstOk s L i) by
    obtain ⟨w, hh, c, rfl, r, rfl, q⟩ := hx
    exact ⟨r, c, q⟩
  refine C_ex t_spec_l10First rfl ?_
  unfold F_spec_l10First
  simp only [R.chk, R.fa, R.ld0, Nat.zero_add, go_sem]
  refine w_for (s.N - s.n) (fun j t' loc h' => h' = h ∧ t' 0 = p7 b 0 ∧ t' 1 = lv ∧ t' 5 = .int .i64 ((s.n + j : Nat) : Int) ∧ ∀ q, s.n ≤ q → q < s.n + j → ¬ FirstOk s L q) ⟨rfl, rfl, rfl, rfl, fun q h1 h2 => by omega⟩ ?_
  rintro j t' loc h' hj ⟨rfl, t0, t1, t5, hq⟩
  have h9 := hs.N
  simp only [t0, t5, R.chk, R.fa, R.ld3, R.nln, Nat.zero_add, go_sem]
  refine w_open (by simp only [go_sem]; rfl) ?_ ?_ <;> intro hc
  · have hj1 : s.n + j < s.N := by omega
    have hw : IntKind.i64.wrap (((s.n + j : Nat) : Int) + 1) = ((s.n + (j + 1) : Nat) : Int) := w64 (by omega) (by omega)
    have n3 := R.n3 hj1
    have d1 := k_l10IsTop (X := X) R hj1
    have next : ¬ FirstOk s L (s.n + j) → ∀ q, s.n ≤ q → q < s.n + (j + 1) → ¬ FirstOk s L q := fun hn q h1 h2 => by
      by_cases e : q = s.n + j
      · rw [e]; exact hn
      · exact hq q h1 (by omega)
    by_cases c1 : IsTop s (s.n + j)
    rotate_left
    · rw [tP_f c1] at d1
      simp only [t0, t1, t5, R.chk, R.fa, R.ld3, R.nia hj1, R.nfa hj1, n3, d1, hw, Nat.zero_add, List.prefix_refl, go_sem]
      exact ⟨by omega, next fun q => c1 q.1⟩
    rw [tP_t c1] at d1
    by_cases c2 : s.z (s.n + j) = 0
    rotate_left
    · simp only [t0, t1, t5, R.chk, R.fa, R.ld3, R.nia hj1, R.nfa hj1, n3, d1, c2, hw, Nat.zero_add, List.prefix_refl, go_sem]
      exact ⟨by omega, next fun q => c2 q.2.1⟩
    have hln : lnV h' lv = some (.int .i64 (L.length : Nat)) := by
      have := hL.ln
      rw [ints_len] at this
      unfold natI at this
      rw [List.length_map] at this
      exact this
    by_cases c3 : (L.length : Int) = 0
    · simp only [t0, t1, t5, hln, R.chk, R.fa, R.ld3, R.nia hj1, R.nfa hj1, n3, d1, c2, c3, hw, Nat.zero_add, List.prefix_refl, go_sem]
      exact ⟨_, rfl, .inr ⟨s.n + j, rfl, by omega, hj1, c1, c2, .inl (List.length_eq_zero_iff.1 (by omega))⟩⟩
    · have hll : L.length = s.N := by
        rcases hl with q | q
        · rw [q] at c3; simp at c3
        · exact q
      have hlj : s.n + j < (natI L).length := by unfold natI; rw [List.length_map]; omega
      have el := hL.el (f := fun n : Int => [.int .i64 n]) (l := natI L) 0 hlj
      have hg : (natI L).getD (s.n + j) 0 = ((L.getD (s.n + j) 0 : Nat) : Int) := by
        unfold natI
        simp [List.getD_eq_getElem?_getD, show s.n + j < L.length by omega]
      rw [hg] at el
      by_cases c4 : ((L.getD (s.n + j) 0 : Nat) : Int) = 2
      · simp only [t0, t1, t5, hln, el.1, el.2.2, R.chk, R.fa, R.ld3, R.nia hj1, R.nfa hj1, n3, d1, c2, c3, c4, hw, Nat.zero_add, List.prefix_refl, go_sem]
        exact ⟨_, rfl, .inr ⟨s.n + j, rfl, by omega, hj1, c1, c2, .inr (by omega)⟩⟩
      · simp only [t0, t1, t5, hln, el.1, el.2.2, R.chk, R.fa, R.ld3, R.nia hj1, R.nfa hj1, n3, d1, c2, c3, c4, hw, Nat.zero_add, List.prefix_refl, go_sem]
        refine ⟨by omega, next fun q => ?_⟩
        rcases q.2.2 with e | e
        · rw [e] at c3; simp at c3
        · omega
  · simp only [go_sem]
    exact ⟨_, rfl, .inl ⟨rfl, fun i h1 h2 => hq i h1 (by omega)⟩⟩
end
end Go.Proofs.Ytafhipglhnfgnaa.Ab
set_option linter.unusedSimpArgs false
set_option linter.unusedVariables false
set_option linter.unnecessarySimpa false
set_option maxHeartbeats 4000000
namespace Go.Proofs.Ytafhipglhnfgnaa.Ab
open Go.RowKit
structure Tl (es : List E) (s : Sv) (l : Lb) (L : List Nat) (A : List Lk) (Q : List Nat) : Prop where
  ln : L.length = s.N ∧ A.length = s.N ∧ Q.length = s.N
  lab : ∀ t, t < s.N → L.getD t 0 = l.lab t
  ah : ∀ t o, t < s.N → l.ahead t = some o → ∃ e, l.byE t = some e ∧ IsE es e (A.getD t l0) ∧ top s (A.getD t l0).f = o ∧ top s (A.getD t l0).t = t
  rt : ∀ t, t < s.N → l.lab t ≠ 0 → ∃ ws, IsWay l ws ∧ ws.getD 0 0 = t ∧ Q.getD t 0 = ws.getD (ws.length - 1) 0
def slv (c n : Nat) : Value := .slice (some ⟨c, 0, none⟩) n n
def p3 (b k : Nat) : Value := .pointer (some ⟨b, k, some 3⟩)
structure Tp (h : Heap) (lo N : Nat) (L : List Nat) (A : List Lk) (Q : List Nat) : Prop where
  blk : h[lo + 3]? = some ⟨[slv lo N, slv (lo + 1) N, slv (lo + 2) N], 3, y_l10Tops, true⟩
  l : Own h lo (lo + 1) 1 y_int (slv lo N) (ints (natI L))
  a : Own h (lo + 1) (lo + 2) 2 y_l10Link (slv (lo + 1) N) (A.map lkR)
  q : Own h (lo + 2) (lo + 3) 1 y_int (slv (lo + 2) N) (ints (natI Q))
  ln : L.length = N ∧ A.length = N ∧ Q.length = N
theorem natI_get {l : List Nat} {i : Nat} (h : i < l.length) : (natI l).getD i 0 = ((l.getD i 0 : Nat) : Int) := by
  unfold natI
  simp [List.getD_eq_getElem?_getD, h]
theorem natI_len {l : List Nat} : (natI l).length = l.length := by unfold natI; rw [List.length_map]
section
variable {h h' : Heap} {lo N i : Nat} {L Q : List Nat} {A : List Lk}
theorem Tp.up (P : Tp h lo N L A Q) (hp : h <+: h') : Tp h' lo N L A Q := ⟨pre_get hp P.blk, P.l.up hp, P.a.up hp, P.q.up hp, P.ln⟩
theorem Tp.tn {g g' : Tags} {b : Nat} {T : Tg → Prop} (P : Tp h lo N L A Q) (f : Tn b T g h g' h') (hb : b < lo) (hg : ∀ c, lo ≤ c → c < lo + 4 → g c = none) : Tp h' lo N L A Q := by
  have hl := lt_of_get P.blk
  have key : ∀ c, lo ≤ c → c < lo + 4 → h'[c]? = h[c]? := fun c h1 h2 => f.blk c (by omega) (by omega) fun τ q => by rw [hg c h1 h2] at q; cases q
  have own : ∀ {c sz : Nat} {ty : TypeId} {v : Value} {rws : List (List Value)}, lo ≤ c → c < lo + 4 → Own h c (c + 1) sz ty v rws → Own h' c (c + 1) sz ty v rws := fun h1 h2 o => by
    refine ⟨o.len, ?_⟩
    rcases o.is with q | ⟨x, l1, l2, l3, l4⟩
    · exact .inl q
    · exact .inr ⟨x, l1, l2, l3, by rw [key x (by omega) (by omega)]; exact l4⟩
  exact ⟨by rw [key _ (by omega) (by omega)]; exact P.blk, own (by omega) (by omega) P.l, own (by omega) (by omega) P.a, own (by omega) (by omega) P.q, P.ln⟩
theorem Tp.chk (P : Tp h lo N L A Q) : chkV h (p3 (lo + 3) 0) = some (p3 (lo + 3) 0) := by simp [chkV, ldC, p3, P.blk]
theorem Tp.fa (P : Tp h lo N L A Q) : ∀ i j, faV h (p3 (lo + 3) i) j = some (p3 (lo + 3) (i + j)) := fun i j => by simp [faV, p3, P.blk]
theorem Tp.ld0 (P : Tp h lo N L A Q) : ldC h (p3 (lo + 3) 0) 1 = some [slv lo N] := by simp [ldC, p3, P.blk]
theorem Tp.ld1 (P : Tp h lo N L A Q) : ldC h (p3 (lo + 3) 1) 1 = some [slv (lo + 1) N] := by simp [ldC, p3, P.blk]
theorem Tp.ld2 (P : Tp h lo N L A Q) : ldC h (p3 (lo + 3) 2) 1 = some [slv (lo + 2) N] := by simp [ldC, p3, P.blk]
theorem nat_el {v : Value} {l : List Nat} (r : Rows h 1 v (ints (natI l))) (hi : i < l.length) : iaV h 1 v (.int .i64 (i : Nat)) = some (elemP v 1 i 0) ∧ ldC h (elemP v 1 i 0) 1 = some [.int .i64 ((l.getD i 0 : Nat) : Int)] := by
  have el := r.el (f := fun n : Int => [.int .i64 n]) (l := natI l) 0 (i := i) (by rw [natI_len]; exact hi)
  rw [natI_get hi] at el
  exact ⟨el.1, el.2.2⟩
theorem nat_ln {v : Value} {l : List Nat} (r : Rows h 1 v (ints (natI l))) : lnV h v = some (.int .i64 (l.length : Nat)) := by
  have := r.ln
  rw [ints_len, natI_len] at this
  exact this
theorem Tp.lel (P : Tp h lo N L A Q) (hi : i < N) : iaV h 1 (slv lo N) (.int .i64 (i : Nat)) = some (elemP (slv lo N) 1 i 0) ∧ ldC h (elemP (slv lo N) 1 i 0) 1 = some [.int .i64 ((L.getD i 0 : Nat) : Int)] := nat_el P.l.rows (by rw [P.ln.1]; exact hi)
theorem Tp.qel (P : Tp h lo N L A Q) (hi : i < N) : iaV h 1 (slv (lo + 2) N) (.int .i64 (i : Nat)) = some (elemP (slv (lo + 2) N) 1 i 0) ∧ ldC h (elemP (slv (lo + 2) N) 1 i 0) 1 = some [.int .i64 ((Q.getD i 0 : Nat) : Int)] := nat_el P.q.rows (by rw [P.ln.2.2]; exact hi)
theorem Tp.ael (P : Tp h lo N L A Q) (hi : i < N) : iaV h 2 (slv (lo + 1) N) (.int .i64 (i : Nat)) = some (elemP (slv (lo + 1) N) 2 i 0) ∧ (∀ o j, faV h (elemP (slv (lo + 1) N) 2 i o) j = some (elemP (slv (lo + 1) N) 2 i (o + j))) ∧ ldC h (elemP (slv (lo + 1) N) 2 i 0) 2 = some (lkR (A.getD i l0)) :=
  P.a.rows.el l0 (by rw [P.ln.2.1]; exact hi)
theorem Tp.a0 (P : Tp h lo N L A Q) (hi : i < N) : ldC h (elemP (slv (lo + 1) N) 2 i 0) 1 = some [.int .i64 ((A.getD i l0).f : Nat)] := P.a.rows.cell l0 (by rw [P.ln.2.1]; exact hi) (by omega)
end
section
variable {es : List E} {s : Sv} {l : Lb} {rk : Nat → Nat} {t : Nat} {L Q : List Nat} {A : List Lk} {ws : List Nat}
theorem way_lb (F : Fo es s l rk) : ∀ {ws : List Nat}, IsWay l ws → l.lab (ws.getD 0 0) ≠ 0 → ∀ t ∈ ws, l.lab t ≠ 0 ∧ rk t ≤ rk (ws.getD 0 0)
  | [a], _, h0, t, ht => by
    rw [List.mem_singleton.1 ht]
    exact ⟨h0, Nat.le_refl _⟩
  | a :: o :: xs, h, h0, t, ht => by
    obtain ⟨h1, h2⟩ := h
    have ha : l.lab a ≠ 0 := h0
    obtain ⟨r1, r2, _⟩ := F.rkAhead ha h1
    rcases List.mem_cons.1 ht with e | ht
    · rw [e]; exact ⟨ha, Nat.le_refl _⟩
    · have := way_lb F (ws := o :: xs) h2 r2 t ht
      refine ⟨this.1, ?_⟩
      have h3 : rk t ≤ rk o := this.2
      show rk t ≤ rk a
      omega
theorem Tl.root_iff (T : Tl es s l L A Q) (F : Fo es s l rk) (ht : t < s.N) (h0 : l.lab t ≠ 0) : Q.getD t 0 = t ↔ l.ahead t = none := by
  obtain ⟨ws, w1, w2, w3⟩ := T.rt t ht h0
  rw [w3]
  match ws, w1, w2 with
  | [a], w1, w2 =>
    have e : a = t := w2
    subst e
    exact ⟨fun _ => w1, fun _ => rfl⟩
  | a :: o :: xs, w1, w2 =>
    have e : a = t := w2
    subst e
    obtain ⟨h1, h2⟩ := w1
    have r := F.rkAhead h0 h1
    constructor
    · intro q
      exfalso
      have hm : (a :: o :: xs).getD ((a :: o :: xs).length - 1) 0 ∈ o :: xs := by
        have : (a :: o :: xs).getD ((a :: o :: xs).length - 1) 0 = (o :: xs).getD ((o :: xs).length - 1) 0 := by simp
        rw [this]
        exact getD_mem (d := 0) (by simp)
      have := (way_lb F (ws := o :: xs) h2 r.2.1 _ hm).2
      rw [q] at this
      have h3 : rk a ≤ rk o := this
      omega
    · intro q
      rw [q] at h1
      cases h1
end
section
variable {X : CallF} {g : Tags} {h : Heap} {b k t lo : Nat} {es : List E} {s : Sv} {l : Lb} {rk : Nat → Nat} {M : List Lk} {dn : Bool} {V : RV} {L Q : List Nat} {A : List Lk} {ws : List Nat}
theorem way_nd' (F : Fo es s l rk) : ∀ {ws : List Nat}, IsWay l ws → l.lab (ws.getD 0 0) ≠ 0 → ws.Nodup
  | [a], _, _ => by simp
  | a :: o :: xs, h, h0 => by
    obtain ⟨h1, h2⟩ := h
    have ha : l.lab a ≠ 0 := h0
    obtain ⟨r1, r2, _⟩ := F.rkAhead ha h1
    refine List.nodup_cons.2 ⟨fun q => ?_, way_nd' F (ws := o :: xs) h2 r2⟩
    have h3 : rk a ≤ rk o := (way_lb F (ws := o :: xs) h2 r2 a q).2
    omega
theorem way_len (F : Fo es s l rk) (hw : IsWay l ws) (h0 : l.lab (ws.getD 0 0) ≠ 0) : ws.length ≤ s.N := by
  have h1 := nsub_len (a := ws) (b := List.range s.N) (way_nd' F hw h0) fun t ht => List.mem_range.2 (F.top t (way_lb F hw h0 t ht).1).1
  rwa [List.length_range] at h1
theorem k_l10Way (R : Rn g h b es s M k dn V) (K : Ok es s) (hs : Sm s) (P : Tp h lo s.N L A Q) (D : Tl es s l L A Q) (F : Fo es s l rk) (hw : IsWay l ws) (h0 : l.lab (ws.getD 0 0) ≠ 0) :
    ∃ v h', C T X n_spec_l10Way [p7 b 0, p3 (lo + 3) 0, .int .i64 (ws.getD 0 0 : Nat)] h = some (v, h') ∧ h <+: h' ∧ Own h' h.length h'.length 1 y_int v (ints (natI ws)) := by
  refine C_ex t_spec_l10Way rfl ?_
  unfold F_spec_l10Way
  have hu := K.upOk
  have h9 := hs.N
  have hlen := way_len F hw h0
  obtain ⟨a0, ws', hws⟩ : ∃ a ws', ws = a :: ws' := by
    cases ws with
    | nil => exact hw.elim
    | cons a ws' => exact ⟨a, ws', rfl⟩
  have ha0 : ws.getD 0 0 = a0 := by rw [hws]; rfl
  have hlab := way_lb F hw h0
  simp only [zeros, fillAt, go_sem]
  refine w_meas ws.length (fun m t' loc h' => t' 0 = p7 b 0 ∧ t' 1 = p3 (lo + 3) 0 ∧ h <+: h' ∧ ∃ (pre rest : List Nat) (c : Nat) (v : Value), t' 2 = .int .i64 (c : Nat) ∧ t' 7 = v ∧ ws = pre ++ c :: rest ∧ IsWay l (c :: rest) ∧ m = rest.length + 1 ∧ Own h' h.length h'.length 1 y_int v (ints (natI (pre ++ [c])))) ⟨rfl, rfl, List.prefix_append _ _, [], ws', a0, .slice (some ⟨h.length, 0, none⟩) 1 1, by rw [← ha0]; rfl, rfl, hws, by rw [← hws]; exact hw, by rw [hws]; rfl, ?_⟩ ?_
  · rw [ha0]
    have := Own.made (h := h) (ty := y_int) (rws := ints (natI ([] ++ [a0]))) (sz := 1) (fun r hr => by simp [ints, natI] at hr; rw [hr]; rfl)
    simpa [ints, natI] using this
  · rintro m t' loc h' ⟨t0, t1, hp, pre, rest, c, v, t2, t7, hw1, hw2, hm, o⟩
    have R' := R.up hp
    have P' := P.up hp
    have hc := hlab c (by rw [hw1]; simp)
    have hcN : c < s.N := (F.top c hc.1).1
    have hri := D.root_iff F hcN hc.1
    obtain ⟨q1, q2⟩ := P'.qel hcN
    have hlen2 : (pre ++ [c]).length ≤ s.N := by
      rw [hw1] at hlen
      simp only [List.length_append, List.length_cons, List.length_nil] at hlen ⊢
      omega
    cases rest with
    | nil =>
      have ha : l.ahead c = none := hw2
      have hq : ((Q.getD c 0 : Nat) : Int) = (c : Int) := by rw [hri.2 ha]
      simp only [t0, t1, t2, t7, P'.chk, P'.fa, P'.ld2, q1, q2, hq, Nat.zero_add, go_sem]
      refine ⟨o.live, ?_⟩
      obtain ⟨f1, f2⟩ := o.fin hp
      rw [hw1]
      exact ⟨f1, f2⟩
    | cons o' rest =>
      obtain ⟨ha, hw3⟩ := hw2
      have hq : ¬ ((Q.getD c 0 : Nat) : Int) = (c : Int) := fun q => by
        have := hri.1 (by omega)
        rw [ha] at this
        cases this
      obtain ⟨e, e1, e2, e3, e4⟩ := D.ah c o' hcN ha
      obtain ⟨x1, x2⟩ := ends_lt K e2
      have nN := K.nN
      obtain ⟨a1, a2, a3⟩ := P'.ael hcN
      have a4 := P'.a0 hcN
      have ct := k_l10Top (X := X) R' hu (v := (A.getD c l0).f) (by omega)
      rw [e3] at ct
      obtain ⟨v2, h2, c3, p1, p2, o2⟩ := o.push1 (pre_len hp) [.int .i64 (o' : Nat)] rfl (by rw [ints_len, natI_len]; unfold lim; omega)
      rw [Nat.max_eq_right p1] at o2
      simp only [t0, t1, t2, t7, P'.chk, P'.fa, P'.ld1, P'.ld2, q1, q2, hq, a1, a2, a4, ct, zeros, fillAt, c3, Nat.zero_add, List.prefix_refl, go_sem]
      refine ⟨rest.length + 1, by rw [hm]; simp, pre_push hp (Nat.le_refl _) p1 p2, pre ++ [c], rest, o', v2, rfl, rfl, by rw [hw1]; simp, hw3, rfl, ?_⟩
      simpa [ints, natI] using o2
end
end Go.Proofs.Ytafhipglhnfgnaa.Ab
