/- Joined: P3, K21, K22, K23, K24, K17, K25. No conditions. -/
import Derived.Test.YtgmljppiiighmaaGreatDoorM15
set_option linter.unusedSimpArgs false
set_option linter.unusedVariables false
set_option linter.unnecessarySimpa false
set_option maxHeartbeats 4000000
namespace Go.Proofs.YtgmljppiiighmaaGreatDoor.Ab
/-- What the groups add to an edge. -/
def grAdd (a b : Int) (gs : List Gp) : Int := gs.foldl (fun s g => if a ∈ g.ms ∧ b ∈ g.ms then s + g.z else s) 0
def slackL (ys : List Int) (gs : List Gp) (e : E) : Int := ys.getD e.a.toNat 0 + ys.getD e.b.toNat 0 - 2 * scalar e.w1 e.w2 e.w3 + grAdd e.a e.b gs
def sumY (ys : List Int) : Int := ys.foldl (· + ·) 0
def sumG (gs : List Gp) : Int := gs.foldl (fun s g => s + g.z * ((g.ms.length / 2 : Nat) : Int)) 0
def weightL (ys : List Int) (gs : List Gp) : Int := sumY ys + sumG gs
/-- A proof is right. -/
def PfOk (size : Int) (es : List E) (ys : List Int) (gs : List Gp) : Prop :=
  (GOk size es ∧ (ys.length : Int) = size ∧ gs.length ≤ 8) ∧ (∀ j, j < ys.length → 0 ≤ ys.getD j 0 ∧ ys.getD j 0 ≤ 1000000000) ∧
  (∀ i, i < gs.length → GrOk size (gs.getD i g0) ∧ ∀ k, k < i → Nest (gs.getD k g0).ms (gs.getD i g0).ms) ∧ ∀ i, i < es.length → 0 ≤ slackL ys gs (es.getD i e0)
theorem grAdd_take {a b : Int} {gs : List Gp} {i : Nat} (hi : i < gs.length) : grAdd a b (gs.take (i + 1)) = if a ∈ (gs.getD i g0).ms ∧ b ∈ (gs.getD i g0).ms then grAdd a b (gs.take i) + (gs.getD i g0).z else grAdd a b (gs.take i) := by
  unfold grAdd
  rw [take_getD (d := g0) hi, List.foldl_append]
  rfl
theorem sumY_take {ys : List Int} {i : Nat} (hi : i < ys.length) : sumY (ys.take (i + 1)) = sumY (ys.take i) + ys.getD i 0 := by
  unfold sumY
  rw [take_getD (d := 0) hi, List.foldl_append]
  rfl
theorem sumG_take {gs : List Gp} {i : Nat} (hi : i < gs.length) : sumG (gs.take (i + 1)) = sumG (gs.take i) + (gs.getD i g0).z * (((gs.getD i g0).ms.length / 2 : Nat) : Int) := by
  unfold sumG
  rw [take_getD (d := g0) hi, List.foldl_append]
  rfl
theorem grAdd_bnd {a b : Int} {gs : List Gp} (hz : ∀ i, i < gs.length → 0 ≤ (gs.getD i g0).z ∧ (gs.getD i g0).z ≤ 1000000000) : ∀ i, i ≤ gs.length → 0 ≤ grAdd a b (gs.take i) ∧ grAdd a b (gs.take i) ≤ 1000000000 * i := by
  intro i
  induction i with
  | zero => intro _; simp [grAdd]
  | succ i ih =>
    intro hi
    have h1 := ih (by omega)
    have h2 := hz i (by omega)
    rw [grAdd_take (by omega)]
    split <;> omega
theorem sumY_bnd {ys : List Int} (hz : ∀ i, i < ys.length → 0 ≤ ys.getD i 0 ∧ ys.getD i 0 ≤ 1000000000) : ∀ i, i ≤ ys.length → 0 ≤ sumY (ys.take i) ∧ sumY (ys.take i) ≤ 1000000000 * i := by
  intro i
  induction i with
  | zero => intro _; simp [sumY]
  | succ i ih =>
    intro hi
    have h1 := ih (by omega)
    have h2 := hz i (by omega)
    rw [sumY_take (by omega)]
    omega
theorem mul_bnd {z : Int} {n : Nat} (h1 : 0 ≤ z ∧ z ≤ 1000000000) (h2 : n ≤ 9) : 0 ≤ z * ((n / 2 : Nat) : Int) ∧ z * ((n / 2 : Nat) : Int) ≤ 4000000000 := by
  have h3 : n / 2 ≤ 4 := by omega
  have : n / 2 = 0 ∨ n / 2 = 1 ∨ n / 2 = 2 ∨ n / 2 = 3 ∨ n / 2 = 4 := by omega
  rcases this with e | e | e | e | e <;> rw [e] <;> constructor <;> (push_cast; omega)
theorem sumG_bnd {gs : List Gp} (hz : ∀ i, i < gs.length → (0 ≤ (gs.getD i g0).z ∧ (gs.getD i g0).z ≤ 1000000000) ∧ (gs.getD i g0).ms.length ≤ 9) : ∀ i, i ≤ gs.length → 0 ≤ sumG (gs.take i) ∧ sumG (gs.take i) ≤ 4000000000 * i := by
  intro i
  induction i with
  | zero => intro _; simp [sumG]
  | succ i ih =>
    intro hi
    have h1 := ih (by omega)
    have h2 := hz i (by omega)
    have h3 := mul_bnd h2.1 h2.2
    rw [sumG_take (by omega)]
    omega
theorem asc_of {l : List Int} (h : ∀ j, j < l.length → 0 < j → l.getD (j - 1) 0 < l.getD j 0) : Asc l := by
  induction l with
  | nil => exact List.Pairwise.nil
  | cons a l ih =>
    have h' : ∀ j, j < l.length → 0 < j → l.getD (j - 1) 0 < l.getD j 0 := fun j hj hp => by
      have := h (j + 1) (by simpa using hj) (by omega)
      have e : j + 1 - 1 = (j - 1) + 1 := by omega
      rw [e] at this
      simpa using this
    have ih := ih h'
    rw [Asc, List.pairwise_cons]
    refine ⟨fun x hx => ?_, ih⟩
    cases l with
    | nil => cases hx
    | cons b l =>
      have hb := h 1 (by simp) (by omega)
      simp at hb
      rcases List.mem_cons.1 hx with rfl | hx
      · exact hb
      · have := (List.pairwise_cons.1 ih).1 x hx
        omega
theorem grOk_asc {size : Int} {g : Gp} (h : GrOk size g) : Asc g.ms := asc_of fun j hj hp => (h.2 j hj).2 hp
theorem asc_nodup {l : List Int} (h : Asc l) : l.Nodup := by
  refine List.Pairwise.imp (R := (· < ·)) (fun h => ?_) h
  exact Int.ne_of_lt h
theorem grOk_len {size : Int} {g : Gp} (h : GrOk size g) (hs : 0 ≤ size) : (g.ms.length : Int) ≤ size := by
  have key : ∀ {n : Nat} {l : List Int}, l.Nodup → (∀ x ∈ l, 0 ≤ x ∧ x < n) → l.length ≤ n := by
    intro n
    induction n with
    | zero => intro l _ h
              cases l with
              | nil => exact Nat.le_refl _
              | cons a l => have := h a List.mem_cons_self; omega
    | succ n ih =>
      intro l hn h
      by_cases hm : (n : Int) ∈ l
      · have h1 := List.length_erase_of_mem hm
        have h2 := ih (hn.erase (n : Int)) fun x hx => by
          obtain ⟨h3, h4⟩ := (hn.mem_erase_iff).1 hx
          have := h x h4
          omega
        omega
      · have := ih hn fun x hx => by
          have h3 := h x hx
          have : x ≠ n := fun e => hm (e ▸ hx)
          omega
        omega
  have := key (n := size.toNat) (asc_nodup (grOk_asc h)) fun x hx => by
    obtain ⟨j, hj, e⟩ := mem_getD (d := 0) hx
    have := (h.2 j hj).1
    omega
  omega
/-- How many of one list are in another. -/
def cntIn (a b : List Int) : Nat := (a.filter fun x => decide (x ∈ b)).length
theorem cntIn_take {a b : List Int} {i : Nat} (hi : i < a.length) : cntIn (a.take (i + 1)) b = if a.getD i 0 ∈ b then cntIn (a.take i) b + 1 else cntIn (a.take i) b := by
  unfold cntIn
  rw [take_getD (d := 0) hi, List.filter_append, List.length_append]
  split
  · rename_i h; simp only [List.filter_cons, decide_eq_true h, if_true, List.filter_nil, List.length_cons, List.length_nil]
  · rename_i h; simp only [List.filter_cons, decide_eq_false h, Bool.false_eq_true, if_false, List.filter_nil, List.length_nil, Nat.add_zero]
theorem cntIn_le {a b : List Int} : cntIn a b ≤ a.length := List.length_filter_le _ _
theorem cnt_zero {a b : List Int} : cntIn a b = 0 ↔ ∀ x ∈ a, ¬ x ∈ b := by
  unfold cntIn
  rw [List.length_eq_zero_iff, List.filter_eq_nil_iff]
  simp
theorem cnt_all {a b : List Int} : cntIn a b = a.length ↔ ∀ x ∈ a, x ∈ b := by
  unfold cntIn
  rw [List.length_filter_eq_length_iff]
  simp
theorem cnt_swap {a b : List Int} (ha : Asc a) (hb : Asc b) : cntIn a b = cntIn b a := by
  unfold cntIn
  congr 1
  refine asc_ext (ha.filter _) (hb.filter _) fun x => ?_
  simp only [List.mem_filter, decide_eq_true_eq]
  exact And.comm
/-- The reference's test. -/
theorem nest_cnt {a b : List Int} (ha : Asc a) (hb : Asc b) : Nest a b ↔ cntIn a b = 0 ∨ cntIn a b = a.length ∨ cntIn a b = b.length := by
  unfold Nest
  have h3 : cntIn a b = b.length ↔ ∀ x ∈ b, x ∈ a := by rw [cnt_swap ha hb]; exact cnt_all
  rw [h3, cnt_zero, cnt_all]
  constructor
  · rintro (h | h | h)
    · exact .inr (.inr h)
    · exact .inl fun x hx hb => h x hb hx
    · exact .inr (.inl h)
  · rintro (h | h | h)
    · exact .inr (.inl fun x hx ha => h x ha hx)
    · exact .inr (.inr h)
    · exact .inl h
end Go.Proofs.YtgmljppiiighmaaGreatDoor.Ab
set_option linter.unusedSimpArgs false
set_option linter.unusedVariables false
set_option linter.unnecessarySimpa false
set_option maxHeartbeats 4000000
namespace Go.Proofs.YtgmljppiiighmaaGreatDoor.Ab
open Go.RowKit
theorem RowsG.sub {h : Heap} {v : Value} {gs : List Gp} (o : RowsG h v gs) {i : Nat} (hi : i ≤ gs.length) : ∃ v', slLV 2 v none (some (.int .i64 (i : Int))) h = some v' ∧ RowsG h v' (gs.take i) := by
  obtain ⟨vs, h1, h2⟩ := o
  obtain ⟨v', e, r⟩ := h1.sub (i := 0) (k := i) (lo := none) (hi := some (.int .i64 (i : Int))) (Nat.zero_le _) (by simpa using hi) (by omega) rfl rfl
  have hg : ∀ k, k < i → (gs.take i).getD k g0 = gs.getD k g0 := fun k hk => by simp [hk]
  refine ⟨v', e, vs, ?_, fun k hk => ?_⟩
  · have : gRows vs (gs.take i) = ((gRows vs gs).drop 0).take (i - 0) := by
      rw [List.drop_zero, Nat.sub_zero]
      unfold gRows
      rw [← List.map_take, List.take_range, List.length_take]
      apply List.map_congr_left
      intro k hk
      have hk' : k < i := by have := List.mem_range.1 hk; omega
      unfold gRow
      rw [hg k hk']
    rw [this]; exact r
  · have hk' : k < i := by simp at hk; omega
    rw [hg k hk']
    exact h2 k (by omega)
def AllIn (l m : List Int) : Prop := ∀ x ∈ l, x ∈ m
def NoIn (l m : List Int) : Prop := ∀ x ∈ l, ¬ x ∈ m
theorem allIn_snoc {l m : List Int} {a : Int} : AllIn (l ++ [a]) m ↔ AllIn l m ∧ a ∈ m :=
  ⟨fun h => ⟨fun x hx => h x (List.mem_append_left _ hx), h _ (List.mem_append_right _ (List.mem_singleton.2 rfl))⟩, fun h x hx => (List.mem_append.1 hx).elim (h.1 x) fun hx => by rw [List.mem_singleton.1 hx]; exact h.2⟩
theorem noIn_snoc {l m : List Int} {a : Int} : NoIn (l ++ [a]) m ↔ NoIn l m ∧ ¬ a ∈ m :=
  ⟨fun h => ⟨fun x hx => h x (List.mem_append_left _ hx), h _ (List.mem_append_right _ (List.mem_singleton.2 rfl))⟩, fun h x hx => (List.mem_append.1 hx).elim (h.1 x) fun hx => by rw [List.mem_singleton.1 hx]; exact h.2⟩
def edgeV (e : E) : Value := .agg ⟨edgeR e⟩
def WOk (e : E) : Prop := (0 ≤ e.w1 ∧ e.w1 ≤ 50) ∧ (0 ≤ e.w2 ∧ e.w2 ≤ 50) ∧ (0 ≤ e.w3 ∧ e.w3 ≤ 50)
theorem eok_w {size : Int} {e : E} (h : EOk size e) : WOk e := by unfold EOk at h; unfold WOk; omega
section
variable {X : CallF} {h : Heap} {v w ev yv gv : Value} {l m ys : List Int} {gs : List Gp} {es : List E} {e : E} {size z : Int}
theorem k_impl_Scalar (hw : WOk e) : C T X n_impl_Scalar [edgeV e] h = some (.int .i64 (scalar e.w1 e.w2 e.w3), h) := by
  unfold WOk at hw
  refine C_go t_impl_Scalar rfl ?_
  unfold F_impl_Scalar edgeV edgeR scalar
  have e1 : IntKind.i64.wrap (90000 * e.w1) = 90000 * e.w1 := w64 (by omega) (by omega)
  have e2 : IntKind.i64.wrap (300 * e.w2) = 300 * e.w2 := w64 (by omega) (by omega)
  have e3 : IntKind.i64.wrap (90000 * e.w1 + 300 * e.w2) = 90000 * e.w1 + 300 * e.w2 := w64 (by omega) (by omega)
  have e4 : IntKind.i64.wrap (90000 * e.w1 + 300 * e.w2 + e.w3) = 90000 * e.w1 + 300 * e.w2 + e.w3 := w64 (by omega) (by omega)
  simp only [e1, e2, e3, e4, go_sem]
theorem k_spec_Scalar (hw : WOk e) : C T X n_spec_Scalar [edgeV e] h = some (.int .i64 (scalar e.w1 e.w2 e.w3), h) := by
  unfold WOk at hw
  refine C_go t_spec_Scalar rfl ?_
  unfold F_spec_Scalar edgeV edgeR scalar
  have e1 : IntKind.i64.wrap (90000 * e.w1) = 90000 * e.w1 := w64 (by omega) (by omega)
  have e2 : IntKind.i64.wrap (300 * e.w2) = 300 * e.w2 := w64 (by omega) (by omega)
  have e3 : IntKind.i64.wrap (90000 * e.w1 + 300 * e.w2) = 90000 * e.w1 + 300 * e.w2 := w64 (by omega) (by omega)
  have e4 : IntKind.i64.wrap (90000 * e.w1 + 300 * e.w2 + e.w3) = 90000 * e.w1 + 300 * e.w2 + e.w3 := w64 (by omega) (by omega)
  simp only [e1, e2, e3, e4, go_sem]
open Classical in
theorem k_impl_within (ha : Rows h 1 v (ints l)) (hb : Rows h 1 w (ints m)) (hl : l.length ≤ lim) (hm : m.length ≤ lim) : C T X n_impl_within [v, w] h = some (.tuple ⟨[.bool (decide (AllIn l m)), .bool (decide (NoIn l m))]⟩, h) := by
  unfold lim at hl
  refine C_go t_impl_within rfl ?_
  unfold F_impl_within
  simp only [ints_ln ha, go_sem]
  refine w_for l.length (fun i t loc h' => h' = h ∧ t 1 = w ∧ t 6 = .bool (decide (AllIn (l.take i) m)) ∧ t 7 = .bool (decide (NoIn (l.take i) m)) ∧ t 11 = v ∧ t 12 = .int .i64 l.length ∧ t 13 = .int .i64 i) ⟨rfl, rfl, by have : AllIn (l.take 0) m := (fun x h => by cases h); simp only [upd, decide_eq_true this]; rfl, by have : NoIn (l.take 0) m := (fun x h => by cases h); simp only [upd, decide_eq_true this]; rfl, rfl, rfl, rfl⟩ ?_
  rintro i t loc h' hi ⟨rfl, t1, t6, t7, t11, t12, t13⟩
  simp only [t12, t13, go_sem]
  refine w_open (by simp only [go_sem]; rfl) ?_ ?_ <;> intro hc
  · have hi1 : i < l.length := by omega
    have hw : IntKind.i64.wrap ((i : Int) + 1) = ((i + 1 : Nat) : Int) := w64 (by omega) (by omega)
    have hel := int_el ha hi1
    have hin := k_impl_hasInt (X := X) (n := l.getD i 0) hb hm
    have htk := take_getD (d := 0) hi1
    have n1 := allIn_snoc (l := l.take i) (m := m) (a := l.getD i 0)
    have n2 := noIn_snoc (l := l.take i) (m := m) (a := l.getD i 0)
    rw [← htk] at n1 n2
    by_cases p : AllIn (l.take i) m <;> by_cases q : NoIn (l.take i) m <;> by_cases s : l.getD i 0 ∈ m
    all_goals
      simp only [p, q, s, and_true, and_false, not_true_eq_false, not_false_eq_true, iff_true, iff_false] at n1 n2
      simp only [t1, t6, t7, t11, t12, t13, hel.1, hel.2, hin, p, q, s, n1, n2, hw, go_sem]
      exact hi1
  · have hil : i = l.length := by omega
    subst hil
    rw [List.take_length] at t6 t7
    simp only [t6, t7, go_sem]
theorem k_spec_l11Nested (ha : Rows h 1 v (ints l)) (hb : Rows h 1 w (ints m)) (hl : l.length ≤ lim) (hm : m.length ≤ lim) : C T X n_spec_l11Nested [v, w] h = some (.bool (decide (cntIn l m = 0) || (decide (cntIn l m = l.length) || decide (cntIn l m = m.length))), h) := by
  have hl2 := hl
  have hm2 := hm
  unfold lim at hl2 hm2
  refine C_go t_spec_l11Nested rfl ?_
  unfold F_spec_l11Nested
  simp only [go_sem]
  refine w_for l.length (fun i t loc h' => h' = h ∧ t 0 = v ∧ t 1 = w ∧ t 5 = .int .i64 (cntIn (l.take i) m : Nat) ∧ t 6 = .int .i64 i) ⟨rfl, rfl, rfl, by simp [upd, cntIn], rfl⟩ ?_
  rintro i t loc h' hi ⟨rfl, t0, t1, t5, t6⟩
  simp only [t0, t6, ints_ln ha, go_sem]
  refine w_open (by simp only [go_sem]; rfl) ?_ ?_ <;> intro hc
  · have hi1 : i < l.length := by omega
    have hw : IntKind.i64.wrap ((i : Int) + 1) = ((i + 1 : Nat) : Int) := w64 (by omega) (by omega)
    have hel := int_el ha hi1
    have hin := k_spec_l03In (X := X) (n := l.getD i 0) hb hm
    have hct := cntIn_take (b := m) hi1
    have hle := cntIn_le (a := l.take i) (b := m)
    have hlt : (l.take i).length ≤ l.length := by simp; omega
    have hw2 : IntKind.i64.wrap (((cntIn (l.take i) m : Nat) : Int) + 1) = ((cntIn (l.take i) m + 1 : Nat) : Int) := w64 (by omega) (by omega)
    by_cases s : l.getD i 0 ∈ m
    · rw [if_pos s] at hct
      simp only [t0, t1, t5, t6, hel.1, hel.2, hin, s, hw2, hw, hct, go_sem]
      exact hi1
    · rw [if_neg s] at hct
      simp only [t0, t1, t5, t6, hel.1, hel.2, hin, s, hw, hct, go_sem]
      exact hi1
  · have hil : i = l.length := by omega
    subst hil
    rw [List.take_length] at t5
    by_cases s1 : cntIn l m = 0
    · have s1' : ((cntIn l m : Nat) : Int) = 0 := by omega
      simp only [t0, t1, t5, s1', ints_ln ha, ints_ln hb, go_sem]
      simp [s1]
    have s1' : ¬ ((cntIn l m : Nat) : Int) = 0 := by omega
    by_cases s2 : cntIn l m = l.length
    · have s2' : ((cntIn l m : Nat) : Int) = (l.length : Int) := by omega
      simp only [t0, t1, t5, s1', decide_eq_true s2', ints_ln ha, ints_ln hb, go_sem]
      simp [s1, s2]
    have s2' : ¬ ((cntIn l m : Nat) : Int) = (l.length : Int) := by omega
    by_cases s3 : cntIn l m = m.length
    · have s3' : ((cntIn l m : Nat) : Int) = (m.length : Int) := by omega
      simp only [t0, t1, t5, s1', s2', ints_ln ha, ints_ln hb, go_sem]
      simp [s1, s2, s3, s3']
    · have s3' : ¬ ((cntIn l m : Nat) : Int) = (m.length : Int) := by omega
      simp only [t0, t1, t5, s1', s2', s3', ints_ln ha, ints_ln hb, go_sem]
      simp [s1, s2, s3]
end
end Go.Proofs.YtgmljppiiighmaaGreatDoor.Ab
set_option linter.unusedSimpArgs false
set_option linter.unusedVariables false
set_option linter.unnecessarySimpa false
set_option maxHeartbeats 4000000
namespace Go.Proofs.YtgmljppiiighmaaGreatDoor.Ab
open Go.RowKit
section
variable {X : CallF} {h : Heap} {v w ev yv gv : Value} {l m ys : List Int} {gs : List Gp} {es : List E} {e : E} {size z : Int}
/-- What a proof must be for its numbers to fit. -/
structure PfFit (ys : List Int) (gs : List Gp) : Prop where
  y : ∀ i, i < ys.length → 0 ≤ ys.getD i 0 ∧ ys.getD i 0 ≤ 1000000000
  yl : ys.length ≤ 9
  gl : gs.length ≤ 8
  g : ∀ i, i < gs.length → (0 ≤ (gs.getD i g0).z ∧ (gs.getD i g0).z ≤ 1000000000) ∧ (gs.getD i g0).ms.length ≤ 9
theorem k_impl_slackOf (hy : Rows h 1 yv (ints ys)) (hg : RowsG h gv gs) (fit : PfFit ys gs) (hE : EOk size e) (hsz : (ys.length : Int) = size) :
    C T X n_impl_slackOf [edgeV e, proofV yv gv] h = some (.int .i64 (slackL ys gs e), h) := by
  have hW := eok_w hE
  have hgl := fit.gl
  have hsc := k_impl_Scalar (X := X) (h := h) hW
  unfold EOk at hE
  obtain ⟨a, ha⟩ := Int.eq_ofNat_of_zero_le hE.1
  obtain ⟨b, hb⟩ := Int.eq_ofNat_of_zero_le (show 0 ≤ e.b by omega)
  have ea := int_el hy (i := a) (by omega)
  have eb := int_el hy (i := b) (by omega)
  rw [← ha] at ea
  rw [← hb] at eb
  have ya := fit.y a (by omega)
  have yb := fit.y b (by omega)
  have hw1 : IntKind.i64.wrap (ys.getD a 0 + ys.getD b 0) = ys.getD a 0 + ys.getD b 0 := w64 (by omega) (by omega)
  have hss : 0 ≤ scalar e.w1 e.w2 e.w3 ∧ scalar e.w1 e.w2 e.w3 ≤ 5000000 := by unfold scalar; unfold WOk at hW; omega
  have hw2 : IntKind.i64.wrap (2 * scalar e.w1 e.w2 e.w3) = 2 * scalar e.w1 e.w2 e.w3 := w64 (by omega) (by omega)
  have hw3 : IntKind.i64.wrap (ys.getD a 0 + ys.getD b 0 - 2 * scalar e.w1 e.w2 e.w3) = ys.getD a 0 + ys.getD b 0 - 2 * scalar e.w1 e.w2 e.w3 := w64 (by omega) (by omega)
  have htot : slackL ys gs e = ys.getD a 0 + ys.getD b 0 - 2 * scalar e.w1 e.w2 e.w3 + grAdd e.a e.b gs := by
    have h1 : e.a.toNat = a := by omega
    have h2 : e.b.toNat = b := by omega
    unfold slackL
    rw [h1, h2]
  have hbd := grAdd_bnd (a := e.a) (b := e.b) (gs := gs) fun i hi => (fit.g i hi).1
  refine C_go t_impl_slackOf rfl ?_
  unfold F_impl_slackOf
  unfold edgeV edgeR proofV at *
  simp only [ea.1, ea.2, eb.1, eb.2, hsc, hw1, hw2, hw3, hg.ln, List.prefix_refl, go_sem]
  obtain ⟨base, hbase⟩ : ∃ base, base = ys.getD a 0 + ys.getD b 0 - 2 * scalar e.w1 e.w2 e.w3 := ⟨_, rfl⟩
  have hb0 : -10000000 ≤ base ∧ base ≤ 2000000000 := by omega
  rw [← hbase] at htot ⊢
  refine w_for gs.length (fun i t loc h' => h' = h ∧ loc 2 = some [.int .i64 e.a, .int .i64 e.b, .int .i64 e.w1, .int .i64 e.w2, .int .i64 e.w3] ∧ t 5 = .int .i64 (base + grAdd e.a e.b (gs.take i)) ∧ t 26 = gv ∧ t 27 = .int .i64 gs.length ∧ t 28 = .int .i64 i) ⟨rfl, rfl, by simp [upd, grAdd], rfl, rfl, rfl⟩ ?_
  rintro i t loc h' hi ⟨rfl, l2, t5, t26, t27, t28⟩
  simp only [t27, t28, go_sem]
  refine w_open (by simp only [go_sem]; rfl) ?_ ?_ <;> intro hc
  · have hi1 : i < gs.length := by omega
    have hw : IntKind.i64.wrap ((i : Int) + 1) = ((i + 1 : Nat) : Int) := w64 (by omega) (by omega)
    obtain ⟨x, e1, e2, e3, e4, e5, e6⟩ := hg.el hi1
    have hml := (fit.g i hi1)
    have c1 := k_impl_hasInt (X := X) (n := e.a) e6 (by unfold lim; omega)
    have c2 := k_impl_hasInt (X := X) (n := e.b) e6 (by unfold lim; omega)
    have hgt := grAdd_take (a := e.a) (b := e.b) hi1
    have hb1 := hbd i (by omega)
    have hb2 := hbd (i + 1) (by omega)
    have hw4 : IntKind.i64.wrap (base + grAdd e.a e.b (gs.take i) + (gs.getD i g0).z) = base + grAdd e.a e.b (gs.take i) + (gs.getD i g0).z := w64 (by omega) (by omega)
    by_cases s1 : e.a ∈ (gs.getD i g0).ms
    · by_cases s2 : e.b ∈ (gs.getD i g0).ms
      · rw [if_pos ⟨s1, s2⟩] at hgt
        simp only [l2, t5, t26, t27, t28, e1, e3, (Rows.cells e6), c1, c2, s1, s2, hw4, hw, go_sem]
        exact ⟨hi1, by rw [hgt]; omega⟩
      · rw [if_neg (fun h => s2 h.2)] at hgt
        simp only [l2, t5, t26, t27, t28, e1, e3, (Rows.cells e6), c1, c2, s1, s2, hgt, hw, go_sem]
        exact hi1
    · rw [if_neg (fun h => s1 h.1)] at hgt
      simp only [l2, t5, t26, t27, t28, e1, e3, (Rows.cells e6), c1, s1, hgt, hw, go_sem]
      exact hi1
  · have hil : i = gs.length := by omega
    subst hil
    rw [List.take_length] at t5
    simp only [t5, htot, go_sem]
theorem k_spec_l11Slack (hy : Rows h 1 yv (ints ys)) (hg : RowsG h gv gs) (fit : PfFit ys gs) (hE : EOk size e) (hsz : (ys.length : Int) = size) :
    C T X n_spec_l11Slack [proofV yv gv, edgeV e] h = some (.int .i64 (slackL ys gs e), h) := by
  have hW := eok_w hE
  have hgl := fit.gl
  have hsc := k_spec_Scalar (X := X) (h := h) hW
  unfold EOk at hE
  obtain ⟨a, ha⟩ := Int.eq_ofNat_of_zero_le hE.1
  obtain ⟨b, hb⟩ := Int.eq_ofNat_of_zero_le (show 0 ≤ e.b by omega)
  have ea := int_el hy (i := a) (by omega)
  have eb := int_el hy (i := b) (by omega)
  rw [← ha] at ea
  rw [← hb] at eb
  have ya := fit.y a (by omega)
  have yb := fit.y b (by omega)
  have hw1 : IntKind.i64.wrap (ys.getD a 0 + ys.getD b 0) = ys.getD a 0 + ys.getD b 0 := w64 (by omega) (by omega)
  have hss : 0 ≤ scalar e.w1 e.w2 e.w3 ∧ scalar e.w1 e.w2 e.w3 ≤ 5000000 := by unfold scalar; unfold WOk at hW; omega
  have hw2 : IntKind.i64.wrap (2 * scalar e.w1 e.w2 e.w3) = 2 * scalar e.w1 e.w2 e.w3 := w64 (by omega) (by omega)
  have hw3 : IntKind.i64.wrap (ys.getD a 0 + ys.getD b 0 - 2 * scalar e.w1 e.w2 e.w3) = ys.getD a 0 + ys.getD b 0 - 2 * scalar e.w1 e.w2 e.w3 := w64 (by omega) (by omega)
  have htot : slackL ys gs e = ys.getD a 0 + ys.getD b 0 - 2 * scalar e.w1 e.w2 e.w3 + grAdd e.a e.b gs := by
    have h1 : e.a.toNat = a := by omega
    have h2 : e.b.toNat = b := by omega
    unfold slackL
    rw [h1, h2]
  have hbd := grAdd_bnd (a := e.a) (b := e.b) (gs := gs) fun i hi => (fit.g i hi).1
  refine C_go t_spec_l11Slack rfl ?_
  unfold F_spec_l11Slack
  unfold edgeV edgeR proofV at *
  simp only [ea.1, ea.2, eb.1, eb.2, hsc, hw1, hw2, hw3, List.prefix_refl, go_sem]
  obtain ⟨base, hbase⟩ : ∃ base, base = ys.getD a 0 + ys.getD b 0 - 2 * scalar e.w1 e.w2 e.w3 := ⟨_, rfl⟩
  have hb0 : -10000000 ≤ base ∧ base ≤ 2000000000 := by omega
  rw [← hbase] at htot ⊢
  refine w_for gs.length (fun i t loc h' => h' = h ∧ loc 2 = some [yv, gv] ∧ loc 3 = some [.int .i64 e.a, .int .i64 e.b, .int .i64 e.w1, .int .i64 e.w2, .int .i64 e.w3] ∧ t 5 = .int .i64 (base + grAdd e.a e.b (gs.take i)) ∧ t 6 = .int .i64 i) ⟨rfl, rfl, rfl, by simp [upd, grAdd], rfl⟩ ?_
  rintro i t loc h' hi ⟨rfl, l2, l3, t5, t6⟩
  simp only [l2, t6, hg.ln, go_sem]
  refine w_open (by simp only [go_sem]; rfl) ?_ ?_ <;> intro hc
  · have hi1 : i < gs.length := by omega
    have hw : IntKind.i64.wrap ((i : Int) + 1) = ((i + 1 : Nat) : Int) := w64 (by omega) (by omega)
    obtain ⟨x, e1, e2, e3, e4, e5, e6⟩ := hg.el hi1
    have hml := (fit.g i hi1)
    have c1 := k_spec_l03In (X := X) (n := e.a) e6 (by unfold lim; omega)
    have c2 := k_spec_l03In (X := X) (n := e.b) e6 (by unfold lim; omega)
    have hgt := grAdd_take (a := e.a) (b := e.b) hi1
    have hb1 := hbd i (by omega)
    have hb2 := hbd (i + 1) (by omega)
    have hw4 : IntKind.i64.wrap (base + grAdd e.a e.b (gs.take i) + (gs.getD i g0).z) = base + grAdd e.a e.b (gs.take i) + (gs.getD i g0).z := w64 (by omega) (by omega)
    by_cases s1 : e.a ∈ (gs.getD i g0).ms
    · by_cases s2 : e.b ∈ (gs.getD i g0).ms
      · rw [if_pos ⟨s1, s2⟩] at hgt
        simp only [l2, l3, t5, t6, e1, e2, e4, e5, c1, c2, s1, s2, hw4, hw, List.prefix_refl, go_sem]
        exact ⟨hi1, by rw [hgt]; omega⟩
      · rw [if_neg (fun h => s2 h.2)] at hgt
        simp only [l2, l3, t5, t6, e1, e2, e4, e5, c1, c2, s1, s2, hgt, hw, List.prefix_refl, go_sem]
        exact hi1
    · rw [if_neg (fun h => s1 h.1)] at hgt
      simp only [l2, l3, t5, t6, e1, e2, e4, e5, c1, s1, hgt, hw, List.prefix_refl, go_sem]
      exact hi1
  · have hil : i = gs.length := by omega
    subst hil
    rw [List.take_length] at t5
    simp only [t5, htot, go_sem]
end
end Go.Proofs.YtgmljppiiighmaaGreatDoor.Ab
set_option linter.unusedSimpArgs false
set_option linter.unusedVariables false
set_option linter.unnecessarySimpa false
set_option maxHeartbeats 4000000
namespace Go.Proofs.YtgmljppiiighmaaGreatDoor.Ab
open Go.RowKit
section
variable {X : CallF} {h : Heap} {v w ev yv gv : Value} {ys : List Int} {gs : List Gp} {es : List E} {g : Gp} {size : Int}
theorem k_impl_weight (hy : Rows h 1 yv (ints ys)) (hg : RowsG h gv gs) (fit : PfFit ys gs) (hodd : ∀ i, i < gs.length → (gs.getD i g0).ms.length % 2 = 1) : C T X n_impl_weight [proofV yv gv] h = some (.int .i64 (weightL ys gs), h) := by
  have hyl := fit.yl
  have hgl := fit.gl
  have by1 := sumY_bnd fit.y
  have by2 := by1 ys.length (Nat.le_refl _)
  rw [List.take_length] at by2
  have bg1 := sumG_bnd fit.g
  refine C_go t_impl_weight rfl ?_
  unfold F_impl_weight proofV weightL
  simp only [ints_ln hy, go_sem]
  refine w_for ys.length (fun i t loc h' => h' = h ∧ loc 1 = some [yv, gv] ∧ t 3 = .int .i64 (sumY (ys.take i)) ∧ t 9 = yv ∧ t 10 = .int .i64 ys.length ∧ t 11 = .int .i64 i) ⟨rfl, rfl, rfl, rfl, rfl, rfl⟩ ?_
  rintro i t loc h' hi ⟨rfl, l1, t3, t9, t10, t11⟩
  simp only [t10, t11, go_sem]
  refine w_open (by simp only [go_sem]; rfl) ?_ ?_ <;> intro hc
  · have hi1 : i < ys.length := by omega
    have hw : IntKind.i64.wrap ((i : Int) + 1) = ((i + 1 : Nat) : Int) := w64 (by omega) (by omega)
    have hel := int_el hy hi1
    have h1 := by1 i (by omega)
    have h2 := fit.y i hi1
    have hst := sumY_take hi1
    have hw2 : IntKind.i64.wrap (sumY (ys.take i) + ys.getD i 0) = sumY (ys.take (i + 1)) := by rw [hst]; exact w64 (by omega) (by omega)
    simp only [l1, t3, t9, t10, t11, hel.1, hel.2, hw2, hw, go_sem]
    exact hi1
  have hil : i = ys.length := by omega
  subst hil
  rw [List.take_length] at t3
  simp only [l1, t3, hg.ln, go_sem]
  refine w_for gs.length (fun i t loc h2 => h2 = h' ∧ t 3 = .int .i64 (sumY ys + sumG (gs.take i)) ∧ t 20 = gv ∧ t 21 = .int .i64 gs.length ∧ t 22 = .int .i64 i) ⟨rfl, congrArg (Value.int .i64) (Int.add_zero _).symm, rfl, rfl, rfl⟩ ?_
  rintro i t loc h2 hi ⟨rfl, t3, t20, t21, t22⟩
  simp only [t21, t22, go_sem]
  refine w_open (by simp only [go_sem]; rfl) ?_ ?_ <;> intro hc
  · have hi1 : i < gs.length := by omega
    have hw : IntKind.i64.wrap ((i : Int) + 1) = ((i + 1 : Nat) : Int) := w64 (by omega) (by omega)
    obtain ⟨x, e1, e2, e3, e4, e5, e6⟩ := hg.el hi1
    have hml := fit.g i hi1
    have ho := hodd i hi1
    have hmb := mul_bnd hml.1 hml.2
    have hst := sumG_take hi1
    have h1 := bg1 i (by omega)
    have hw2 : IntKind.i64.wrap (((gs.getD i g0).ms.length : Int) - 1) = (((gs.getD i g0).ms.length - 1 : Nat) : Int) := by rw [w64 (by omega) (by omega)]; omega
    have hdv : (((gs.getD i g0).ms.length - 1 : Nat) : Int).tdiv 2 = (((gs.getD i g0).ms.length / 2 : Nat) : Int) := by
      have : ((gs.getD i g0).ms.length - 1) / 2 = (gs.getD i g0).ms.length / 2 := by omega
      rw [← this]; rfl
    have hw3 : IntKind.i64.wrap (((gs.getD i g0).ms.length / 2 : Nat) : Int) = (((gs.getD i g0).ms.length / 2 : Nat) : Int) := w64 (by omega) (by omega)
    have hw4 : IntKind.i64.wrap ((gs.getD i g0).z * (((gs.getD i g0).ms.length / 2 : Nat) : Int)) = (gs.getD i g0).z * (((gs.getD i g0).ms.length / 2 : Nat) : Int) := w64 (by omega) (by omega)
    have hw5 : IntKind.i64.wrap (sumY ys + sumG (gs.take i) + (gs.getD i g0).z * (((gs.getD i g0).ms.length / 2 : Nat) : Int)) = sumY ys + sumG (gs.take (i + 1)) := by rw [hst, w64 (by omega) (by omega)]; omega
    simp only [t3, t20, t21, t22, e1, e3, e6.cells, ints_ln e6, hw2, hdv, hw3, hw4, hw5, hw, go_sem]
    exact hi1
  · have hil : i = gs.length := by omega
    subst hil
    rw [List.take_length] at t3
    simp only [t3, go_sem]
theorem k_spec_l11Sum (hy : Rows h 1 yv (ints ys)) (hg : RowsG h gv gs) (fit : PfFit ys gs) : C T X n_spec_l11Sum [proofV yv gv] h = some (.int .i64 (weightL ys gs), h) := by
  have hyl := fit.yl
  have hgl := fit.gl
  have by1 := sumY_bnd fit.y
  have by2 := by1 ys.length (Nat.le_refl _)
  rw [List.take_length] at by2
  have bg1 := sumG_bnd fit.g
  refine C_go t_spec_l11Sum rfl ?_
  unfold F_spec_l11Sum proofV weightL
  simp only [go_sem]
  refine w_for ys.length (fun i t loc h' => h' = h ∧ loc 1 = some [yv, gv] ∧ t 3 = .int .i64 (sumY (ys.take i)) ∧ t 4 = .int .i64 i) ⟨rfl, rfl, rfl, rfl⟩ ?_
  rintro i t loc h' hi ⟨rfl, l1, t3, t4⟩
  simp only [l1, t4, ints_ln hy, go_sem]
  refine w_open (by simp only [go_sem]; rfl) ?_ ?_ <;> intro hc
  · have hi1 : i < ys.length := by omega
    have hw : IntKind.i64.wrap ((i : Int) + 1) = ((i + 1 : Nat) : Int) := w64 (by omega) (by omega)
    have hel := int_el hy hi1
    have h1 := by1 i (by omega)
    have h2 := fit.y i hi1
    have hst := sumY_take hi1
    have hw2 : IntKind.i64.wrap (sumY (ys.take i) + ys.getD i 0) = sumY (ys.take (i + 1)) := by rw [hst]; exact w64 (by omega) (by omega)
    simp only [l1, t3, t4, hel.1, hel.2, hw2, hw, go_sem]
    exact hi1
  have hil : i = ys.length := by omega
  subst hil
  rw [List.take_length] at t3
  simp only [l1, t3, go_sem]
  refine w_for gs.length (fun i t loc h2 => h2 = h' ∧ loc 1 = some [yv, gv] ∧ t 3 = .int .i64 (sumY ys + sumG (gs.take i)) ∧ t 5 = .int .i64 i) ⟨rfl, rfl, congrArg (Value.int .i64) (Int.add_zero _).symm, rfl⟩ ?_
  rintro i t loc h2 hi ⟨rfl, l1, t3, t5⟩
  simp only [l1, t5, hg.ln, go_sem]
  refine w_open (by simp only [go_sem]; rfl) ?_ ?_ <;> intro hc
  · have hi1 : i < gs.length := by omega
    have hw : IntKind.i64.wrap ((i : Int) + 1) = ((i + 1 : Nat) : Int) := w64 (by omega) (by omega)
    obtain ⟨x, e1, e2, e3, e4, e5, e6⟩ := hg.el hi1
    have hml := fit.g i hi1
    have hmb := mul_bnd hml.1 hml.2
    have hst := sumG_take hi1
    have h1 := bg1 i (by omega)
    have hdv : (((gs.getD i g0).ms.length : Nat) : Int).tdiv 2 = (((gs.getD i g0).ms.length / 2 : Nat) : Int) := rfl
    have hw3 : IntKind.i64.wrap (((gs.getD i g0).ms.length / 2 : Nat) : Int) = (((gs.getD i g0).ms.length / 2 : Nat) : Int) := w64 (by omega) (by omega)
    have hw4 : IntKind.i64.wrap ((gs.getD i g0).z * (((gs.getD i g0).ms.length / 2 : Nat) : Int)) = (gs.getD i g0).z * (((gs.getD i g0).ms.length / 2 : Nat) : Int) := w64 (by omega) (by omega)
    have hw5 : IntKind.i64.wrap (sumY ys + sumG (gs.take i) + (gs.getD i g0).z * (((gs.getD i g0).ms.length / 2 : Nat) : Int)) = sumY ys + sumG (gs.take (i + 1)) := by rw [hst, w64 (by omega) (by omega)]; omega
    simp only [l1, t3, t5, e1, e2, e4, e5, ints_ln e6, hdv, hw3, hw4, hw5, hw, go_sem]
    exact hi1
  · have hil : i = gs.length := by omega
    subst hil
    rw [List.take_length] at t3
    simp only [t3, go_sem]
open Classical in
theorem k_impl_groupOk (hm : Rows h 1 v (ints g.ms)) (hl : g.ms.length ≤ 1048576) (hs : 0 ≤ size ∧ size ≤ 9) : C T X n_impl_groupOk [graphV size ev, .agg ⟨[v, .int .i64 g.z]⟩] h = some (.bool (decide (GrOk size g)), h) := by
  refine C_go t_impl_groupOk rfl ?_
  unfold F_impl_groupOk graphV
  have hmd : ((g.ms.length : Nat) : Int).tmod 2 = ((g.ms.length % 2 : Nat) : Int) := rfl
  have hws : IntKind.i64.wrap (size - 1) = size - 1 := w64 (by omega) (by omega)
  by_cases a1 : (g.ms.length : Int) < 3
  · have hr : ¬ GrOk size g := fun h => by have := h.1.1; omega
    simp only [ints_ln hm, a1, hr, go_sem]
  by_cases a2 : ((g.ms.length % 2 : Nat) : Int) = 0
  · have hr : ¬ GrOk size g := fun h => by have := h.1.2.1; omega
    simp only [ints_ln hm, hmd, a1, a2, hr, go_sem]
  by_cases a3 : 1 ≤ g.z ∧ g.z ≤ 1000000000
  rotate_left
  · have hr : ¬ GrOk size g := fun h => a3 h.1.2.2
    have a3' : (decide (1 ≤ g.z) && decide (g.z ≤ 1000000000)) = false := by simp; omega
    simp only [ints_ln hm, hmd, k_impl_in, a1, a2, a3', hr, go_sem]
  have a3' : (decide (1 ≤ g.z) && decide (g.z ≤ 1000000000)) = true := by simp; omega
  simp only [ints_ln hm, hmd, k_impl_in, a1, a2, a3', go_sem]
  refine w_for g.ms.length (fun i t loc h' => h' = h ∧ loc 2 = some [.int .i64 size, ev] ∧ loc 3 = some [v, .int .i64 g.z] ∧ t 25 = v ∧ t 26 = .int .i64 g.ms.length ∧ t 27 = .int .i64 i ∧ ∀ j, j < i → (0 ≤ g.ms.getD j 0 ∧ g.ms.getD j 0 ≤ size - 1) ∧ (0 < j → g.ms.getD (j - 1) 0 < g.ms.getD j 0)) ⟨rfl, rfl, rfl, rfl, rfl, rfl, fun j hj => by omega⟩ ?_
  rintro i t loc h' hi ⟨rfl, l2, l3, t25, t26, t27, hall⟩
  simp only [t26, t27, go_sem]
  refine w_open (by simp only [go_sem]; rfl) ?_ ?_ <;> intro hc
  · have hi1 : i < g.ms.length := by omega
    have hw : IntKind.i64.wrap ((i : Int) + 1) = ((i + 1 : Nat) : Int) := w64 (by omega) (by omega)
    have hel := int_el hm hi1
    by_cases b1 : 0 ≤ g.ms.getD i 0 ∧ g.ms.getD i 0 ≤ size - 1
    rotate_left
    · have hr : ¬ GrOk size g := fun h => b1 (h.2 i hi1).1
      have b1' : (decide (0 ≤ g.ms.getD i 0) && decide (g.ms.getD i 0 ≤ size - 1)) = false := by simp only [Bool.and_eq_false_iff, decide_eq_false_iff_not]; omega
      simp only [l2, l3, t25, t26, t27, hel.1, hel.2, k_impl_in, hws, b1', hr, go_sem]
    have b1' : (decide (0 ≤ g.ms.getD i 0) && decide (g.ms.getD i 0 ≤ size - 1)) = true := by simp only [Bool.and_eq_true, decide_eq_true_eq]; exact b1
    rcases Nat.eq_zero_or_pos i with hz | hp
    · have hz' : ¬ (0 : Int) < i := by omega
      simp only [l2, l3, t25, t26, t27, hel.1, hel.2, k_impl_in, hws, b1', hz', hw, go_sem]
      exact ⟨hi1, below_succ hall ⟨b1, fun hp => by omega⟩⟩
    · have hp' : (0 : Int) < i := by omega
      have hw1 : IntKind.i64.wrap ((i : Int) - 1) = ((i - 1 : Nat) : Int) := by rw [w64 (by omega) (by omega)]; omega
      have hel2 := int_el hm (show i - 1 < g.ms.length by omega)
      by_cases b2 : g.ms.getD i 0 ≤ g.ms.getD (i - 1) 0
      · have hr : ¬ GrOk size g := fun h => by have := (h.2 i hi1).2 hp; omega
        simp only [l2, l3, t25, t26, t27, hel.1, hel.2, hel2.1, hel2.2, k_impl_in, hws, b1', hp', hw1, b2, hr, go_sem]
      · simp only [l2, l3, t25, t26, t27, hel.1, hel.2, hel2.1, hel2.2, k_impl_in, hws, b1', hp', hw1, b2, hw, go_sem]
        exact ⟨hi1, below_succ hall ⟨b1, fun hp => by omega⟩⟩
  · have hr : GrOk size g := ⟨⟨by omega, by omega, a3.1, a3.2⟩, fun j hj => hall j (by omega)⟩
    simp only [hr, go_sem]
theorem nest_iff {a b : List Int} : Nest a b ↔ AllIn b a ∨ NoIn b a ∨ AllIn a b := Iff.rfl
theorem pfFit_of {gs : List Gp} (h1 : ys.length ≤ 9) (h2 : gs.length ≤ 8) (h3 : ∀ j, j < ys.length → 0 ≤ ys.getD j 0 ∧ ys.getD j 0 ≤ 1000000000) (hs : 0 ≤ size ∧ size ≤ 9) (h4 : ∀ i, i < gs.length → GrOk size (gs.getD i g0)) : PfFit ys gs :=
  ⟨h3, h1, h2, fun i hi => ⟨by have := (h4 i hi).1; omega, by have := grOk_len (h4 i hi) hs.1; omega⟩⟩
open Classical in
theorem k_impl_ProofOk (he : Rows h 5 ev (edges es)) (hy : Rows h 1 yv (ints ys)) (hg : RowsG h gv gs) (hl : es.length ≤ lim) (hb : PfBnd ys gs) : C T X n_impl_ProofOk [graphV size ev, proofV yv gv] h = some (.bool (decide (PfOk size es ys gs)), h) := by
  have hk := k_impl_GraphOk (X := X) (size := size) he hl
  obtain ⟨hyl, hgl, hml⟩ := hb
  refine C_go t_impl_ProofOk rfl ?_
  unfold F_impl_ProofOk
  by_cases g1 : GOk size es
  rotate_left
  · have hr : ¬ PfOk size es ys gs := fun h => g1 h.1.1
    unfold graphV at hk; unfold graphV proofV
    simp only [hk, g1, hr, go_sem]
  by_cases g2 : (ys.length : Int) = size
  rotate_left
  · have hr : ¬ PfOk size es ys gs := fun h => g2 h.1.2.1
    unfold graphV at hk; unfold graphV proofV
    simp only [hk, g1, ints_ln hy, g2, hr, go_sem]
  by_cases g3 : (8 : Int) < gs.length
  · have hr : ¬ PfOk size es ys gs := fun h => by have := h.1.2.2; omega
    unfold graphV at hk; unfold graphV proofV
    simp only [hk, g1, ints_ln hy, hg.ln, g2, g3, hr, go_sem]
  have hs := g1.1
  unfold graphV at hk; unfold graphV proofV
  simp only [hk, g1, ints_ln hy, hg.ln, g2, g3, go_sem]
  rw [← g2]
  refine w_for ys.length (fun i t loc h' => h' = h ∧ loc 2 = some [.int .i64 size, ev] ∧ loc 3 = some [yv, gv] ∧ t 35 = yv ∧ t 36 = .int .i64 ys.length ∧ t 37 = .int .i64 i ∧ ∀ j, j < i → 0 ≤ ys.getD j 0 ∧ ys.getD j 0 ≤ 1000000000) ⟨rfl, by rw [g2]; rfl, rfl, rfl, rfl, rfl, fun j hj => by omega⟩ ?_
  rintro i t loc h' hi ⟨rfl, l2, l3, t35, t36, t37, hall⟩
  simp only [t36, t37, go_sem]
  refine w_open (by simp only [go_sem]; rfl) ?_ ?_ <;> intro hc
  · have hi1 : i < ys.length := by omega
    have hw : IntKind.i64.wrap ((i : Int) + 1) = ((i + 1 : Nat) : Int) := w64 (by omega) (by omega)
    have hel := int_el hy hi1
    by_cases b1 : 0 ≤ ys.getD i 0 ∧ ys.getD i 0 ≤ 1000000000
    · have b1' : (decide (0 ≤ ys.getD i 0) && decide (ys.getD i 0 ≤ 1000000000)) = true := by simp only [Bool.and_eq_true, decide_eq_true_eq]; exact b1
      simp only [l2, l3, t35, t36, t37, hel.1, hel.2, k_impl_in, b1', hw, go_sem]
      exact ⟨hi1, below_succ hall b1⟩
    · have hr : ¬ PfOk size es ys gs := fun h => b1 (h.2.1 i hi1)
      have b1' : (decide (0 ≤ ys.getD i 0) && decide (ys.getD i 0 ≤ 1000000000)) = false := by simp only [Bool.and_eq_false_iff, decide_eq_false_iff_not]; omega
      rw [g2]
      simp only [l2, l3, t35, t36, t37, hel.1, hel.2, k_impl_in, b1', hr, go_sem]
  have hil : i = ys.length := by omega
  subst hil
  simp only [l2, l3, hg.ln, go_sem]
  refine w_for gs.length (fun i t loc h2 => h2 = h' ∧ loc 2 = some [.int .i64 size, ev] ∧ loc 3 = some [yv, gv] ∧ t 46 = gv ∧ t 47 = .int .i64 gs.length ∧ t 48 = .int .i64 i ∧ ∀ j, j < i → GrOk size (gs.getD j g0) ∧ ∀ k, k < j → Nest (gs.getD k g0).ms (gs.getD j g0).ms) ⟨rfl, rfl, rfl, rfl, rfl, rfl, fun j hj => by omega⟩ ?_
  rintro i t loc h2 hi ⟨rfl, l2, l3, t46, t47, t48, hallG⟩
  simp only [t47, t48, go_sem]
  refine w_open (by simp only [go_sem]; rfl) ?_ ?_ <;> intro hc
  · have hi1 : i < gs.length := by omega
    have hw : IntKind.i64.wrap ((i : Int) + 1) = ((i + 1 : Nat) : Int) := w64 (by omega) (by omega)
    obtain ⟨x, e1, e2, e3, e4, e5, e6⟩ := hg.el hi1
    have hmi := hml _ (getD_mem (d := g0) hi1)
    have cg := k_impl_groupOk (X := X) (ev := ev) e6 hmi hs
    unfold graphV at cg
    obtain ⟨v', s1, s2⟩ := hg.sub (i := i) hi
    by_cases b1 : GrOk size (gs.getD i g0)
    rotate_left
    · have hr : ¬ PfOk size es ys gs := fun h => b1 (h.2.2.1 i hi1).1
      simp only [l2, l3, t46, t47, t48, e1, e3, e6.cells, cg, b1, g2, hr, go_sem]
    have htl : (gs.take i).length = i := by simp; omega
    have hlt := s2.ln
    rw [htl] at hlt
    simp only [l2, l3, t46, t47, t48, e1, e3, e6.cells, cg, b1, s1, hlt, go_sem]
    refine w_for i (fun k t loc h3 => h3 = h2 ∧ loc 2 = some [.int .i64 size, ev] ∧ loc 3 = some [yv, gv] ∧ loc 8 = some [x, .int .i64 (gs.getD i g0).z] ∧ t 46 = gv ∧ t 47 = .int .i64 gs.length ∧ t 48 = .int .i64 i ∧ t 60 = v' ∧ t 61 = .int .i64 i ∧ t 62 = .int .i64 k ∧ ∀ j, j < k → Nest (gs.getD j g0).ms (gs.getD i g0).ms) ⟨rfl, rfl, rfl, rfl, rfl, rfl, rfl, rfl, rfl, rfl, fun j hj => by omega⟩ ?_
    rintro k t loc h3 hk ⟨rfl, l2, l3, l8, t46, t47, t48, t60, t61, t62, hallN⟩
    simp only [t61, t62, go_sem]
    refine w_open (by simp only [go_sem]; rfl) ?_ ?_ <;> intro hc
    · have hk1 : k < i := by omega
      have hw2 : IntKind.i64.wrap ((k : Int) + 1) = ((k + 1 : Nat) : Int) := w64 (by omega) (by omega)
      obtain ⟨z, f1, f2, f3, f4, f5, f6⟩ := s2.el (i := k) (by omega)
      have hgk : (gs.take i).getD k g0 = gs.getD k g0 := by simp [hk1]
      rw [hgk] at f3 f6
      have hmk := hml _ (getD_mem (d := g0) (show k < gs.length by omega))
      have w1 := k_impl_within (X := X) e6 f6 (by unfold lim; omega) (by unfold lim; omega)
      have w2 := k_impl_within (X := X) f6 e6 (by unfold lim; omega) (by unfold lim; omega)
      by_cases c1 : AllIn (gs.getD i g0).ms (gs.getD k g0).ms
      · simp only [l2, l3, l8, t46, t47, t48, t60, t61, t62, f1, f3, f6.cells, w1, w2, c1, hw2, go_sem]
        exact ⟨hk1, below_succ hallN (nest_iff.2 (.inl c1))⟩
      by_cases c2 : NoIn (gs.getD i g0).ms (gs.getD k g0).ms
      · simp only [l2, l3, l8, t46, t47, t48, t60, t61, t62, f1, f3, f6.cells, w1, w2, c1, c2, hw2, go_sem]
        exact ⟨hk1, below_succ hallN (nest_iff.2 (.inr (.inl c2)))⟩
      by_cases c3 : AllIn (gs.getD k g0).ms (gs.getD i g0).ms
      · simp only [l2, l3, l8, t46, t47, t48, t60, t61, t62, f1, f3, f6.cells, w1, w2, c1, c2, c3, hw2, go_sem]
        exact ⟨hk1, below_succ hallN (nest_iff.2 (.inr (.inr c3)))⟩
      · have hr : ¬ PfOk size es ys gs := fun h => by
          rcases nest_iff.1 ((h.2.2.1 i hi1).2 k hk1) with q | q | q
          · exact c1 q
          · exact c2 q
          · exact c3 q
        simp only [l2, l3, l8, t46, t47, t48, t60, t61, t62, f1, f3, f6.cells, w1, w2, c1, c2, c3, g2, hr, go_sem]
    · have hki : k = i := by omega
      subst hki
      simp only [l2, l3, t46, t47, t48, hw, go_sem]
      exact ⟨hi1, below_succ hallG ⟨b1, hallN⟩⟩
  have hig : i = gs.length := by omega
  subst hig
  have fit := pfFit_of (by omega) (by omega) hall hs fun i hi => (hallG i hi).1
  simp only [l2, l3, he.lnm, go_sem]
  refine w_for es.length (fun i t loc h3 => h3 = h2 ∧ loc 3 = some [yv, gv] ∧ t 95 = ev ∧ t 96 = .int .i64 es.length ∧ t 97 = .int .i64 i ∧ ∀ j, j < i → 0 ≤ slackL ys gs (es.getD j e0)) ⟨rfl, rfl, rfl, rfl, rfl, fun j hj => by omega⟩ ?_
  rintro i t loc h3 hi ⟨rfl, l3, t95, t96, t97, hallS⟩
  simp only [t96, t97, go_sem]
  unfold lim at hl
  refine w_open (by simp only [go_sem]; rfl) ?_ ?_ <;> intro hc
  · have hi1 : i < es.length := by omega
    have hw : IntKind.i64.wrap ((i : Int) + 1) = ((i + 1 : Nat) : Int) := w64 (by omega) (by omega)
    have hel := edge_el he hi1
    have cs := k_impl_slackOf (X := X) hy hg fit (gok_mem g1 (getD_mem (d := e0) hi1)) g2
    unfold edgeV edgeR proofV at cs
    by_cases b1 : slackL ys gs (es.getD i e0) < 0
    · have hr : ¬ PfOk size es ys gs := fun h => by have := h.2.2.2 i hi1; omega
      simp only [l3, t95, t96, t97, hel.1, hel.2.2.1, cs, b1, g2, hr, go_sem]
    · simp only [l3, t95, t96, t97, hel.1, hel.2.2.1, cs, b1, hw, go_sem]
      exact ⟨hi1, below_succ hallS (by omega)⟩
  · have hr : PfOk size es ys gs := ⟨⟨g1, g2, by omega⟩, hall, hallG, fun j hj => hallS j (by omega)⟩
    simp only [g2, hr, go_sem]
end
end Go.Proofs.YtgmljppiiighmaaGreatDoor.Ab
set_option linter.unusedSimpArgs false
set_option linter.unusedVariables false
set_option linter.unnecessarySimpa false
set_option maxHeartbeats 4000000
namespace Go.Proofs.YtgmljppiiighmaaGreatDoor.Ab
open Go.RowKit
section
variable {X : CallF} {h : Heap} {v w ev yv gv : Value} {ys : List Int} {gs : List Gp} {es : List E} {g : Gp} {size : Int}
open Classical in
theorem k_spec_ProofOk (he : Rows h 5 ev (edges es)) (hy : Rows h 1 yv (ints ys)) (hg : RowsG h gv gs) (hl : es.length ≤ lim) (hb : PfBnd ys gs) : C T X n_spec_ProofOk [graphV size ev, proofV yv gv] h = some (.bool (decide (PfOk size es ys gs)), h) := by
  have hk := k_spec_GraphOk (X := X) (size := size) he hl
  obtain ⟨hyl, hgl, hml⟩ := hb
  refine C_go t_spec_ProofOk rfl ?_
  unfold F_spec_ProofOk
  by_cases g1 : GOk size es
  rotate_left
  · have hr : ¬ PfOk size es ys gs := fun h => g1 h.1.1
    unfold graphV at hk; unfold graphV proofV
    simp only [hk, g1, hr, go_sem]
  by_cases g2 : (ys.length : Int) = size
  rotate_left
  · have hr : ¬ PfOk size es ys gs := fun h => g2 h.1.2.1
    unfold graphV at hk; unfold graphV proofV
    simp only [hk, g1, ints_ln hy, g2, hr, go_sem]
  by_cases g3 : (8 : Int) < gs.length
  · have hr : ¬ PfOk size es ys gs := fun h => by have := h.1.2.2; omega
    unfold graphV at hk; unfold graphV proofV
    simp only [hk, g1, ints_ln hy, hg.ln, g2, g3, hr, go_sem]
  have hs := g1.1
  have hws : IntKind.i64.wrap (size - 1) = size - 1 := w64 (by omega) (by omega)
  unfold graphV at hk; unfold graphV proofV
  simp only [hk, g1, ints_ln hy, hg.ln, g2, g3, go_sem]
  refine w_for ys.length (fun i t loc h' => h' = h ∧ loc 2 = some [.int .i64 size, ev] ∧ loc 3 = some [yv, gv] ∧ t 5 = .int .i64 i ∧ ∀ j, j < i → 0 ≤ ys.getD j 0 ∧ ys.getD j 0 ≤ 1000000000) ⟨rfl, rfl, rfl, rfl, fun j hj => by omega⟩ ?_
  rintro i t loc h' hi ⟨rfl, l2, l3, t5, hall⟩
  simp only [l3, t5, ints_ln hy, go_sem]
  refine w_open (by simp only [go_sem]; rfl) ?_ ?_ <;> intro hc
  · have hi1 : i < ys.length := by omega
    have hw : IntKind.i64.wrap ((i : Int) + 1) = ((i + 1 : Nat) : Int) := w64 (by omega) (by omega)
    have hel := int_el hy hi1
    by_cases b1 : 0 ≤ ys.getD i 0 ∧ ys.getD i 0 ≤ 1000000000
    · have b1' : (decide (0 ≤ ys.getD i 0) && decide (ys.getD i 0 ≤ 1000000000)) = true := by simp only [Bool.and_eq_true, decide_eq_true_eq]; exact b1
      simp only [l2, l3, t5, hel.1, hel.2, k_spec_l01In, b1', hw, go_sem]
      exact ⟨hi1, below_succ hall b1⟩
    · have hr : ¬ PfOk size es ys gs := fun h => b1 (h.2.1 i hi1)
      have b1' : (decide (0 ≤ ys.getD i 0) && decide (ys.getD i 0 ≤ 1000000000)) = false := by simp only [Bool.and_eq_false_iff, decide_eq_false_iff_not]; omega
      simp only [l2, l3, t5, hel.1, hel.2, k_spec_l01In, b1', hr, go_sem]
  have hil : i = ys.length := by omega
  subst hil
  simp only [l2, l3, go_sem]
  refine w_for gs.length (fun i t loc h2 => h2 = h' ∧ loc 2 = some [.int .i64 size, ev] ∧ loc 3 = some [yv, gv] ∧ t 6 = .int .i64 i ∧ ∀ j, j < i → GrOk size (gs.getD j g0) ∧ ∀ k, k < j → Nest (gs.getD k g0).ms (gs.getD j g0).ms) ⟨rfl, rfl, rfl, rfl, fun j hj => by omega⟩ ?_
  rintro i t loc h2 hi ⟨rfl, l2, l3, t6, hallG⟩
  simp only [l3, t6, hg.ln, go_sem]
  refine w_open (by simp only [go_sem]; rfl) ?_ ?_ <;> intro hc
  · have hi1 : i < gs.length := by omega
    have hw : IntKind.i64.wrap ((i : Int) + 1) = ((i + 1 : Nat) : Int) := w64 (by omega) (by omega)
    obtain ⟨x, e1, e2, e3, e4, e5, e6⟩ := hg.el hi1
    obtain ⟨G, hG⟩ : ∃ G, G = gs.getD i g0 := ⟨_, rfl⟩
    rw [← hG] at e3 e5 e6
    have hmi : G.ms.length ≤ 1048576 := by rw [hG]; exact hml _ (getD_mem (d := g0) hi1)
    have hno : ¬ GrOk size G → ¬ PfOk size es ys gs := fun hn h => hn (by rw [hG]; exact (h.2.2.1 i hi1).1)
    have hmd : ((G.ms.length : Nat) : Int).tmod 2 = ((G.ms.length % 2 : Nat) : Int) := rfl
    by_cases a1 : (G.ms.length : Int) < 3
    · have hr := hno fun h => by have := h.1.1; omega
      simp only [l2, l3, t6, e1, e3, e6.cells, ints_ln e6, a1, hr, go_sem]
    by_cases a2 : ((G.ms.length % 2 : Nat) : Int) = 0
    · have hr := hno fun h => by have := h.1.2.1; omega
      simp only [l2, l3, t6, e1, e3, e6.cells, ints_ln e6, hmd, a1, a2, hr, go_sem]
    by_cases a4 : size < (G.ms.length : Int)
    · have hr := hno fun h => by have := grOk_len h hs.1; omega
      simp only [l2, l3, t6, e1, e3, e6.cells, ints_ln e6, hmd, a1, a2, a4, hr, go_sem]
    by_cases a3 : 1 ≤ G.z ∧ G.z ≤ 1000000000
    rotate_left
    · have hr := hno fun h => a3 h.1.2.2
      have a3' : (decide (1 ≤ G.z) && decide (G.z ≤ 1000000000)) = false := by simp only [Bool.and_eq_false_iff, decide_eq_false_iff_not]; omega
      simp only [l2, l3, t6, e1, e3, e6.cells, ints_ln e6, hmd, k_spec_l01In, a1, a2, a4, a3', hr, go_sem]
    have a3' : (decide (1 ≤ G.z) && decide (G.z ≤ 1000000000)) = true := by simp only [Bool.and_eq_true, decide_eq_true_eq]; exact a3
    simp only [l2, l3, t6, e1, e3, e6.cells, ints_ln e6, hmd, k_spec_l01In, a1, a2, a4, a3', go_sem]
    refine w_for G.ms.length (fun k t loc h3 => h3 = h2 ∧ loc 2 = some [.int .i64 size, ev] ∧ loc 3 = some [yv, gv] ∧ loc 7 = some [x, .int .i64 G.z] ∧ t 6 = .int .i64 i ∧ t 8 = .int .i64 k ∧ ∀ j, j < k → (0 ≤ G.ms.getD j 0 ∧ G.ms.getD j 0 ≤ size - 1) ∧ (0 < j → G.ms.getD (j - 1) 0 < G.ms.getD j 0)) ⟨rfl, rfl, rfl, rfl, rfl, rfl, fun j hj => by omega⟩ ?_
    rintro k t loc h3 hk ⟨rfl, l2, l3, l7, t6, t8, hallM⟩
    simp only [l7, t8, ints_ln e6, go_sem]
    refine w_open (by simp only [go_sem]; rfl) ?_ ?_ <;> intro hc
    · have hk1 : k < G.ms.length := by omega
      have hw2 : IntKind.i64.wrap ((k : Int) + 1) = ((k + 1 : Nat) : Int) := w64 (by omega) (by omega)
      have hel := int_el e6 hk1
      by_cases b1 : 0 ≤ G.ms.getD k 0 ∧ G.ms.getD k 0 ≤ size - 1
      rotate_left
      · have hr := hno fun h => b1 (h.2 k hk1).1
        have b1' : (decide (0 ≤ G.ms.getD k 0) && decide (G.ms.getD k 0 ≤ size - 1)) = false := by simp only [Bool.and_eq_false_iff, decide_eq_false_iff_not]; omega
        simp only [l2, l3, l7, t6, t8, hel.1, hel.2, k_spec_l01In, hws, b1', hr, List.prefix_refl, go_sem]
      have b1' : (decide (0 ≤ G.ms.getD k 0) && decide (G.ms.getD k 0 ≤ size - 1)) = true := by simp only [Bool.and_eq_true, decide_eq_true_eq]; exact b1
      rcases Nat.eq_zero_or_pos k with hz | hp
      · have hz' : ¬ (0 : Int) < k := by omega
        simp only [l2, l3, l7, t6, t8, hel.1, hel.2, k_spec_l01In, hws, b1', hz', hw2, List.prefix_refl, go_sem]
        exact ⟨hk1, below_succ hallM ⟨b1, fun hp => by omega⟩⟩
      · have hp' : (0 : Int) < k := by omega
        have hw1 : IntKind.i64.wrap ((k : Int) - 1) = ((k - 1 : Nat) : Int) := by rw [w64 (by omega) (by omega)]; omega
        have hel2 := int_el e6 (show k - 1 < G.ms.length by omega)
        by_cases b2 : G.ms.getD k 0 ≤ G.ms.getD (k - 1) 0
        · have hr := hno fun h => by have := (h.2 k hk1).2 hp; omega
          simp only [l2, l3, l7, t6, t8, hel.1, hel.2, hel2.1, hel2.2, k_spec_l01In, hws, b1', hp', hw1, b2, hr, List.prefix_refl, go_sem]
        · simp only [l2, l3, l7, t6, t8, hel.1, hel.2, hel2.1, hel2.2, k_spec_l01In, hws, b1', hp', hw1, b2, hw2, List.prefix_refl, go_sem]
          exact ⟨hk1, below_succ hallM ⟨b1, fun hp => by omega⟩⟩
    have hkG : k = G.ms.length := by omega
    subst hkG
    have hGr : GrOk size G := ⟨⟨by omega, by omega, a3.1, a3.2⟩, hallM⟩
    simp only [l2, l3, l7, t6, go_sem]
    refine w_for i (fun k t loc h4 => h4 = h3 ∧ loc 2 = some [.int .i64 size, ev] ∧ loc 3 = some [yv, gv] ∧ loc 7 = some [x, .int .i64 G.z] ∧ t 6 = .int .i64 i ∧ t 9 = .int .i64 k ∧ ∀ j, j < k → Nest (gs.getD j g0).ms G.ms) ⟨rfl, rfl, rfl, rfl, rfl, rfl, fun j hj => by omega⟩ ?_
    rintro k t loc h4 hk ⟨rfl, l2, l3, l7, t6, t9, hallN⟩
    simp only [t6, t9, go_sem]
    refine w_open (by simp only [go_sem]; rfl) ?_ ?_ <;> intro hc
    · have hk1 : k < i := by omega
      have hw2 : IntKind.i64.wrap ((k : Int) + 1) = ((k + 1 : Nat) : Int) := w64 (by omega) (by omega)
      obtain ⟨z, f1, f2, f3, f4, f5, f6⟩ := hg.el (i := k) (by omega)
      have hmk := hml _ (getD_mem (d := g0) (show k < gs.length by omega))
      have w1 := k_spec_l11Nested (X := X) f6 e6 (by unfold lim; omega) (by unfold lim; omega)
      have hnc := nest_cnt (grOk_asc (hallG k hk1).1) (grOk_asc hGr)
      by_cases c1 : Nest (gs.getD k g0).ms G.ms
      · have hd : (decide (cntIn (gs.getD k g0).ms G.ms = 0) || (decide (cntIn (gs.getD k g0).ms G.ms = (gs.getD k g0).ms.length) || decide (cntIn (gs.getD k g0).ms G.ms = G.ms.length))) = true := by
          simp only [Bool.or_eq_true, decide_eq_true_eq]; exact hnc.1 c1
        rw [hd] at w1
        simp only [l2, l3, l7, t6, t9, f1, f2, f4, w1, hw2, List.prefix_refl, go_sem]
        exact ⟨hk1, below_succ hallN c1⟩
      · have hd : (decide (cntIn (gs.getD k g0).ms G.ms = 0) || (decide (cntIn (gs.getD k g0).ms G.ms = (gs.getD k g0).ms.length) || decide (cntIn (gs.getD k g0).ms G.ms = G.ms.length))) = false := by
          rw [Bool.eq_false_iff]
          simp only [ne_eq, Bool.or_eq_true, decide_eq_true_eq]
          exact fun h => c1 (hnc.2 h)
        have hr : ¬ PfOk size es ys gs := fun h => c1 (by rw [hG]; exact (h.2.2.1 i hi1).2 k hk1)
        rw [hd] at w1
        simp only [l2, l3, l7, t6, t9, f1, f2, f4, w1, hr, List.prefix_refl, go_sem]
    · have hki : k = i := by omega
      subst hki
      simp only [l2, l3, t6, hw, go_sem]
      rw [hG] at hGr hallN
      exact ⟨hi1, below_succ hallG ⟨hGr, hallN⟩⟩
  have hig : i = gs.length := by omega
  subst hig
  have fit := pfFit_of (by omega) (by omega) hall hs fun i hi => (hallG i hi).1
  simp only [l2, l3, go_sem]
  refine w_for es.length (fun i t loc h3 => h3 = h2 ∧ loc 2 = some [.int .i64 size, ev] ∧ loc 3 = some [yv, gv] ∧ t 10 = .int .i64 i ∧ ∀ j, j < i → 0 ≤ slackL ys gs (es.getD j e0)) ⟨rfl, rfl, rfl, rfl, fun j hj => by omega⟩ ?_
  rintro i t loc h3 hi ⟨rfl, l2, l3, t10, hallS⟩
  simp only [l2, t10, he.lnm, go_sem]
  unfold lim at hl
  refine w_open (by simp only [go_sem]; rfl) ?_ ?_ <;> intro hc
  · have hi1 : i < es.length := by omega
    have hw : IntKind.i64.wrap ((i : Int) + 1) = ((i + 1 : Nat) : Int) := w64 (by omega) (by omega)
    have hel := edge_el he hi1
    have cs := k_spec_l11Slack (X := X) hy hg fit (gok_mem g1 (getD_mem (d := e0) hi1)) g2
    unfold edgeV edgeR proofV at cs
    by_cases b1 : slackL ys gs (es.getD i e0) < 0
    · have hr : ¬ PfOk size es ys gs := fun h => by have := h.2.2.2 i hi1; omega
      simp only [l2, l3, t10, hel.1, hel.2.2.1, cs, b1, hr, List.prefix_refl, go_sem]
    · simp only [l2, l3, t10, hel.1, hel.2.2.1, cs, b1, hw, List.prefix_refl, go_sem]
      exact ⟨hi1, below_succ hallS (by omega)⟩
  · have hr : PfOk size es ys gs := ⟨⟨g1, g2, by omega⟩, hall, hallG, fun j hj => hallS j (by omega)⟩
    simp only [hr, go_sem]
theorem pfOk_fit (p : PfOk size es ys gs) : PfFit ys gs :=
  pfFit_of (by have := p.1.1.1; have := p.1.2.1; omega) p.1.2.2 p.2.1 p.1.1.1 fun i hi => (p.2.2.1 i hi).1
theorem weight_bnd (f : PfFit ys gs) : 0 ≤ weightL ys gs ∧ weightL ys gs ≤ 100000000000 := by
  have h1 := sumY_bnd f.y ys.length (Nat.le_refl _)
  have h2 := sumG_bnd f.g gs.length (Nat.le_refl _)
  rw [List.take_length] at h1 h2
  have := f.yl
  have := f.gl
  unfold weightL
  omega
end
end Go.Proofs.YtgmljppiiighmaaGreatDoor.Ab
set_option linter.unusedSimpArgs false
set_option linter.unusedVariables false
set_option linter.unnecessarySimpa false
set_option maxHeartbeats 4000000
namespace Go.Proofs.YtgmljppiiighmaaGreatDoor.Ab
open Go.RowKit
/-- The vertices of couples. -/
def metL (m : List Cp) : List Int := m.flatMap fun c => [c.a, c.b]
theorem metL_snoc {m : List Cp} {c : Cp} : metL (m ++ [c]) = metL m ++ [c.a, c.b] := by simp [metL]
theorem metL_len {m : List Cp} : (metL m).length = 2 * m.length := by
  unfold metL
  induction m with
  | nil => rfl
  | cons c m ih => simp only [List.flatMap_cons, List.length_append, ih, List.length_cons, List.length_nil]; omega
/-- A couple of a pairing is right. -/
def CpOk (es : List E) (m : List Cp) (i : Nat) : Prop := (m.getD i c0).a < (m.getD i c0).b ∧ 0 ≤ edgeIx es (m.getD i c0).a (m.getD i c0).b ∧ (0 < i → (m.getD (i - 1) c0).a < (m.getD i c0).a) ∧ ¬ (m.getD i c0).a ∈ metL (m.take i) ∧ ¬ (m.getD i c0).b ∈ metL (m.take i)
/-- A pairing is right. -/
def MOk (size : Int) (es : List E) (m : List Cp) : Prop := GOk size es ∧ ∀ i, i < m.length → CpOk es m i
theorem nodup_len' : ∀ {n : Nat} {l : List Int}, l.Nodup → (∀ x ∈ l, 0 ≤ x ∧ x < n) → l.length ≤ n
  | 0, [], _, _ => Nat.le_refl _
  | 0, a :: l, _, h => by have := h a List.mem_cons_self; omega
  | n + 1, l, hn, h => by
    by_cases hm : (n : Int) ∈ l
    · have h1 := List.length_erase_of_mem hm
      have h2 := nodup_len' (n := n) (hn.erase (n : Int)) fun x hx => by
        obtain ⟨h3, h4⟩ := (hn.mem_erase_iff).1 hx
        have := h x h4
        omega
      omega
    · have := nodup_len' (n := n) hn fun x hx => by
        have h3 := h x hx
        have : x ≠ n := fun e => hm (e ▸ hx)
        omega
      omega
theorem mok_met {size : Int} {es : List E} {m : List Cp} (g : MOk size es m) : ∀ i, i ≤ m.length → (metL (m.take i)).Nodup ∧ ∀ x ∈ metL (m.take i), 0 ≤ x ∧ x < size := by
  intro i
  induction i with
  | zero => intro _; simp [metL]
  | succ i ih =>
    intro hi
    obtain ⟨h1, h2⟩ := ih (by omega)
    obtain ⟨c1, c2, c3, c4, c5⟩ := g.2 i (by omega)
    rw [take_getD (d := c0) (by omega), metL_snoc]
    obtain ⟨e, he, hj⟩ := edgeIx_ge.1 c2
    have hE := gok_mem g.1 he
    unfold EOk at hE
    refine ⟨?_, fun x hx => ?_⟩
    · rw [List.nodup_append]
      refine ⟨h1, ?_, fun x hx y hy e => ?_⟩
      · simp only [List.nodup_cons, List.mem_singleton, List.not_mem_nil, not_false_eq_true, List.nodup_nil, and_true]
        omega
      · simp only [List.mem_cons, List.not_mem_nil, or_false] at hy
        subst e
        rcases hy with rfl | rfl
        · exact c4 hx
        · exact c5 hx
    · rcases List.mem_append.1 hx with hx | hx
      · exact h2 x hx
      · simp only [List.mem_cons, List.not_mem_nil, or_false] at hx
        rcases hj with ⟨j1, j2⟩ | ⟨j1, j2⟩ <;> rcases hx with rfl | rfl <;> omega
theorem mok_len {size : Int} {es : List E} {m : List Cp} (g : MOk size es m) : 2 * (m.length : Int) ≤ size := by
  obtain ⟨h1, h2⟩ := mok_met g m.length (Nat.le_refl _)
  rw [List.take_length] at h1 h2
  have hs := g.1.1
  have := nodup_len' (n := size.toNat) h1 fun x hx => by have := h2 x hx; omega
  rw [metL_len] at this
  omega
section
variable {X : CallF} {h : Heap} {ev mv : Value} {es : List E} {m : List Cp} {size : Int}
open Classical in
theorem k_impl_MatchOk (he : Rows h 5 ev (edges es)) (hm : Rows h 2 mv (cps m)) (hl : es.length ≤ lim) (hml : m.length ≤ 1048576) : C T X n_impl_MatchOk [graphV size ev, mv] h = some (.bool (decide (MOk size es m)), h) := by
  have hk := k_impl_GraphOk (X := X) (size := size) he hl
  refine C_go t_impl_MatchOk rfl ?_
  unfold F_impl_MatchOk
  by_cases g : GOk size es
  rotate_left
  · have hr : ¬ MOk size es m := fun h => g h.1
    unfold graphV at hk ⊢
    simp only [hk, g, hr, go_sem]
  have hk' := hk
  unfold graphV at hk ⊢
  simp only [hk, g, hm.lnm, go_sem]
  refine w_for m.length (fun i t loc h' => t 1 = mv ∧ loc 2 = some [.int .i64 size, ev] ∧ t 11 = mv ∧ t 12 = .int .i64 m.length ∧ t 13 = .int .i64 i ∧ h <+: h' ∧ (∀ j, j < i → CpOk es m j) ∧ ∃ v, t 5 = v ∧ Acc h 1 y_int v (ints (metL (m.take i))) h') ⟨rfl, rfl, rfl, rfl, rfl, List.prefix_refl _, fun j hj => by omega, _, rfl, Acc.nil⟩ ?_
  rintro i t loc h' hi ⟨t1, l2, t11, t12, t13, hp, hall, v, t5, ha⟩
  simp only [t12, t13, go_sem]
  refine w_open (by simp only [go_sem]; rfl) ?_ ?_ <;> intro hc
  · have hi1 : i < m.length := by omega
    have hw : IntKind.i64.wrap ((i : Int) + 1) = ((i + 1 : Nat) : Int) := w64 (by omega) (by omega)
    have hel := cp_el (hm.up hp) hi1
    have hneg : ¬ CpOk es m i → ¬ MOk size es m := fun hn g => hn (g.2 i hi1)
    have hat := k_impl_edgeAt (X := X) (size := size) (x := (m.getD i c0).a) (y := (m.getD i c0).b) (he.up hp) hl
    unfold graphV at hat
    have hml2 : (metL (m.take i)).length ≤ 2097152 := by rw [metL_len]; simp; omega
    have ha1 := k_impl_hasInt (X := X) (n := (m.getD i c0).a) ha.rows (by unfold lim; omega)
    have ha2 := k_impl_hasInt (X := X) (n := (m.getD i c0).b) ha.rows (by unfold lim; omega)
    by_cases h1 : (m.getD i c0).b ≤ (m.getD i c0).a
    · have hr := hneg fun h => by have := h.1; omega
      simp only [t1, l2, t5, t11, t12, t13, hel.1, hel.2.2.1, hat, ha1, ha2, List.prefix_refl, h1, hr, go_sem]
      exact finish_flat rfl hp
    by_cases h2 : edgeIx es (m.getD i c0).a (m.getD i c0).b < 0
    · have hr := hneg fun h => by have := h.2.1; omega
      simp only [t1, l2, t5, t11, t12, t13, hel.1, hel.2.2.1, hat, ha1, ha2, List.prefix_refl, h1, h2, hr, go_sem]
      exact finish_flat rfl hp
    have pos : (0 < i → (m.getD (i - 1) c0).a < (m.getD i c0).a) → ¬ (m.getD i c0).a ∈ metL (m.take i) → ¬ (m.getD i c0).b ∈ metL (m.take i) → CpOk es m i := fun a b c => ⟨by omega, by omega, a, b, c⟩
    rcases Nat.eq_zero_or_pos i with hz | hpi
    · have hz' : ¬ (0 : Int) < i := by omega
      by_cases h4 : (m.getD i c0).a ∈ metL (m.take i)
      · have hr := hneg fun h => h.2.2.2.1 h4
        simp only [t1, l2, t5, t11, t12, t13, hel.1, hel.2.2.1, hat, ha1, ha2, List.prefix_refl, h1, h2, hz', h4, hr, go_sem]
        exact finish_flat rfl hp
      by_cases h5 : (m.getD i c0).b ∈ metL (m.take i)
      · have hr := hneg fun h => h.2.2.2.2 h5
        simp only [t1, l2, t5, t11, t12, t13, hel.1, hel.2.2.1, hat, ha1, ha2, List.prefix_refl, h1, h2, hz', h4, h5, hr, go_sem]
        exact finish_flat rfl hp
      have hP := pos (fun h => by omega) h4 h5
      obtain ⟨v', hh', c, ha'⟩ := ha.push [[.int .i64 (m.getD i c0).a], [.int .i64 (m.getD i c0).b]] (by simp) (by simp) (by rw [ints_len]; simp; unfold lim; omega)
      simp only [List.flatten_cons, List.flatten_nil, List.append_nil, List.cons_append, List.nil_append, List.length_cons, List.length_nil, Nat.zero_add, Nat.reduceAdd] at c
      simp only [t1, l2, t5, t11, t12, t13, hel.1, hel.2.2.1, hat, ha1, ha2, List.prefix_refl, h1, h2, hz', h4, h5, c, hw, go_sem]
      refine ⟨hi1, ha'.up, below_succ hall hP, _, rfl, ?_⟩
      rw [take_getD (d := c0) hi1, metL_snoc, ← ints_app]
      exact ha'
    · have hp' : (0 : Int) < i := by omega
      have hw1 : IntKind.i64.wrap ((i : Int) - 1) = ((i - 1 : Nat) : Int) := by rw [w64 (by omega) (by omega)]; omega
      have hel2 := cp_el (hm.up hp) (show i - 1 < m.length by omega)
      by_cases h3 : (m.getD i c0).a ≤ (m.getD (i - 1) c0).a
      · have hr := hneg fun h => by have := h.2.2.1 hpi; omega
        simp only [t1, l2, t5, t11, t12, t13, hel.1, hel.2.2.1, hat, ha1, ha2, List.prefix_refl, hw1, hel2.1, hel2.2.1, hel2.2.2.2.1, h1, h2, hp', h3, hr, go_sem]
        exact finish_flat rfl hp
      by_cases h4 : (m.getD i c0).a ∈ metL (m.take i)
      · have hr := hneg fun h => h.2.2.2.1 h4
        simp only [t1, l2, t5, t11, t12, t13, hel.1, hel.2.2.1, hat, ha1, ha2, List.prefix_refl, hw1, hel2.1, hel2.2.1, hel2.2.2.2.1, h1, h2, hp', h3, h4, hr, go_sem]
        exact finish_flat rfl hp
      by_cases h5 : (m.getD i c0).b ∈ metL (m.take i)
      · have hr := hneg fun h => h.2.2.2.2 h5
        simp only [t1, l2, t5, t11, t12, t13, hel.1, hel.2.2.1, hat, ha1, ha2, List.prefix_refl, hw1, hel2.1, hel2.2.1, hel2.2.2.2.1, h1, h2, hp', h3, h4, h5, hr, go_sem]
        exact finish_flat rfl hp
      have hP := pos (fun h => by omega) h4 h5
      obtain ⟨v', hh', c, ha'⟩ := ha.push [[.int .i64 (m.getD i c0).a], [.int .i64 (m.getD i c0).b]] (by simp) (by simp) (by rw [ints_len]; simp; unfold lim; omega)
      simp only [List.flatten_cons, List.flatten_nil, List.append_nil, List.cons_append, List.nil_append, List.length_cons, List.length_nil, Nat.zero_add, Nat.reduceAdd] at c
      simp only [t1, l2, t5, t11, t12, t13, hel.1, hel.2.2.1, hat, ha1, ha2, List.prefix_refl, hw1, hel2.1, hel2.2.1, hel2.2.2.2.1, h1, h2, hp', h3, h4, h5, c, hw, go_sem]
      refine ⟨hi1, ha'.up, below_succ hall hP, _, rfl, ?_⟩
      rw [take_getD (d := c0) hi1, metL_snoc, ← ints_app]
      exact ha'
  · have hr : MOk size es m := ⟨g, fun j hj => hall j (by omega)⟩
    simp only [hr, go_sem]
    exact finish_flat rfl hp
open Classical in
theorem k_spec_MatchOk (he : Rows h 5 ev (edges es)) (hm : Rows h 2 mv (cps m)) (hl : es.length ≤ lim) (hml : m.length ≤ 1048576) : C T X n_spec_MatchOk [graphV size ev, mv] h = some (.bool (decide (MOk size es m)), h) := by
  have hk := k_spec_GraphOk (X := X) (size := size) he hl
  refine C_go t_spec_MatchOk rfl ?_
  unfold F_spec_MatchOk
  by_cases g : GOk size es
  rotate_left
  · have hr : ¬ MOk size es m := fun h => g h.1
    unfold graphV at hk ⊢
    simp only [hk, g, hr, go_sem]
  have hk' := hk
  unfold graphV at hk ⊢
  by_cases hm9 : (9 : Int) < m.length
  · have hr : ¬ MOk size es m := fun h => by have := mok_len h; have := g.1; omega
    simp only [hk, g, hm.lnm, hm9, hr, go_sem]
  simp only [hk, g, hm.lnm, hm9, zeros, fillAt, go_sem]
  refine w_for m.length (fun i t loc h' => t 1 = mv ∧ loc 2 = some [.int .i64 size, ev] ∧ t 6 = .int .i64 i ∧ h <+: h' ∧ (∀ j, j < i → CpOk es m j) ∧ ∃ v, t 5 = v ∧ Acc h 1 y_int v (ints (metL (m.take i))) h') ⟨rfl, rfl, rfl, List.prefix_append _ _, fun j hj => by omega, _, rfl, Acc.new⟩ ?_
  rintro i t loc h' hi ⟨t1, l2, t6, hp, hall, v, t5, ha⟩
  simp only [t1, t6, (hm.up hp).lnm, go_sem]
  refine w_open (by simp only [go_sem]; rfl) ?_ ?_ <;> intro hc
  · have hi1 : i < m.length := by omega
    have hw : IntKind.i64.wrap ((i : Int) + 1) = ((i + 1 : Nat) : Int) := w64 (by omega) (by omega)
    have hel := cp_el (hm.up hp) hi1
    have hneg : ¬ CpOk es m i → ¬ MOk size es m := fun hn g => hn (g.2 i hi1)
    have hat := k_spec_l08At (X := X) (size := size) (x := (m.getD i c0).a) (y := (m.getD i c0).b) (he.up hp) hl
    unfold graphV at hat
    have hml2 : (metL (m.take i)).length ≤ 2097152 := by rw [metL_len]; simp; omega
    have ha1 := k_spec_l03In (X := X) (n := (m.getD i c0).a) ha.rows (by unfold lim; omega)
    have ha2 := k_spec_l03In (X := X) (n := (m.getD i c0).b) ha.rows (by unfold lim; omega)
    by_cases h1 : (m.getD i c0).b ≤ (m.getD i c0).a
    · have hr := hneg fun h => by have := h.1; omega
      simp only [t1, l2, t5, t6, hel.1, hel.2.2.1, hat, ha1, ha2, List.prefix_refl, h1, hr, go_sem]
      exact finish_flat rfl hp
    have pos : ¬ edgeIx es (m.getD i c0).a (m.getD i c0).b < 0 → (0 < i → (m.getD (i - 1) c0).a < (m.getD i c0).a) → ¬ (m.getD i c0).a ∈ metL (m.take i) → ¬ (m.getD i c0).b ∈ metL (m.take i) → CpOk es m i := fun d a b c => ⟨by omega, by omega, a, b, c⟩
    rcases Nat.eq_zero_or_pos i with hz | hpi
    · have hz' : ¬ (0 : Int) < i := by omega
      by_cases h2 : edgeIx es (m.getD i c0).a (m.getD i c0).b < 0
      · have hr := hneg fun h => by have := h.2.1; omega
        simp only [t1, l2, t5, t6, hel.1, hel.2.2.1, hat, ha1, ha2, List.prefix_refl, h1, h2, hz', hr, go_sem]
        exact finish_flat rfl hp
      by_cases h4 : (m.getD i c0).a ∈ metL (m.take i)
      · have hr := hneg fun h => h.2.2.2.1 h4
        simp only [t1, l2, t5, t6, hel.1, hel.2.2.1, hat, ha1, ha2, List.prefix_refl, h1, h2, hz', h4, hr, go_sem]
        exact finish_flat rfl hp
      by_cases h5 : (m.getD i c0).b ∈ metL (m.take i)
      · have hr := hneg fun h => h.2.2.2.2 h5
        simp only [t1, l2, t5, t6, hel.1, hel.2.2.1, hat, ha1, ha2, List.prefix_refl, h1, h2, hz', h4, h5, hr, go_sem]
        exact finish_flat rfl hp
      have hP := pos h2 (fun h => by omega) h4 h5
      obtain ⟨v', hh', c, ha'⟩ := ha.push [[.int .i64 (m.getD i c0).a], [.int .i64 (m.getD i c0).b]] (by simp) (by simp) (by rw [ints_len]; simp; unfold lim; omega)
      simp only [List.flatten_cons, List.flatten_nil, List.append_nil, List.cons_append, List.nil_append, List.length_cons, List.length_nil, Nat.zero_add, Nat.reduceAdd] at c
      simp only [t1, l2, t5, t6, hel.1, hel.2.2.1, hat, ha1, ha2, List.prefix_refl, h1, h2, hz', h4, h5, c, hw, go_sem]
      refine ⟨hi1, ha'.up, below_succ hall hP, _, rfl, ?_⟩
      rw [take_getD (d := c0) hi1, metL_snoc, ← ints_app]
      exact ha'
    · have hp' : (0 : Int) < i := by omega
      have hw1 : IntKind.i64.wrap ((i : Int) - 1) = ((i - 1 : Nat) : Int) := by rw [w64 (by omega) (by omega)]; omega
      have hel2 := cp_el (hm.up hp) (show i - 1 < m.length by omega)
      by_cases h3 : (m.getD i c0).a ≤ (m.getD (i - 1) c0).a
      · have hr := hneg fun h => by have := h.2.2.1 hpi; omega
        simp only [t1, l2, t5, t6, hel.1, hel.2.2.1, hat, ha1, ha2, List.prefix_refl, hw1, hel2.1, hel2.2.1, hel2.2.2.2.1, h1, hp', h3, hr, go_sem]
        exact finish_flat rfl hp
      by_cases h2 : edgeIx es (m.getD i c0).a (m.getD i c0).b < 0
      · have hr := hneg fun h => by have := h.2.1; omega
        simp only [t1, l2, t5, t6, hel.1, hel.2.2.1, hat, ha1, ha2, List.prefix_refl, h1, h2, hw1, hel2.1, hel2.2.1, hel2.2.2.2.1, hp', h3, hr, go_sem]
        exact finish_flat rfl hp
      by_cases h4 : (m.getD i c0).a ∈ metL (m.take i)
      · have hr := hneg fun h => h.2.2.2.1 h4
        simp only [t1, l2, t5, t6, hel.1, hel.2.2.1, hat, ha1, ha2, List.prefix_refl, hw1, hel2.1, hel2.2.1, hel2.2.2.2.1, h1, h2, hp', h3, h4, hr, go_sem]
        exact finish_flat rfl hp
      by_cases h5 : (m.getD i c0).b ∈ metL (m.take i)
      · have hr := hneg fun h => h.2.2.2.2 h5
        simp only [t1, l2, t5, t6, hel.1, hel.2.2.1, hat, ha1, ha2, List.prefix_refl, hw1, hel2.1, hel2.2.1, hel2.2.2.2.1, h1, h2, hp', h3, h4, h5, hr, go_sem]
        exact finish_flat rfl hp
      have hP := pos h2 (fun h => by omega) h4 h5
      obtain ⟨v', hh', c, ha'⟩ := ha.push [[.int .i64 (m.getD i c0).a], [.int .i64 (m.getD i c0).b]] (by simp) (by simp) (by rw [ints_len]; simp; unfold lim; omega)
      simp only [List.flatten_cons, List.flatten_nil, List.append_nil, List.cons_append, List.nil_append, List.length_cons, List.length_nil, Nat.zero_add, Nat.reduceAdd] at c
      simp only [t1, l2, t5, t6, hel.1, hel.2.2.1, hat, ha1, ha2, List.prefix_refl, hw1, hel2.1, hel2.2.1, hel2.2.2.2.1, h1, h2, hp', h3, h4, h5, c, hw, go_sem]
      refine ⟨hi1, ha'.up, below_succ hall hP, _, rfl, ?_⟩
      rw [take_getD (d := c0) hi1, metL_snoc, ← ints_app]
      exact ha'
  · have hr : MOk size es m := ⟨g, fun j hj => hall j (by omega)⟩
    simp only [hr, go_sem]
    exact finish_flat rfl hp
end
section
variable {X : CallF} {h : Heap} {ev mv : Value} {es : List E} {m : List Cp} {size : Int}
end
end Go.Proofs.YtgmljppiiighmaaGreatDoor.Ab
set_option linter.unusedSimpArgs false
set_option linter.unusedVariables false
set_option linter.unnecessarySimpa false
set_option maxHeartbeats 4000000
namespace Go.Proofs.YtgmljppiiighmaaGreatDoor.Ab
open Go.RowKit
/-- What the couples of a pairing are worth. -/
def worthL (es : List E) (m : List Cp) : Int := m.foldl (fun s c => s + scalar (es.getD (edgeIx es c.a c.b).toNat e0).w1 (es.getD (edgeIx es c.a c.b).toNat e0).w2 (es.getD (edgeIx es c.a c.b).toNat e0).w3) 0
def scAt (es : List E) (c : Cp) : Int := scalar (es.getD (edgeIx es c.a c.b).toNat e0).w1 (es.getD (edgeIx es c.a c.b).toNat e0).w2 (es.getD (edgeIx es c.a c.b).toNat e0).w3
theorem worthL_take {es : List E} {m : List Cp} {i : Nat} (hi : i < m.length) : worthL es (m.take (i + 1)) = worthL es (m.take i) + scAt es (m.getD i c0) := by
  unfold worthL
  rw [take_getD (d := c0) hi, List.foldl_append]
  rfl
theorem ix_lt {es : List E} {a b : Int} (h : 0 ≤ edgeIx es a b) : ∃ k : Nat, edgeIx es a b = k ∧ k < es.length := by
  unfold edgeIx at *
  rcases firstIx_cases (p := Join a b) e0 es with ⟨h1, _⟩ | ⟨i, h1, h2, _⟩
  · omega
  · exact ⟨i, h1, h2⟩
theorem scAt_bnd {size : Int} {es : List E} {m : List Cp} (g : MOk size es m) {i : Nat} (hi : i < m.length) : 0 ≤ scAt es (m.getD i c0) ∧ scAt es (m.getD i c0) ≤ 5000000 := by
  obtain ⟨k, h1, h2⟩ := ix_lt (g.2 i hi).2.1
  have hE := gok_mem g.1 (getD_mem (d := e0) h2)
  unfold EOk at hE
  unfold scAt
  rw [h1]
  simp only [Int.toNat_natCast]
  unfold scalar
  omega
theorem worthL_bnd {size : Int} {es : List E} {m : List Cp} (g : MOk size es m) : ∀ i, i ≤ m.length → 0 ≤ worthL es (m.take i) ∧ worthL es (m.take i) ≤ 5000000 * i := by
  intro i
  induction i with
  | zero => intro _; simp [worthL]
  | succ i ih =>
    intro hi
    have h1 := ih (by omega)
    have h2 := scAt_bnd g (show i < m.length by omega)
    rw [worthL_take (by omega)]
    omega
def CertOk (size : Int) (es : List E) (m : List Cp) (ys : List Int) (gs : List Gp) : Prop := PfOk size es ys gs ∧ MOk size es m ∧ 2 * worthL es m = weightL ys gs
section
variable {X : CallF} {h : Heap} {v w ev yv gv mv : Value} {ys : List Int} {gs : List Gp} {es : List E} {m : List Cp} {size : Int}
theorem k_spec_l11Worth (he : Rows h 5 ev (edges es)) (hm : Rows h 2 mv (cps m)) (hl : es.length ≤ lim) (hml : m.length ≤ 1048576) (g : MOk size es m) : C T X n_spec_l11Worth [graphV size ev, mv] h = some (.int .i64 (worthL es m), h) := by
  have hgl := mok_len g
  have g11 := g.1.1
  have hwb := worthL_bnd g
  refine C_go t_spec_l11Worth rfl ?_
  unfold F_spec_l11Worth graphV
  simp only [go_sem]
  refine w_for m.length (fun i t loc h' => h' = h ∧ t 1 = mv ∧ loc 2 = some [.int .i64 size, ev] ∧ t 5 = .int .i64 (worthL es (m.take i)) ∧ t 6 = .int .i64 i) ⟨rfl, rfl, rfl, rfl, rfl⟩ ?_
  rintro i t loc h' hi ⟨rfl, t1, l2, t5, t6⟩
  simp only [t1, t6, hm.lnm, go_sem]
  refine w_open (by simp only [go_sem]; rfl) ?_ ?_ <;> intro hc
  · have hi1 : i < m.length := by omega
    have hw : IntKind.i64.wrap ((i : Int) + 1) = ((i + 1 : Nat) : Int) := w64 (by omega) (by omega)
    have hel := cp_el hm hi1
    have cat := k_spec_l08At (X := X) (size := size) (x := (m.getD i c0).a) (y := (m.getD i c0).b) he hl
    obtain ⟨k, h1, h2⟩ := ix_lt (g.2 i hi1).2.1
    rw [h1] at cat
    have hek := edge_el he h2
    have hWk := eok_w (gok_mem g.1 (getD_mem (d := e0) h2))
    have csc := k_spec_Scalar (X := X) (h := h') hWk
    have hsc : scalar (es.getD k e0).w1 (es.getD k e0).w2 (es.getD k e0).w3 = scAt es (m.getD i c0) := by unfold scAt; rw [h1]; rfl
    rw [hsc] at csc
    have hst := worthL_take (es := es) hi1
    have b1 := hwb i (by omega)
    have b2 := scAt_bnd g hi1
    have hw2 : IntKind.i64.wrap (worthL es (m.take i) + scAt es (m.getD i c0)) = worthL es (m.take (i + 1)) := by rw [hst]; exact w64 (by omega) (by omega)
    unfold graphV at cat
    unfold edgeV edgeR at csc
    simp only [t1, l2, t5, t6, hel.1, hel.2.1, hel.2.2.2.1, hel.2.2.2.2, cat, hek.1, hek.2.2.1, csc, hw2, hw, List.prefix_refl, go_sem]
    exact hi1
  · have hil : i = m.length := by omega
    subst hil
    rw [List.take_length] at t5
    simp only [t5, go_sem]
open Classical in
theorem k_spec_Certifies (he : Rows h 5 ev (edges es)) (hm : Rows h 2 mv (cps m)) (hy : Rows h 1 yv (ints ys)) (hg : RowsG h gv gs) (hl : es.length ≤ lim) (hml : m.length ≤ 1048576) (hb : PfBnd ys gs) :
    C T X n_spec_Certifies [graphV size ev, mv, proofV yv gv] h = some (.bool (decide (CertOk size es m ys gs)), h) := by
  have k1 := k_spec_ProofOk (X := X) (size := size) he hy hg hl hb
  have k2 := k_spec_MatchOk (X := X) (size := size) he hm hl hml
  refine C_go t_spec_Certifies rfl ?_
  unfold F_spec_Certifies
  by_cases p : PfOk size es ys gs
  rotate_left
  · have hr : ¬ CertOk size es m ys gs := fun h => p h.1
    unfold graphV proofV at *
    simp only [k1, p, hr, List.prefix_refl, go_sem]
  by_cases g : MOk size es m
  rotate_left
  · have hr : ¬ CertOk size es m ys gs := fun h => g h.2.1
    unfold graphV proofV at *
    simp only [k1, k2, p, g, hr, List.prefix_refl, go_sem]
  have f := pfOk_fit p
  have hwb := weight_bnd f
  have cw := k_spec_l11Sum (X := X) hy hg f
  have c2 := k_spec_l11Worth (X := X) he hm hl hml g
  have b1 := worthL_bnd g m.length (Nat.le_refl _)
  rw [List.take_length] at b1
  have hgl := mok_len g
  have g11 := g.1.1
  have hw2 : IntKind.i64.wrap (2 * worthL es m) = 2 * worthL es m := w64 (by omega) (by omega)
  by_cases q : 2 * worthL es m = weightL ys gs
  · have hr : CertOk size es m ys gs := ⟨p, g, q⟩
    unfold graphV proofV at *
    simp only [k1, k2, p, g, cw, c2, hw2, decide_eq_true q, hr, List.prefix_refl, go_sem]
  · have hr : ¬ CertOk size es m ys gs := fun h => q h.2.2
    unfold graphV proofV at *
    simp only [k1, k2, p, g, cw, c2, hw2, q, hr, List.prefix_refl, go_sem]
open Classical in
theorem k_impl_Certifies (he : Rows h 5 ev (edges es)) (hm : Rows h 2 mv (cps m)) (hy : Rows h 1 yv (ints ys)) (hg : RowsG h gv gs) (hl : es.length ≤ lim) (hml : m.length ≤ 1048576) (hb : PfBnd ys gs) :
    C T X n_impl_Certifies [graphV size ev, mv, proofV yv gv] h = some (.bool (decide (CertOk size es m ys gs)), h) := by
  have k1 := k_impl_ProofOk (X := X) (size := size) he hy hg hl hb
  have k2 := k_impl_MatchOk (X := X) (size := size) he hm hl hml
  refine C_go t_impl_Certifies rfl ?_
  unfold F_impl_Certifies
  by_cases p : PfOk size es ys gs
  rotate_left
  · have hr : ¬ CertOk size es m ys gs := fun h => p h.1
    unfold graphV proofV at *
    simp only [k1, p, hr, List.prefix_refl, go_sem]
  by_cases g : MOk size es m
  rotate_left
  · have hr : ¬ CertOk size es m ys gs := fun h => g h.2.1
    unfold graphV proofV at *
    simp only [k1, k2, p, g, hr, List.prefix_refl, go_sem]
  have f := pfOk_fit p
  have hwt := weight_bnd f
  have cw := k_impl_weight (X := X) hy hg f fun i hi => (p.2.2.1 i hi).1.1.2.1
  have hwb := worthL_bnd g
  have hgl := mok_len g
  have g11 := g.1.1
  unfold graphV proofV at *
  simp only [k1, k2, p, g, hm.lnm, go_sem]
  refine w_for m.length (fun i t loc h' => h' = h ∧ loc 3 = some [.int .i64 size, ev] ∧ loc 5 = some [yv, gv] ∧ t 7 = .int .i64 (worthL es (m.take i)) ∧ t 20 = mv ∧ t 21 = .int .i64 m.length ∧ t 22 = .int .i64 i) ⟨rfl, rfl, rfl, rfl, rfl, rfl, rfl⟩ ?_
  rintro i t loc h' hi ⟨rfl, l3, l5, t7, t20, t21, t22⟩
  simp only [t21, t22, go_sem]
  refine w_open (by simp only [go_sem]; rfl) ?_ ?_ <;> intro hc
  · have hi1 : i < m.length := by omega
    have hw : IntKind.i64.wrap ((i : Int) + 1) = ((i + 1 : Nat) : Int) := w64 (by omega) (by omega)
    have hel := cp_el hm hi1
    have cat := k_impl_edgeAt (X := X) (size := size) (x := (m.getD i c0).a) (y := (m.getD i c0).b) he hl
    obtain ⟨k, h1, h2⟩ := ix_lt (g.2 i hi1).2.1
    rw [h1] at cat
    have hek := edge_el he h2
    have hWk := eok_w (gok_mem g.1 (getD_mem (d := e0) h2))
    have csc := k_impl_Scalar (X := X) (h := h') hWk
    have hsc : scalar (es.getD k e0).w1 (es.getD k e0).w2 (es.getD k e0).w3 = scAt es (m.getD i c0) := by unfold scAt; rw [h1]; rfl
    rw [hsc] at csc
    have hst := worthL_take (es := es) hi1
    have b1 := hwb i (by omega)
    have b2 := scAt_bnd g hi1
    have hw2 : IntKind.i64.wrap (worthL es (m.take i) + scAt es (m.getD i c0)) = worthL es (m.take (i + 1)) := by rw [hst]; exact w64 (by omega) (by omega)
    unfold graphV at cat
    unfold edgeV edgeR at csc
    simp only [l3, l5, t7, t20, t21, t22, hel.1, hel.2.2.1, cat, hek.1, hek.2.2.1, csc, hw2, hw, List.prefix_refl, go_sem]
    exact hi1
  · have hil : i = m.length := by omega
    subst hil
    have b1 := hwb m.length (Nat.le_refl _)
    rw [List.take_length] at t7 b1
    have hw2 : IntKind.i64.wrap (2 * worthL es m) = 2 * worthL es m := w64 (by omega) (by omega)
    by_cases q : 2 * worthL es m = weightL ys gs
    · have hr : CertOk size es m ys gs := ⟨p, g, q⟩
      simp only [l5, t7, cw, hw2, decide_eq_true q, hr, List.prefix_refl, go_sem]
    · have hr : ¬ CertOk size es m ys gs := fun h => q h.2.2
      simp only [l5, t7, cw, hw2, q, hr, List.prefix_refl, go_sem]
end
end Go.Proofs.YtgmljppiiighmaaGreatDoor.Ab
