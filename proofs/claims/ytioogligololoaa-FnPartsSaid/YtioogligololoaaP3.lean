/- Plain proofs: what a proof comes to. No conditions. -/
import Derived.Test.YtioogligololoaaR7
import Derived.Test.YtioogligololoaaK13
set_option linter.unusedSimpArgs false
set_option linter.unusedVariables false
set_option linter.unnecessarySimpa false
set_option maxHeartbeats 4000000
namespace Go.Proofs.Ytioogligololoaa.Ab

/-- What the groups add to an edge. -/
def grAdd (a b : Int) (gs : List Gp) : Int := gs.foldl (fun s g => if a ∈ g.ms ∧ b ∈ g.ms then s + g.z else s) 0
def slackL (ys : List Int) (gs : List Gp) (e : E) : Int := ys.getD e.a.toNat 0 + ys.getD e.b.toNat 0 - 2 * scalar e.w1 e.w2 e.w3 + grAdd e.a e.b gs
def sumY (ys : List Int) : Int := ys.foldl (· + ·) 0
def sumG (gs : List Gp) : Int := gs.foldl (fun s g => s + g.z * ((g.ms.length / 2 : Nat) : Int)) 0
def weightL (ys : List Int) (gs : List Gp) : Int := sumY ys + sumG gs
/-- A proof is right. -/
def PfOk (size : Int) (es : List E) (ys : List Int) (gs : List Gp) : Prop :=
  (GOk size es ∧ (ys.length : Int) = size ∧ gs.length ≤ 8) ∧ (∀ j, j < ys.length → 0 ≤ ys.getD j 0 ∧ ys.getD j 0 ≤ 1000000000) ∧
  (∀ i, i < gs.length → GrOk size (gs.getD i g0) ∧ ∀ k, k < i → Nest (gs.getD k g0).ms (gs.getD i g0).ms) ∧ ∀ i, i < es.length → 0 ≤ slackL ys gs (es.getD i e0)

theorem grAdd_take {a b : Int} {gs : List Gp} {i : Nat} (hi : i < gs.length) : grAdd a b (gs.take (i + 1)) = if a ∈ (gs.getD i g0).ms ∧ b ∈ (gs.getD i g0).ms then grAdd a b (gs.take i) + (gs.getD i g0).z else grAdd a b (gs.take i) := by
  unfold grAdd
  rw [take_getD (d := g0) hi, List.foldl_append]
  rfl
theorem sumY_take {ys : List Int} {i : Nat} (hi : i < ys.length) : sumY (ys.take (i + 1)) = sumY (ys.take i) + ys.getD i 0 := by
  unfold sumY
  rw [take_getD (d := 0) hi, List.foldl_append]
  rfl
theorem sumG_take {gs : List Gp} {i : Nat} (hi : i < gs.length) : sumG (gs.take (i + 1)) = sumG (gs.take i) + (gs.getD i g0).z * (((gs.getD i g0).ms.length / 2 : Nat) : Int) := by
  unfold sumG
  rw [take_getD (d := g0) hi, List.foldl_append]
  rfl
theorem grAdd_bnd {a b : Int} {gs : List Gp} (hz : ∀ i, i < gs.length → 0 ≤ (gs.getD i g0).z ∧ (gs.getD i g0).z ≤ 1000000000) : ∀ i, i ≤ gs.length → 0 ≤ grAdd a b (gs.take i) ∧ grAdd a b (gs.take i) ≤ 1000000000 * i := by
  intro i
  induction i with
  | zero => intro _; simp [grAdd]
  | succ i ih =>
    intro hi
    have h1 := ih (by omega)
    have h2 := hz i (by omega)
    rw [grAdd_take (by omega)]
    split <;> omega
theorem sumY_bnd {ys : List Int} (hz : ∀ i, i < ys.length → 0 ≤ ys.getD i 0 ∧ ys.getD i 0 ≤ 1000000000) : ∀ i, i ≤ ys.length → 0 ≤ sumY (ys.take i) ∧ sumY (ys.take i) ≤ 1000000000 * i := by
  intro i
  induction i with
  | zero => intro _; simp [sumY]
  | succ i ih =>
    intro hi
    have h1 := ih (by omega)
    have h2 := hz i (by omega)
    rw [sumY_take (by omega)]
    omega
theorem mul_bnd {z : Int} {n : Nat} (h1 : 0 ≤ z ∧ z ≤ 1000000000) (h2 : n ≤ 9) : 0 ≤ z * ((n / 2 : Nat) : Int) ∧ z * ((n / 2 : Nat) : Int) ≤ 4000000000 := by
  have h3 : n / 2 ≤ 4 := by omega
  have : n / 2 = 0 ∨ n / 2 = 1 ∨ n / 2 = 2 ∨ n / 2 = 3 ∨ n / 2 = 4 := by omega
  rcases this with e | e | e | e | e <;> rw [e] <;> constructor <;> (push_cast; omega)
theorem sumG_bnd {gs : List Gp} (hz : ∀ i, i < gs.length → (0 ≤ (gs.getD i g0).z ∧ (gs.getD i g0).z ≤ 1000000000) ∧ (gs.getD i g0).ms.length ≤ 9) : ∀ i, i ≤ gs.length → 0 ≤ sumG (gs.take i) ∧ sumG (gs.take i) ≤ 4000000000 * i := by
  intro i
  induction i with
  | zero => intro _; simp [sumG]
  | succ i ih =>
    intro hi
    have h1 := ih (by omega)
    have h2 := hz i (by omega)
    have h3 := mul_bnd h2.1 h2.2
    rw [sumG_take (by omega)]
    omega

theorem asc_of {l : List Int} (h : ∀ j, j < l.length → 0 < j → l.getD (j - 1) 0 < l.getD j 0) : Asc l := by
  induction l with
  | nil => exact List.Pairwise.nil
  | cons a l ih =>
    have h' : ∀ j, j < l.length → 0 < j → l.getD (j - 1) 0 < l.getD j 0 := fun j hj hp => by
      have := h (j + 1) (by simpa using hj) (by omega)
      have e : j + 1 - 1 = (j - 1) + 1 := by omega
      rw [e] at this
      simpa using this
    have ih := ih h'
    rw [Asc, List.pairwise_cons]
    refine ⟨fun x hx => ?_, ih⟩
    cases l with
    | nil => cases hx
    | cons b l =>
      have hb := h 1 (by simp) (by omega)
      simp at hb
      rcases List.mem_cons.1 hx with rfl | hx
      · exact hb
      · have := (List.pairwise_cons.1 ih).1 x hx
        omega
theorem grOk_asc {size : Int} {g : Gp} (h : GrOk size g) : Asc g.ms := asc_of fun j hj hp => (h.2 j hj).2 hp
theorem asc_nodup {l : List Int} (h : Asc l) : l.Nodup := by
  refine List.Pairwise.imp (R := (· < ·)) (fun h => ?_) h
  exact Int.ne_of_lt h
theorem grOk_len {size : Int} {g : Gp} (h : GrOk size g) (hs : 0 ≤ size) : (g.ms.length : Int) ≤ size := by
  have key : ∀ {n : Nat} {l : List Int}, l.Nodup → (∀ x ∈ l, 0 ≤ x ∧ x < n) → l.length ≤ n := by
    intro n
    induction n with
    | zero => intro l _ h
              cases l with
              | nil => exact Nat.le_refl _
              | cons a l => have := h a List.mem_cons_self; omega
    | succ n ih =>
      intro l hn h
      by_cases hm : (n : Int) ∈ l
      · have h1 := List.length_erase_of_mem hm
        have h2 := ih (hn.erase (n : Int)) fun x hx => by
          obtain ⟨h3, h4⟩ := (hn.mem_erase_iff).1 hx
          have := h x h4
          omega
        omega
      · have := ih hn fun x hx => by
          have h3 := h x hx
          have : x ≠ n := fun e => hm (e ▸ hx)
          omega
        omega
  have := key (n := size.toNat) (asc_nodup (grOk_asc h)) fun x hx => by
    obtain ⟨j, hj, e⟩ := mem_getD (d := 0) hx
    have := (h.2 j hj).1
    omega
  omega

/-- How many of one list are in another. -/
def cntIn (a b : List Int) : Nat := (a.filter fun x => decide (x ∈ b)).length
theorem cntIn_take {a b : List Int} {i : Nat} (hi : i < a.length) : cntIn (a.take (i + 1)) b = if a.getD i 0 ∈ b then cntIn (a.take i) b + 1 else cntIn (a.take i) b := by
  unfold cntIn
  rw [take_getD (d := 0) hi, List.filter_append, List.length_append]
  split
  · rename_i h; simp only [List.filter_cons, decide_eq_true h, if_true, List.filter_nil, List.length_cons, List.length_nil]
  · rename_i h; simp only [List.filter_cons, decide_eq_false h, Bool.false_eq_true, if_false, List.filter_nil, List.length_nil, Nat.add_zero]
theorem cntIn_le {a b : List Int} : cntIn a b ≤ a.length := List.length_filter_le _ _
theorem cnt_zero {a b : List Int} : cntIn a b = 0 ↔ ∀ x ∈ a, ¬ x ∈ b := by
  unfold cntIn
  rw [List.length_eq_zero_iff, List.filter_eq_nil_iff]
  simp
theorem cnt_all {a b : List Int} : cntIn a b = a.length ↔ ∀ x ∈ a, x ∈ b := by
  unfold cntIn
  rw [List.length_filter_eq_length_iff]
  simp
theorem cnt_swap {a b : List Int} (ha : Asc a) (hb : Asc b) : cntIn a b = cntIn b a := by
  unfold cntIn
  congr 1
  refine asc_ext (ha.filter _) (hb.filter _) fun x => ?_
  simp only [List.mem_filter, decide_eq_true_eq]
  exact And.comm
/-- The reference's test. -/
theorem nest_cnt {a b : List Int} (ha : Asc a) (hb : Asc b) : Nest a b ↔ cntIn a b = 0 ∨ cntIn a b = a.length ∨ cntIn a b = b.length := by
  unfold Nest
  have h3 : cntIn a b = b.length ↔ ∀ x ∈ b, x ∈ a := by rw [cnt_swap ha hb]; exact cnt_all
  rw [h3, cnt_zero, cnt_all]
  constructor
  · rintro (h | h | h)
    · exact .inr (.inr h)
    · exact .inl fun x hx hb => h x hb hx
    · exact .inr (.inl h)
  · rintro (h | h | h)
    · exact .inr (.inl fun x hx ha => h x ha hx)
    · exact .inr (.inr h)
    · exact .inl h
end Go.Proofs.Ytioogligololoaa.Ab
