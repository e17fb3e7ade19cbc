/- Plain: a certificate is read from bytes. No conditions. -/
import Derived.Test.YtioogligololoaaK9
import Derived.Test.YtioogligololoaaK32
set_option linter.unusedSimpArgs false
set_option linter.unusedVariables false
set_option linter.unnecessarySimpa false
set_option maxHeartbeats 4000000
namespace Go.Proofs.Ytioogligololoaa.Ab
open Go.RowKit

section
variable {α : Type} {s : ByteArray} {p q r : Nat × Bool} {l m : List Int}

/-- So many are read, as long as all is well. -/
def rdN (step : Nat × Bool → α × (Nat × Bool)) : Nat → Nat × Bool → List α × (Nat × Bool)
  | 0, p => ([], p)
  | n + 1, p => if p.2 = true then ([], p) else ((step p).1 :: (rdN step n (step p).2).1, (rdN step n (step p).2).2)
/-- On the way. -/
def RdTo (step : Nat × Bool → α × (Nat × Bool)) (n : Nat) (p0 : Nat × Bool) (L : List α) (k : Nat) (p : Nat × Bool) : Prop := rdN step n p0 = (L ++ (rdN step k p).1, (rdN step k p).2)
theorem RdTo.start {step : Nat × Bool → α × (Nat × Bool)} {n : Nat} : RdTo step n p [] n p := by unfold RdTo; simp
theorem RdTo.next {step : Nat × Bool → α × (Nat × Bool)} {n k : Nat} {p0 : Nat × Bool} {L : List α} (h : RdTo step n p0 L (k + 1) p) (hp : p.2 = false) : RdTo step n p0 (L ++ [(step p).1]) k (step p).2 := by
  unfold RdTo at *
  rw [h]
  have e : rdN step (k + 1) p = ((step p).1 :: (rdN step k (step p).2).1, (rdN step k (step p).2).2) := by
    rw [rdN, if_neg (by rw [hp]; simp)]
  rw [e]
  simp
theorem RdTo.done {step : Nat × Bool → α × (Nat × Bool)} {n k : Nat} {p0 : Nat × Bool} {L : List α} (h : RdTo step n p0 L k p) (hp : k = 0 ∨ p.2 = true) : rdN step n p0 = (L, p) := by
  unfold RdTo at h
  rw [h]
  rcases hp with rfl | hp
  · simp [rdN]
  · cases k with
    | zero => simp [rdN]
    | succ k => rw [rdN, if_pos hp]; simp
theorem rdN_len {step : Nat × Bool → α × (Nat × Bool)} : ∀ {n : Nat} {p : Nat × Bool}, (rdN step n p).1.length ≤ n
  | 0, _ => Nat.le_refl 0
  | n + 1, p => by
    rw [rdN]
    split
    · exact Nat.zero_le _
    · have := rdN_len (step := step) (n := n) (p := (step p).2)
      simp only [List.length_cons]
      omega
theorem RdTo.len {step : Nat × Bool → α × (Nat × Bool)} {n k : Nat} {p0 : Nat × Bool} {L : List α} (h : RdTo step n p0 L k p) : L.length ≤ n := by
  have h1 := rdN_len (step := step) (n := n) (p := p0)
  unfold RdTo at h
  rw [h] at h1
  simp only [List.length_append] at h1
  omega

theorem segN_append {a b c : Nat} (h1 : a ≤ b) (h2 : b ≤ c) : segN s a c = segN s a b ++ segN s b c := by
  unfold segN
  rw [← List.map_append]
  congr 1
  have := List.take_append_drop (b - a) ((s.data.toList.drop a).take (c - a))
  rw [List.take_take, Nat.min_eq_left (by omega), List.drop_take, List.drop_drop, show a + (b - a) = b by omega, show c - a - (b - a) = c - b by omega] at this
  exact this.symm
def bysOf (l : List Int) : List Int := l.flatMap fun n => varL n.toNat
theorem bysOf_append : bysOf (l ++ m) = bysOf l ++ bysOf m := by simp [bysOf]

/-- All that was read, well. -/
def Rd (s : ByteArray) (p q : Nat × Bool) (l : List Int) : Prop := p.2 = false ∧ q.2 = false ∧ p.1 ≤ q.1 ∧ q.1 ≤ s.size ∧ segN s p.1 q.1 = bysOf l ∧ ∀ x ∈ l, 0 ≤ x ∧ x ≤ 1000000000
theorem Rd.nil (h : p.2 = false) (hp : p.1 ≤ s.size) : Rd s p p [] := ⟨h, h, Nat.le_refl _, hp, segN_nil, fun x hx => absurd hx List.not_mem_nil⟩
theorem Rd.trans (a : Rd s p q l) (b : Rd s q r m) : Rd s p r (l ++ m) := by
  obtain ⟨a1, a2, a3, a4, a5, a6⟩ := a
  obtain ⟨b1, b2, b3, b4, b5, b6⟩ := b
  refine ⟨a1, b2, by omega, b4, ?_, fun x hx => (List.mem_append.1 hx).elim (a6 x) (b6 x)⟩
  rw [segN_append a3 b3, a5, b5, bysOf_append]
theorem num_bad (h : p.2 = true) : (numStep s p).2.2 = true := by unfold numStep; rw [h]
theorem num_rd (h : (numStep s p).2.2 = false) : Rd s p (numStep s p).2 [(numStep s p).1] := by
  have hp : p.2 = false := by
    cases hb : p.2 with
    | false => rfl
    | true => rw [num_bad hb] at h; cases h
  have h' := h
  unfold numStep at h' ⊢
  rw [hp] at h' ⊢
  simp only at h' ⊢
  cases hr : rvAt s (p.1 : Int) with
  | none => rw [hr] at h'; simp at h'
  | some k =>
    obtain ⟨n, k⟩ := k
    have hb := rvAt_bnd hr
    have hs := rvAt_seg hr
    refine ⟨hp, rfl, by simp only; omega, hb.2.2, ?_, fun x hx => ?_⟩
    · rw [hs.1]
      simp [bysOf]
    · rw [List.mem_singleton.1 hx]
      simp only
      omega
theorem rdN_bad {step : Nat × Bool → α × (Nat × Bool)} {n : Nat} (h : p.2 = true) : (rdN step n p).2.2 = true := by
  cases n with
  | zero => exact h
  | succ n => rw [rdN, if_pos h]; exact h
theorem rdN_rd {step : Nat × Bool → α × (Nat × Bool)} {f : α → List Int} (hs : ∀ p, (step p).2.2 = false → Rd s p (step p).2 (f (step p).1)) : ∀ {n : Nat} {p : Nat × Bool}, p.1 ≤ s.size → (rdN step n p).2.2 = false → Rd s p (rdN step n p).2 ((rdN step n p).1.flatMap f) ∧ (rdN step n p).1.length = n
  | 0, p, hp, h => ⟨Rd.nil h hp, rfl⟩
  | n + 1, p, hp, h => by
    have hf : p.2 = false := by
      cases hb : p.2 with
      | false => rfl
      | true => rw [rdN_bad hb] at h; cases h
    have e : rdN step (n + 1) p = ((step p).1 :: (rdN step n (step p).2).1, (rdN step n (step p).2).2) := by
      rw [rdN, if_neg (by rw [hf]; simp)]
    rw [e] at h ⊢
    simp only at h ⊢
    have h1 : (step p).2.2 = false := by
      cases hb : (step p).2.2 with
      | false => rfl
      | true => rw [rdN_bad hb] at h; cases h
    have r1 := hs p h1
    obtain ⟨r2, r3⟩ := rdN_rd hs (n := n) r1.2.2.2.1 h
    exact ⟨by rw [List.flatMap_cons]; exact r1.trans r2, by rw [List.length_cons, r3]⟩

def eStep (s : ByteArray) (p : Nat × Bool) : E × (Nat × Bool) := (⟨sV s p 0, sV s p 1, sV s p 2, sV s p 3, sV s p 4⟩, sS s p 5)
def cStep (s : ByteArray) (p : Nat × Bool) : Cp × (Nat × Bool) := (⟨sV s p 0, sV s p 1⟩, sS s p 2)
def gStep (cap : Int → Nat) (s : ByteArray) (p : Nat × Bool) : Gp × (Nat × Bool) :=
  (⟨(rdN (numStep s) (cap (numStep s p).1) (numStep s p).2).1, (numStep s (rdN (numStep s) (cap (numStep s p).1) (numStep s p).2).2).1⟩, (numStep s (rdN (numStep s) (cap (numStep s p).1) (numStep s p).2).2).2)

theorem bad_of_not {a b : Bool} (h : a = true → b = true) (hb : b = false) : a = false := by
  cases a with
  | false => rfl
  | true => rw [h rfl] at hb; cases hb
theorem sS_rd {p : Nat × Bool} (hp : p.1 ≤ s.size) : ∀ i, (sS s p i).2 = false → Rd s p (sS s p i) ((List.range i).map fun j => sV s p j)
  | 0, h => Rd.nil h hp
  | i + 1, h => by
    have hn : sS s p (i + 1) = (numStep s (sS s p i)).2 := rfl
    rw [hn] at h ⊢
    have r2 := num_rd h
    have r1 := sS_rd hp i (bad_of_not num_bad h)
    rw [List.range_succ, List.map_append]
    exact r1.trans r2
theorem sS_first (h : p.2 = true) : ∀ i, (sS s p i).2 = true
  | 0 => h
  | i + 1 => num_bad (sS_first h i)
theorem Rd.le (a : Rd s p q l) : p.1 ≤ s.size := by obtain ⟨_, _, h1, h2, _⟩ := a; omega
theorem sS_rd' {i : Nat} (h : (sS s p (i + 1)).2 = false) : Rd s p (sS s p (i + 1)) ((List.range (i + 1)).map fun j => sV s p j) := by
  have h1 : (sS s p 1).2 = false := by
    have : ∀ k, (sS s p (1 + k)).2 = false → (sS s p 1).2 = false := fun k => by
      induction k with
      | zero => exact id
      | succ k ih => exact fun h => ih (bad_of_not num_bad h)
    exact this i (by rw [Nat.add_comm]; exact h)
  exact sS_rd (num_rd h1).le (i + 1) h
theorem eStep_rd (h : (eStep s p).2.2 = false) : Rd s p (eStep s p).2 ((fun e : E => [e.a, e.b, e.w1, e.w2, e.w3]) (eStep s p).1) := sS_rd' h
theorem cStep_rd (h : (cStep s p).2.2 = false) : Rd s p (cStep s p).2 ((fun e : Cp => [e.a, e.b]) (cStep s p).1) := sS_rd' h
theorem gStep_parts {cap : Int → Nat} (h : (gStep cap s p).2.2 = false) : (rdN (numStep s) (cap (numStep s p).1) (numStep s p).2).2.2 = false ∧ (numStep s p).2.2 = false := by
  have h1 : (rdN (numStep s) (cap (numStep s p).1) (numStep s p).2).2.2 = false := bad_of_not num_bad h
  exact ⟨h1, bad_of_not rdN_bad h1⟩
theorem single_flat : l.flatMap (fun n => [n]) = l := by
  induction l with
  | nil => rfl
  | cons a l ih => rw [List.flatMap_cons, ih]; rfl
/-- A group is well read if no number of members is cut. -/
theorem gStep_rd {cap : Int → Nat} (h : (gStep cap s p).2.2 = false) (hc : ((gStep cap s p).1.ms.length : Int) = (numStep s p).1) : Rd s p (gStep cap s p).2 ((fun g : Gp => (g.ms.length : Int) :: (g.ms ++ [g.z])) (gStep cap s p).1) := by
  obtain ⟨h1, h2⟩ := gStep_parts h
  have r1 := num_rd h2
  have r2 := (rdN_rd (f := fun n => [n]) (fun p h => num_rd h) r1.2.2.2.1 h1).1
  rw [single_flat] at r2
  have r3 := num_rd h
  have := (r1.trans r2).trans r3
  simp only
  rw [hc]
  exact this
end

/-- What was read. -/
structure CR where
  size : Int
  es : List E
  m : List Cp
  ys : List Int
  gs : List Gp
  p : Nat × Bool

def rz (s : ByteArray) : Int × (Nat × Bool) := numStep s (0, false)
def rne (s : ByteArray) : Int × (Nat × Bool) := numStep s (rz s).2
def re (cap : Int → Nat) (s : ByteArray) : List E × (Nat × Bool) := rdN (eStep s) (cap (rne s).1) (rne s).2
def rnm (cap : Int → Nat) (s : ByteArray) : Int × (Nat × Bool) := numStep s (re cap s).2
def rm (cap : Int → Nat) (s : ByteArray) : List Cp × (Nat × Bool) := rdN (cStep s) (cap (rnm cap s).1) (rnm cap s).2
def ry (cap : Int → Nat) (s : ByteArray) : List Int × (Nat × Bool) := rdN (numStep s) (cap (rz s).1) (rm cap s).2
def rgn (cap : Int → Nat) (s : ByteArray) : Int × (Nat × Bool) := numStep s (ry cap s).2
def rg (cap : Int → Nat) (s : ByteArray) : List Gp × (Nat × Bool) := rdN (gStep cap s) (cap (rgn cap s).1) (rgn cap s).2
def CokI (s : ByteArray) : Prop := (rg Int.toNat s).2.2 = false ∧ (rg Int.toNat s).2.1 = s.size ∧ CertOk (rz s).1 (re Int.toNat s).1 (rm Int.toNat s).1 (ry Int.toNat s).1 (rg Int.toNat s).1
def cap100 (n : Int) : Nat := min n.toNat 100
def CokS (s : ByteArray) : Prop := (rg cap100 s).2.2 = false ∧ CertOk (rz s).1 (re cap100 s).1 (rm cap100 s).1 (ry cap100 s).1 (rg cap100 s).1 ∧ certT (rz s).1 (re cap100 s).1 (rm cap100 s).1 (ry cap100 s).1 (rg cap100 s).1 = s

theorem grok_len {size : Int} {g : Gp} (h : GrOk size g) (hs : size ≤ 9) : g.ms.length ≤ 9 := by
  have key : ∀ j, j < g.ms.length → (j : Int) ≤ g.ms.getD j 0 := by
    intro j
    induction j with
    | zero => intro hj; exact (h.2 0 hj).1.1
    | succ j ih =>
      intro hj
      have := ih (by omega)
      have := (h.2 (j + 1) hj).2 (by omega)
      simp only [Nat.add_sub_cancel] at this
      omega
  by_cases h9 : g.ms.length ≤ 9
  · exact h9
  · have := key 9 (by omega)
    have := (h.2 9 (by omega)).1.2
    omega

theorem min_lt {n : Int} {k : Nat} (h : cap100 n = k) (hk : k < 100) : cap100 n = n.toNat := by unfold cap100 at *; omega
section
variable {s : ByteArray}
theorem rg_up {cap : Int → Nat} (h : (rg cap s).2.2 = false) : (rgn cap s).2.2 = false ∧ (ry cap s).2.2 = false ∧ (rm cap s).2.2 = false ∧ (rnm cap s).2.2 = false ∧ (re cap s).2.2 = false ∧ (rne s).2.2 = false ∧ (rz s).2.2 = false := by
  have h1 : (rgn cap s).2.2 = false := bad_of_not rdN_bad h
  have h2 : (ry cap s).2.2 = false := bad_of_not num_bad h1
  have h3 : (rm cap s).2.2 = false := bad_of_not rdN_bad h2
  have h4 : (rnm cap s).2.2 = false := bad_of_not rdN_bad h3
  have h5 : (re cap s).2.2 = false := bad_of_not num_bad h4
  have h6 : (rne s).2.2 = false := bad_of_not rdN_bad h5
  exact ⟨h1, h2, h3, h4, h5, h6, bad_of_not num_bad h6⟩
/-- Groups: nothing is cut, or all the same. -/
theorem groups_same : ∀ {n : Nat} {p : Nat × Bool}, ((rdN (gStep Int.toNat s) n p).2.2 = false ∧ (∀ g ∈ (rdN (gStep Int.toNat s) n p).1, g.ms.length < 100)) ∨ ((rdN (gStep cap100 s) n p).2.2 = false ∧ (∀ g ∈ (rdN (gStep cap100 s) n p).1, g.ms.length < 100)) → rdN (gStep cap100 s) n p = rdN (gStep Int.toNat s) n p
  | 0, _, _ => rfl
  | n + 1, p, h => by
    by_cases hp : p.2 = true
    · rw [rdN, rdN, if_pos hp, if_pos hp]
    · have e : ∀ cap, rdN (gStep cap s) (n + 1) p = ((gStep cap s p).1 :: (rdN (gStep cap s) n (gStep cap s p).2).1, (rdN (gStep cap s) n (gStep cap s p).2).2) := fun cap => by rw [rdN, if_neg hp]
      rw [e, e] at *
      simp only at h
      have hg : gStep cap100 s p = gStep Int.toNat s p := by
        have key : cap100 (numStep s p).1 = (numStep s p).1.toNat := by
          rcases h with ⟨h1, h2⟩ | ⟨h1, h2⟩
          · have h3 := h2 _ List.mem_cons_self
            have h4 := gStep_parts (s := s) (bad_of_not rdN_bad h1)
            have h5 := (rdN_rd (f := fun n => [n]) (fun p h => num_rd h) (num_rd h4.2).2.2.2.1 h4.1).2
            unfold gStep at h3
            simp only at h3
            rw [h5] at h3
            unfold cap100
            omega
          · have h3 := h2 _ List.mem_cons_self
            have h4 := gStep_parts (s := s) (bad_of_not rdN_bad h1)
            have h5 := (rdN_rd (f := fun n => [n]) (fun p h => num_rd h) (num_rd h4.2).2.2.2.1 h4.1).2
            unfold gStep at h3
            simp only at h3
            rw [h5] at h3
            exact min_lt rfl h3
        unfold gStep
        rw [key]
      rw [hg] at h ⊢
      have ih := groups_same (n := n) (p := (gStep Int.toNat s p).2) (by
        rcases h with ⟨h1, h2⟩ | ⟨h1, h2⟩
        · exact .inl ⟨h1, fun g q => h2 g (List.mem_cons_of_mem _ q)⟩
        · exact .inr ⟨h1, fun g q => h2 g (List.mem_cons_of_mem _ q)⟩)
      rw [ih]

/-- The bounds of a right certificate. -/
theorem cert_lens {size : Int} {es : List E} {m : List Cp} {ys : List Int} {gs : List Gp} (g : CertOk size es m ys gs) : size ≤ 9 ∧ es.length < 100 ∧ m.length < 100 ∧ (ys.length : Int) = size ∧ gs.length < 100 ∧ ∀ x ∈ gs, x.ms.length < 100 := by
  have h1 := gok_len g.1.1.1
  have h2 := mok_len g.2.1
  have h3 := g.1.1.1.1
  refine ⟨h3.2, by omega, by omega, g.1.1.2.1, by have := g.1.1.2.2; omega, fun x hx => ?_⟩
  obtain ⟨i, hi, rfl⟩ := mem_getD (d := g0) hx
  have := grok_len (g.1.2.2.1 i hi).1 h3.2
  omega
/-- If one of both is a right certificate, both readings are the same. -/
theorem read_same (h : ∃ cap, (cap = Int.toNat ∨ cap = cap100) ∧ (rg cap s).2.2 = false ∧ CertOk (rz s).1 (re cap s).1 (rm cap s).1 (ry cap s).1 (rg cap s).1) :
    re cap100 s = re Int.toNat s ∧ rm cap100 s = rm Int.toNat s ∧ ry cap100 s = ry Int.toNat s ∧ rg cap100 s = rg Int.toNat s := by
  obtain ⟨cap, hcap, hb, hc⟩ := h
  obtain ⟨u1, u2, u3, u4, u5, u6, u7⟩ := rg_up hb
  obtain ⟨k1, k2, k3, k4, k5, k6⟩ := cert_lens hc
  have lz := num_rd (s := s) (p := (0, false)) u7
  have lne := num_rd u6
  have le := rdN_rd (f := fun e : E => [e.a, e.b, e.w1, e.w2, e.w3]) (fun p h => eStep_rd h) lne.2.2.2.1 u5
  have lnm := num_rd u4
  have lm := rdN_rd (f := fun e : Cp => [e.a, e.b]) (fun p h => cStep_rd h) lnm.2.2.2.1 u3
  have ly := rdN_rd (f := fun n => [n]) (fun p h => num_rd h) lm.1.2.2.2.1 u2
  have lng := num_rd u1
  have ce : ∀ n : Int, cap n < 100 → cap100 n = n.toNat := fun n hn => by
    rcases hcap with rfl | rfl
    · unfold cap100; omega
    · exact min_lt rfl hn
  have cz : ∀ n : Int, cap n < 100 → cap n = n.toNat := fun n hn => by
    rcases hcap with rfl | rfl
    · rfl
    · exact min_lt rfl hn
  have n1 : cap (rne s).1 < 100 := by rw [← le.2]; exact k2
  have e1 : re cap100 s = re Int.toNat s := by unfold re; rw [ce _ n1]
  have e1' : re cap s = re Int.toNat s := by unfold re; rw [cz _ n1]
  have n2 : cap (rnm cap s).1 < 100 := by rw [← lm.2]; exact k3
  have en : rnm cap100 s = rnm Int.toNat s := by unfold rnm; rw [e1]
  have en' : rnm cap s = rnm Int.toNat s := by unfold rnm; rw [e1']
  have e2 : rm cap100 s = rm Int.toNat s := by unfold rm; rw [en, ← en', ce _ n2]
  have e2' : rm cap s = rm Int.toNat s := by unfold rm; rw [cz _ n2, en']
  have n3 : cap (rz s).1 < 100 := by
    rw [← ly.2]
    have : ((ry cap s).1.length : Int) = (rz s).1 := k4
    show (ry cap s).1.length < 100
    omega
  have e3 : ry cap100 s = ry Int.toNat s := by unfold ry; rw [e2, ce _ n3]
  have e3' : ry cap s = ry Int.toNat s := by unfold ry; rw [e2', cz _ n3]
  have eg : rgn cap100 s = rgn Int.toNat s := by unfold rgn; rw [e3]
  have eg' : rgn cap s = rgn Int.toNat s := by unfold rgn; rw [e3']
  refine ⟨e1, e2, e3, ?_⟩
  -- the groups' number
  have hlen : (rg cap s).1.length = cap (rgn cap s).1 := by
    have : ∀ {n : Nat} {p : Nat × Bool}, (rdN (gStep cap s) n p).2.2 = false → (rdN (gStep cap s) n p).1.length = n := by
      intro n
      induction n with
      | zero => intro p _; rfl
      | succ n ih =>
        intro p h
        have hp : p.2 = false := bad_of_not rdN_bad h
        rw [rdN, if_neg (by rw [hp]; simp)] at h ⊢
        simp only [List.length_cons]
        rw [ih h]
    exact this hb
  have n4 : cap (rgn cap s).1 < 100 := by rw [← hlen]; exact k5
  unfold rg at hb k6 ⊢
  rw [eg, ← eg', ce _ n4]
  rw [cz _ n4] at hb k6
  rcases hcap with rfl | rfl
  · exact groups_same (.inl ⟨hb, k6⟩)
  · exact groups_same (.inr ⟨hb, k6⟩)

theorem gStep_all {p : Nat × Bool} (h : (gStep Int.toNat s p).2.2 = false) : Rd s p (gStep Int.toNat s p).2 ((fun g : Gp => (g.ms.length : Int) :: (g.ms ++ [g.z])) (gStep Int.toNat s p).1) := by
  refine gStep_rd h ?_
  obtain ⟨h1, h2⟩ := gStep_parts h
  have r := num_rd h2
  have h3 := (rdN_rd (f := fun n => [n]) (fun p h => num_rd h) r.2.2.2.1 h1).2
  have h4 := r.2.2.2.2.2 _ List.mem_cons_self
  unfold gStep
  simp only
  rw [h3]
  omega
/-- What was read well is what the certificate's numbers are. -/
theorem read_rd (hb : (rg Int.toNat s).2.2 = false) (hys : ((ry Int.toNat s).1.length : Int) = (rz s).1) : Rd s (0, false) (rg Int.toNat s).2 (certN (rz s).1 (re Int.toNat s).1 (rm Int.toNat s).1 (ry Int.toNat s).1 (rg Int.toNat s).1) := by
  obtain ⟨u1, u2, u3, u4, u5, u6, u7⟩ := rg_up hb
  have lz := num_rd (s := s) (p := (0, false)) u7
  have lne := num_rd u6
  have le := rdN_rd (f := fun e : E => [e.a, e.b, e.w1, e.w2, e.w3]) (fun p h => eStep_rd h) lne.2.2.2.1 u5
  have lnm := num_rd u4
  have lm := rdN_rd (f := fun e : Cp => [e.a, e.b]) (fun p h => cStep_rd h) lnm.2.2.2.1 u3
  have ly := rdN_rd (f := fun n => [n]) (fun p h => num_rd h) lm.1.2.2.2.1 u2
  have lng := num_rd u1
  have lg := rdN_rd (f := fun g : Gp => (g.ms.length : Int) :: (g.ms ++ [g.z])) (fun p h => gStep_all h) lng.2.2.2.1 hb
  rw [single_flat] at ly
  have q1 := lne.2.2.2.2.2 _ List.mem_cons_self
  have q2 := lnm.2.2.2.2.2 _ List.mem_cons_self
  have q3 := lng.2.2.2.2.2 _ List.mem_cons_self
  have f1 : ((re Int.toNat s).1.length : Int) = (rne s).1 := by
    have : (re Int.toNat s).1.length = (rne s).1.toNat := le.2
    have : 0 ≤ (rne s).1 := q1.1
    omega
  have f2 : ((rm Int.toNat s).1.length : Int) = (rnm Int.toNat s).1 := by
    have : (rm Int.toNat s).1.length = (rnm Int.toNat s).1.toNat := lm.2
    have : 0 ≤ (rnm Int.toNat s).1 := q2.1
    omega
  have f3 : ((rg Int.toNat s).1.length : Int) = (rgn Int.toNat s).1 := by
    have : (rg Int.toNat s).1.length = (rgn Int.toNat s).1.toNat := lg.2
    have : 0 ≤ (rgn Int.toNat s).1 := q3.1
    omega
  have all := lz.trans (lne.trans (le.1.trans (lnm.trans (lm.1.trans (ly.1.trans (lng.trans lg.1))))))
  unfold certN
  rw [f1, f2, f3]
  exact all
theorem catV_bys : ∀ {l : List Int}, (∀ x ∈ l, 0 ≤ x ∧ x ≤ 1000000000) → catV noT l = strOfNums (bysOf l) := by
  intro l h
  have key : ∀ (l : List Int) (a : List Int), (∀ x ∈ l, 0 ≤ x ∧ x ≤ 1000000000) → catV (strOfNums a) l = strOfNums (a ++ bysOf l) := by
    intro l
    induction l with
    | nil => intro a _; simp [catV, bysOf]
    | cons n l ih =>
      intro a h
      have h1 := h n List.mem_cons_self
      have e : catV (strOfNums a) (n :: l) = catV (strOfNums a ++ vt n) l := rfl
      have e2 : strOfNums a ++ vt n = strOfNums (a ++ varL n.toNat) := by
        unfold vt
        rw [if_pos h1]
        unfold varT
        apply ByteArray.ext
        apply Array.toList_inj.1
        rw [ByteArray.data_append, Array.toList_append, strOfNums_data, strOfNums_data, strOfNums_data, List.map_append]
      rw [e, e2, ih _ fun x hx => h x (List.mem_cons_of_mem _ hx)]
      simp [bysOf]
  have := key l [] h
  exact this
theorem seg_all : strOfNums (segN s 0 s.size) = s := by
  rw [← extract_seg]
  simp
theorem bysOf_len {l : List Int} : (bysOf l).length = (l.map fun x => (varL x.toNat).length).sum := by
  unfold bysOf
  induction l with
  | nil => rfl
  | cons a l ih => rw [List.flatMap_cons, List.length_append, ih, List.map_cons, List.sum_cons]

theorem cok_same : CokI s ↔ CokS s := by
  constructor
  · rintro ⟨h1, h2, h3⟩
    obtain ⟨e1, e2, e3, e4⟩ := read_same ⟨Int.toNat, .inl rfl, h1, h3⟩
    have hr := read_rd h1 (cert_lens h3).2.2.2.1
    refine ⟨by rw [e4]; exact h1, by rw [e1, e2, e3, e4]; exact h3, ?_⟩
    rw [e1, e2, e3, e4]
    unfold certT
    rw [catV_bys hr.2.2.2.2.2, ← hr.2.2.2.2.1, h2]
    exact seg_all
  · rintro ⟨h1, h2, h3⟩
    obtain ⟨e1, e2, e3, e4⟩ := read_same ⟨cap100, .inr rfl, h1, h2⟩
    rw [e4] at h1
    rw [e1, e2, e3, e4] at h2 h3
    have hr := read_rd h1 (cert_lens h2).2.2.2.1
    refine ⟨h1, ?_, h2⟩
    have hx := catV_exact (s := noT) hr.2.2.2.2.2
    unfold certT at h3
    rw [h3, ← bysOf_len, ← hr.2.2.2.2.1, segN_len hr.2.2.2.1] at hx
    have : noT.size = 0 := rfl
    simp only at hx
    omega

theorem varL_pos (n : Nat) : 1 ≤ (varL n).length := by unfold varL; split <;> simp
theorem Rd.adv {p q : Nat × Bool} {l : List Int} (a : Rd s p q l) : p.1 + l.length ≤ q.1 ∧ q.1 ≤ s.size := by
  obtain ⟨a1, a2, a3, a4, a5, a6⟩ := a
  have h1 := segN_len (a := p.1) a4
  rw [a5] at h1
  have h2 : l.length ≤ (bysOf l).length := by
    unfold bysOf
    clear a5 a6 h1
    induction l with
    | nil => exact Nat.le_refl _
    | cons n l ih => rw [List.flatMap_cons, List.length_append, List.length_cons]; have := varL_pos n.toNat; omega
  omega
theorem flat_len {α : Type} {f : α → List Int} (hf : ∀ x, 1 ≤ (f x).length) : ∀ {l : List α}, l.length ≤ (l.flatMap f).length ∧ ∀ x ∈ l, (f x).length ≤ (l.flatMap f).length
  | [] => ⟨Nat.le_refl _, fun x h => absurd h List.not_mem_nil⟩
  | a :: l => by
    obtain ⟨h1, h2⟩ := flat_len hf (l := l)
    have := hf a
    rw [List.flatMap_cons, List.length_append, List.length_cons]
    refine ⟨by omega, fun x hx => ?_⟩
    cases List.mem_cons.1 hx with
    | inl q => subst q; omega
    | inr q => have := h2 x q; omega
theorem read_bnd (hb : (rg Int.toNat s).2.2 = false) : (rm Int.toNat s).1.length ≤ s.size ∧ (ry Int.toNat s).1.length ≤ s.size ∧ (rg Int.toNat s).1.length ≤ s.size ∧ ∀ g ∈ (rg Int.toNat s).1, g.ms.length ≤ s.size := by
  obtain ⟨u1, u2, u3, u4, u5, u6, u7⟩ := rg_up hb
  have lnm := num_rd u4
  have lm := rdN_rd (f := fun e : Cp => [e.a, e.b]) (fun p h => cStep_rd h) lnm.2.2.2.1 u3
  have ly := rdN_rd (f := fun n => [n]) (fun p h => num_rd h) lm.1.2.2.2.1 u2
  have lng := num_rd u1
  have lg := rdN_rd (f := fun g : Gp => (g.ms.length : Int) :: (g.ms ++ [g.z])) (fun p h => gStep_all h) lng.2.2.2.1 hb
  have a1 := lm.1.adv
  have a2 := ly.1.adv
  have a3 := lg.1.adv
  have f1 := flat_len (f := fun e : Cp => [e.a, e.b]) (fun x => by simp) (l := (rm Int.toNat s).1)
  have f2 := flat_len (f := fun n : Int => [n]) (fun x => by simp) (l := (ry Int.toNat s).1)
  have f3 := flat_len (f := fun g : Gp => (g.ms.length : Int) :: (g.ms ++ [g.z])) (fun x => by simp) (l := (rg Int.toNat s).1)
  have e1 : ((rm Int.toNat s).1.flatMap fun e : Cp => [e.a, e.b]).length ≤ s.size := by
    have : (rnm Int.toNat s).2.1 + ((rm Int.toNat s).1.flatMap fun e : Cp => [e.a, e.b]).length ≤ (rm Int.toNat s).2.1 := a1.1
    have : (rm Int.toNat s).2.1 ≤ s.size := a1.2
    omega
  have e2 : ((ry Int.toNat s).1.flatMap fun n : Int => [n]).length ≤ s.size := by
    have : (rm Int.toNat s).2.1 + ((ry Int.toNat s).1.flatMap fun n : Int => [n]).length ≤ (ry Int.toNat s).2.1 := a2.1
    have : (ry Int.toNat s).2.1 ≤ s.size := a2.2
    omega
  have e3 : ((rg Int.toNat s).1.flatMap fun g : Gp => (g.ms.length : Int) :: (g.ms ++ [g.z])).length ≤ s.size := by
    have : (rgn Int.toNat s).2.1 + ((rg Int.toNat s).1.flatMap fun g : Gp => (g.ms.length : Int) :: (g.ms ++ [g.z])).length ≤ (rg Int.toNat s).2.1 := a3.1
    have : (rg Int.toNat s).2.1 ≤ s.size := a3.2
    omega
  refine ⟨by omega, by omega, by omega, fun g hg => ?_⟩
  have := f3.2 g hg
  simp only [List.length_cons, List.length_append, List.length_nil] at this
  omega
end
/-- What is told of it. -/
structure CT where
  size : Int
  es : List E
  m : List Cp
  ys : List Int
  gs : List Gp
  ok : Bool
open Classical in
noncomputable def rdI (s : ByteArray) : CT := if CokI s then ⟨(rz s).1, (re Int.toNat s).1, (rm Int.toNat s).1, (ry Int.toNat s).1, (rg Int.toNat s).1, true⟩ else ⟨0, [], [], [], [], false⟩
open Classical in
noncomputable def rdS (s : ByteArray) : CT := if CokS s then ⟨(rz s).1, (re cap100 s).1, (rm cap100 s).1, (ry cap100 s).1, (rg cap100 s).1, true⟩ else ⟨0, [], [], [], [], false⟩
theorem rd_same (s : ByteArray) : rdS s = rdI s := by
  unfold rdS rdI
  by_cases h : CokI s
  · rw [if_pos (cok_same.1 h), if_pos h]
    obtain ⟨e1, e2, e3, e4⟩ := read_same ⟨Int.toNat, .inl rfl, h.1, h.2.2⟩
    rw [e1, e2, e3, e4]
  · rw [if_neg (fun k => h (cok_same.2 k)), if_neg h]
end Go.Proofs.Ytioogligololoaa.Ab
