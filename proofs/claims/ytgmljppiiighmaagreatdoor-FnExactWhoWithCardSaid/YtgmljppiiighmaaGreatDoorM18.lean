/- Joined: P6, R10, K33, K53, K54. No conditions. -/
import Derived.Test.YtgmljppiiighmaaGreatDoorM16
import Derived.Test.YtgmljppiiighmaaGreatDoorM17
import Derived.Test.YtgmljppiiighmaaGreatDoorM15
set_option linter.unusedSimpArgs false
set_option linter.unusedVariables false
set_option linter.unnecessarySimpa false
set_option maxHeartbeats 4000000
namespace Go.Proofs.YtgmljppiiighmaaGreatDoor.Ab
open Go.RowKit
section
variable {α : Type} {s : ByteArray} {p q r : Nat × Bool} {l m : List Int}
/-- So many are read, as long as all is well. -/
def rdN (step : Nat × Bool → α × (Nat × Bool)) : Nat → Nat × Bool → List α × (Nat × Bool)
  | 0, p => ([], p)
  | n + 1, p => if p.2 = true then ([], p) else ((step p).1 :: (rdN step n (step p).2).1, (rdN step n (step p).2).2)
/-- On the way. -/
def RdTo (step : Nat × Bool → α × (Nat × Bool)) (n : Nat) (p0 : Nat × Bool) (L : List α) (k : Nat) (p : Nat × Bool) : Prop := rdN step n p0 = (L ++ (rdN step k p).1, (rdN step k p).2)
theorem RdTo.start {step : Nat × Bool → α × (Nat × Bool)} {n : Nat} : RdTo step n p [] n p := by unfold RdTo; simp
theorem RdTo.next {step : Nat × Bool → α × (Nat × Bool)} {n k : Nat} {p0 : Nat × Bool} {L : List α} (h : RdTo step n p0 L (k + 1) p) (hp : p.2 = false) : RdTo step n p0 (L ++ [(step p).1]) k (step p).2 := by
  unfold RdTo at *
  rw [h]
  have e : rdN step (k + 1) p = ((step p).1 :: (rdN step k (step p).2).1, (rdN step k (step p).2).2) := by
    rw [rdN, if_neg (by rw [hp]; simp)]
  rw [e]
  simp
theorem RdTo.done {step : Nat × Bool → α × (Nat × Bool)} {n k : Nat} {p0 : Nat × Bool} {L : List α} (h : RdTo step n p0 L k p) (hp : k = 0 ∨ p.2 = true) : rdN step n p0 = (L, p) := by
  unfold RdTo at h
  rw [h]
  rcases hp with rfl | hp
  · simp [rdN]
  · cases k with
    | zero => simp [rdN]
    | succ k => rw [rdN, if_pos hp]; simp
theorem rdN_len {step : Nat × Bool → α × (Nat × Bool)} : ∀ {n : Nat} {p : Nat × Bool}, (rdN step n p).1.length ≤ n
  | 0, _ => Nat.le_refl 0
  | n + 1, p => by
    rw [rdN]
    split
    · exact Nat.zero_le _
    · have := rdN_len (step := step) (n := n) (p := (step p).2)
      simp only [List.length_cons]
      omega
theorem RdTo.len {step : Nat × Bool → α × (Nat × Bool)} {n k : Nat} {p0 : Nat × Bool} {L : List α} (h : RdTo step n p0 L k p) : L.length ≤ n := by
  have h1 := rdN_len (step := step) (n := n) (p := p0)
  unfold RdTo at h
  rw [h] at h1
  simp only [List.length_append] at h1
  omega
theorem segN_append {a b c : Nat} (h1 : a ≤ b) (h2 : b ≤ c) : segN s a c = segN s a b ++ segN s b c := by
  unfold segN
  rw [← List.map_append]
  congr 1
  have := List.take_append_drop (b - a) ((s.data.toList.drop a).take (c - a))
  rw [List.take_take, Nat.min_eq_left (by omega), List.drop_take, List.drop_drop, show a + (b - a) = b by omega, show c - a - (b - a) = c - b by omega] at this
  exact this.symm
def bysOf (l : List Int) : List Int := l.flatMap fun n => varL n.toNat
theorem bysOf_append : bysOf (l ++ m) = bysOf l ++ bysOf m := by simp [bysOf]
/-- All that was read, well. -/
def Rd (s : ByteArray) (p q : Nat × Bool) (l : List Int) : Prop := p.2 = false ∧ q.2 = false ∧ p.1 ≤ q.1 ∧ q.1 ≤ s.size ∧ segN s p.1 q.1 = bysOf l ∧ ∀ x ∈ l, 0 ≤ x ∧ x ≤ 1000000000
theorem Rd.nil (h : p.2 = false) (hp : p.1 ≤ s.size) : Rd s p p [] := ⟨h, h, Nat.le_refl _, hp, segN_nil, fun x hx => absurd hx List.not_mem_nil⟩
theorem Rd.trans (a : Rd s p q l) (b : Rd s q r m) : Rd s p r (l ++ m) := by
  obtain ⟨a1, a2, a3, a4, a5, a6⟩ := a
  obtain ⟨b1, b2, b3, b4, b5, b6⟩ := b
  refine ⟨a1, b2, by omega, b4, ?_, fun x hx => (List.mem_append.1 hx).elim (a6 x) (b6 x)⟩
  rw [segN_append a3 b3, a5, b5, bysOf_append]
theorem num_bad (h : p.2 = true) : (numStep s p).2.2 = true := by unfold numStep; rw [h]
theorem num_rd (h : (numStep s p).2.2 = false) : Rd s p (numStep s p).2 [(numStep s p).1] := by
  have hp : p.2 = false := by
    cases hb : p.2 with
    | false => rfl
    | true => rw [num_bad hb] at h; cases h
  have h' := h
  unfold numStep at h' ⊢
  rw [hp] at h' ⊢
  simp only at h' ⊢
  cases hr : rvAt s (p.1 : Int) with
  | none => rw [hr] at h'; simp at h'
  | some k =>
    obtain ⟨n, k⟩ := k
    have hb := rvAt_bnd hr
    have hs := rvAt_seg hr
    refine ⟨hp, rfl, by simp only; omega, hb.2.2, ?_, fun x hx => ?_⟩
    · rw [hs.1]
      simp [bysOf]
    · rw [List.mem_singleton.1 hx]
      simp only
      omega
theorem rdN_bad {step : Nat × Bool → α × (Nat × Bool)} {n : Nat} (h : p.2 = true) : (rdN step n p).2.2 = true := by
  cases n with
  | zero => exact h
  | succ n => rw [rdN, if_pos h]; exact h
theorem rdN_rd {step : Nat × Bool → α × (Nat × Bool)} {f : α → List Int} (hs : ∀ p, (step p).2.2 = false → Rd s p (step p).2 (f (step p).1)) : ∀ {n : Nat} {p : Nat × Bool}, p.1 ≤ s.size → (rdN step n p).2.2 = false → Rd s p (rdN step n p).2 ((rdN step n p).1.flatMap f) ∧ (rdN step n p).1.length = n
  | 0, p, hp, h => ⟨Rd.nil h hp, rfl⟩
  | n + 1, p, hp, h => by
    have hf : p.2 = false := by
      cases hb : p.2 with
      | false => rfl
      | true => rw [rdN_bad hb] at h; cases h
    have e : rdN step (n + 1) p = ((step p).1 :: (rdN step n (step p).2).1, (rdN step n (step p).2).2) := by
      rw [rdN, if_neg (by rw [hf]; simp)]
    rw [e] at h ⊢
    simp only at h ⊢
    have h1 : (step p).2.2 = false := by
      cases hb : (step p).2.2 with
      | false => rfl
      | true => rw [rdN_bad hb] at h; cases h
    have r1 := hs p h1
    obtain ⟨r2, r3⟩ := rdN_rd hs (n := n) r1.2.2.2.1 h
    exact ⟨by rw [List.flatMap_cons]; exact r1.trans r2, by rw [List.length_cons, r3]⟩
def eStep (s : ByteArray) (p : Nat × Bool) : E × (Nat × Bool) := (⟨sV s p 0, sV s p 1, sV s p 2, sV s p 3, sV s p 4⟩, sS s p 5)
def cStep (s : ByteArray) (p : Nat × Bool) : Cp × (Nat × Bool) := (⟨sV s p 0, sV s p 1⟩, sS s p 2)
def gStep (cap : Int → Nat) (s : ByteArray) (p : Nat × Bool) : Gp × (Nat × Bool) :=
  (⟨(rdN (numStep s) (cap (numStep s p).1) (numStep s p).2).1, (numStep s (rdN (numStep s) (cap (numStep s p).1) (numStep s p).2).2).1⟩, (numStep s (rdN (numStep s) (cap (numStep s p).1) (numStep s p).2).2).2)
theorem bad_of_not {a b : Bool} (h : a = true → b = true) (hb : b = false) : a = false := by
  cases a with
  | false => rfl
  | true => rw [h rfl] at hb; cases hb
theorem sS_rd {p : Nat × Bool} (hp : p.1 ≤ s.size) : ∀ i, (sS s p i).2 = false → Rd s p (sS s p i) ((List.range i).map fun j => sV s p j)
  | 0, h => Rd.nil h hp
  | i + 1, h => by
    have hn : sS s p (i + 1) = (numStep s (sS s p i)).2 := rfl
    rw [hn] at h ⊢
    have r2 := num_rd h
    have r1 := sS_rd hp i (bad_of_not num_bad h)
    rw [List.range_succ, List.map_append]
    exact r1.trans r2
theorem Rd.le (a : Rd s p q l) : p.1 ≤ s.size := by obtain ⟨_, _, h1, h2, _⟩ := a; omega
theorem sS_rd' {i : Nat} (h : (sS s p (i + 1)).2 = false) : Rd s p (sS s p (i + 1)) ((List.range (i + 1)).map fun j => sV s p j) := by
  have h1 : (sS s p 1).2 = false := by
    have : ∀ k, (sS s p (1 + k)).2 = false → (sS s p 1).2 = false := fun k => by
      induction k with
      | zero => exact id
      | succ k ih => exact fun h => ih (bad_of_not num_bad h)
    exact this i (by rw [Nat.add_comm]; exact h)
  exact sS_rd (num_rd h1).le (i + 1) h
theorem eStep_rd (h : (eStep s p).2.2 = false) : Rd s p (eStep s p).2 ((fun e : E => [e.a, e.b, e.w1, e.w2, e.w3]) (eStep s p).1) := sS_rd' h
theorem cStep_rd (h : (cStep s p).2.2 = false) : Rd s p (cStep s p).2 ((fun e : Cp => [e.a, e.b]) (cStep s p).1) := sS_rd' h
theorem gStep_parts {cap : Int → Nat} (h : (gStep cap s p).2.2 = false) : (rdN (numStep s) (cap (numStep s p).1) (numStep s p).2).2.2 = false ∧ (numStep s p).2.2 = false := by
  have h1 : (rdN (numStep s) (cap (numStep s p).1) (numStep s p).2).2.2 = false := bad_of_not num_bad h
  exact ⟨h1, bad_of_not rdN_bad h1⟩
theorem single_flat : l.flatMap (fun n => [n]) = l := by
  induction l with
  | nil => rfl
  | cons a l ih => rw [List.flatMap_cons, ih]; rfl
/-- A group is well read if no number of members is cut. -/
theorem gStep_rd {cap : Int → Nat} (h : (gStep cap s p).2.2 = false) (hc : ((gStep cap s p).1.ms.length : Int) = (numStep s p).1) : Rd s p (gStep cap s p).2 ((fun g : Gp => (g.ms.length : Int) :: (g.ms ++ [g.z])) (gStep cap s p).1) := by
  obtain ⟨h1, h2⟩ := gStep_parts h
  have r1 := num_rd h2
  have r2 := (rdN_rd (f := fun n => [n]) (fun p h => num_rd h) r1.2.2.2.1 h1).1
  rw [single_flat] at r2
  have r3 := num_rd h
  have := (r1.trans r2).trans r3
  simp only
  rw [hc]
  exact this
end
def rz (s : ByteArray) : Int × (Nat × Bool) := numStep s (0, false)
def rne (s : ByteArray) : Int × (Nat × Bool) := numStep s (rz s).2
def re (cap : Int → Nat) (s : ByteArray) : List E × (Nat × Bool) := rdN (eStep s) (cap (rne s).1) (rne s).2
def rnm (cap : Int → Nat) (s : ByteArray) : Int × (Nat × Bool) := numStep s (re cap s).2
def rm (cap : Int → Nat) (s : ByteArray) : List Cp × (Nat × Bool) := rdN (cStep s) (cap (rnm cap s).1) (rnm cap s).2
def ry (cap : Int → Nat) (s : ByteArray) : List Int × (Nat × Bool) := rdN (numStep s) (cap (rz s).1) (rm cap s).2
def rgn (cap : Int → Nat) (s : ByteArray) : Int × (Nat × Bool) := numStep s (ry cap s).2
def rg (cap : Int → Nat) (s : ByteArray) : List Gp × (Nat × Bool) := rdN (gStep cap s) (cap (rgn cap s).1) (rgn cap s).2
def CokI (s : ByteArray) : Prop := (rg Int.toNat s).2.2 = false ∧ (rg Int.toNat s).2.1 = s.size ∧ CertOk (rz s).1 (re Int.toNat s).1 (rm Int.toNat s).1 (ry Int.toNat s).1 (rg Int.toNat s).1
def cap100 (n : Int) : Nat := min n.toNat 100
def CokS (s : ByteArray) : Prop := (rg cap100 s).2.2 = false ∧ CertOk (rz s).1 (re cap100 s).1 (rm cap100 s).1 (ry cap100 s).1 (rg cap100 s).1 ∧ certT (rz s).1 (re cap100 s).1 (rm cap100 s).1 (ry cap100 s).1 (rg cap100 s).1 = s
theorem grok_len {size : Int} {g : Gp} (h : GrOk size g) (hs : size ≤ 9) : g.ms.length ≤ 9 := by
  have key : ∀ j, j < g.ms.length → (j : Int) ≤ g.ms.getD j 0 := by
    intro j
    induction j with
    | zero => intro hj; exact (h.2 0 hj).1.1
    | succ j ih =>
      intro hj
      have := ih (by omega)
      have := (h.2 (j + 1) hj).2 (by omega)
      simp only [Nat.add_sub_cancel] at this
      omega
  by_cases h9 : g.ms.length ≤ 9
  · exact h9
  · have := key 9 (by omega)
    have := (h.2 9 (by omega)).1.2
    omega
theorem min_lt {n : Int} {k : Nat} (h : cap100 n = k) (hk : k < 100) : cap100 n = n.toNat := by unfold cap100 at *; omega
section
variable {s : ByteArray}
theorem rg_up {cap : Int → Nat} (h : (rg cap s).2.2 = false) : (rgn cap s).2.2 = false ∧ (ry cap s).2.2 = false ∧ (rm cap s).2.2 = false ∧ (rnm cap s).2.2 = false ∧ (re cap s).2.2 = false ∧ (rne s).2.2 = false ∧ (rz s).2.2 = false := by
  have h1 : (rgn cap s).2.2 = false := bad_of_not rdN_bad h
  have h2 : (ry cap s).2.2 = false := bad_of_not num_bad h1
  have h3 : (rm cap s).2.2 = false := bad_of_not rdN_bad h2
  have h4 : (rnm cap s).2.2 = false := bad_of_not rdN_bad h3
  have h5 : (re cap s).2.2 = false := bad_of_not num_bad h4
  have h6 : (rne s).2.2 = false := bad_of_not rdN_bad h5
  exact ⟨h1, h2, h3, h4, h5, h6, bad_of_not num_bad h6⟩
/-- Groups: nothing is cut, or all the same. -/
theorem groups_same : ∀ {n : Nat} {p : Nat × Bool}, ((rdN (gStep Int.toNat s) n p).2.2 = false ∧ (∀ g ∈ (rdN (gStep Int.toNat s) n p).1, g.ms.length < 100)) ∨ ((rdN (gStep cap100 s) n p).2.2 = false ∧ (∀ g ∈ (rdN (gStep cap100 s) n p).1, g.ms.length < 100)) → rdN (gStep cap100 s) n p = rdN (gStep Int.toNat s) n p
  | 0, _, _ => rfl
  | n + 1, p, h => by
    by_cases hp : p.2 = true
    · rw [rdN, rdN, if_pos hp, if_pos hp]
    · have e : ∀ cap, rdN (gStep cap s) (n + 1) p = ((gStep cap s p).1 :: (rdN (gStep cap s) n (gStep cap s p).2).1, (rdN (gStep cap s) n (gStep cap s p).2).2) := fun cap => by rw [rdN, if_neg hp]
      rw [e, e] at *
      simp only at h
      have hg : gStep cap100 s p = gStep Int.toNat s p := by
        have key : cap100 (numStep s p).1 = (numStep s p).1.toNat := by
          rcases h with ⟨h1, h2⟩ | ⟨h1, h2⟩
          · have h3 := h2 _ List.mem_cons_self
            have h4 := gStep_parts (s := s) (bad_of_not rdN_bad h1)
            have h5 := (rdN_rd (f := fun n => [n]) (fun p h => num_rd h) (num_rd h4.2).2.2.2.1 h4.1).2
            unfold gStep at h3
            simp only at h3
            rw [h5] at h3
            unfold cap100
            omega
          · have h3 := h2 _ List.mem_cons_self
            have h4 := gStep_parts (s := s) (bad_of_not rdN_bad h1)
            have h5 := (rdN_rd (f := fun n => [n]) (fun p h => num_rd h) (num_rd h4.2).2.2.2.1 h4.1).2
            unfold gStep at h3
            simp only at h3
            rw [h5] at h3
            exact min_lt rfl h3
        unfold gStep
        rw [key]
      rw [hg] at h ⊢
      have ih := groups_same (n := n) (p := (gStep Int.toNat s p).2) (by
        rcases h with ⟨h1, h2⟩ | ⟨h1, h2⟩
        · exact .inl ⟨h1, fun g q => h2 g (List.mem_cons_of_mem _ q)⟩
        · exact .inr ⟨h1, fun g q => h2 g (List.mem_cons_of_mem _ q)⟩)
      rw [ih]
/-- The bounds of a right certificate. -/
theorem cert_lens {size : Int} {es : List E} {m : List Cp} {ys : List Int} {gs : List Gp} (g : CertOk size es m ys gs) : size ≤ 9 ∧ es.length < 100 ∧ m.length < 100 ∧ (ys.length : Int) = size ∧ gs.length < 100 ∧ ∀ x ∈ gs, x.ms.length < 100 := by
  have h1 := gok_len g.1.1.1
  have h2 := mok_len g.2.1
  have h3 := g.1.1.1.1
  refine ⟨h3.2, by omega, by omega, g.1.1.2.1, by have := g.1.1.2.2; omega, fun x hx => ?_⟩
  obtain ⟨i, hi, rfl⟩ := mem_getD (d := g0) hx
  have := grok_len (g.1.2.2.1 i hi).1 h3.2
  omega
/-- If one of both is a right certificate, both readings are the same. -/
theorem read_same (h : ∃ cap, (cap = Int.toNat ∨ cap = cap100) ∧ (rg cap s).2.2 = false ∧ CertOk (rz s).1 (re cap s).1 (rm cap s).1 (ry cap s).1 (rg cap s).1) :
    re cap100 s = re Int.toNat s ∧ rm cap100 s = rm Int.toNat s ∧ ry cap100 s = ry Int.toNat s ∧ rg cap100 s = rg Int.toNat s := by
  obtain ⟨cap, hcap, hb, hc⟩ := h
  obtain ⟨u1, u2, u3, u4, u5, u6, u7⟩ := rg_up hb
  obtain ⟨k1, k2, k3, k4, k5, k6⟩ := cert_lens hc
  have lz := num_rd (s := s) (p := (0, false)) u7
  have lne := num_rd u6
  have le := rdN_rd (f := fun e : E => [e.a, e.b, e.w1, e.w2, e.w3]) (fun p h => eStep_rd h) lne.2.2.2.1 u5
  have lnm := num_rd u4
  have lm := rdN_rd (f := fun e : Cp => [e.a, e.b]) (fun p h => cStep_rd h) lnm.2.2.2.1 u3
  have ly := rdN_rd (f := fun n => [n]) (fun p h => num_rd h) lm.1.2.2.2.1 u2
  have lng := num_rd u1
  have ce : ∀ n : Int, cap n < 100 → cap100 n = n.toNat := fun n hn => by
    rcases hcap with rfl | rfl
    · unfold cap100; omega
    · exact min_lt rfl hn
  have cz : ∀ n : Int, cap n < 100 → cap n = n.toNat := fun n hn => by
    rcases hcap with rfl | rfl
    · rfl
    · exact min_lt rfl hn
  have n1 : cap (rne s).1 < 100 := by rw [← le.2]; exact k2
  have e1 : re cap100 s = re Int.toNat s := by unfold re; rw [ce _ n1]
  have e1' : re cap s = re Int.toNat s := by unfold re; rw [cz _ n1]
  have n2 : cap (rnm cap s).1 < 100 := by rw [← lm.2]; exact k3
  have en : rnm cap100 s = rnm Int.toNat s := by unfold rnm; rw [e1]
  have en' : rnm cap s = rnm Int.toNat s := by unfold rnm; rw [e1']
  have e2 : rm cap100 s = rm Int.toNat s := by unfold rm; rw [en, ← en', ce _ n2]
  have e2' : rm cap s = rm Int.toNat s := by unfold rm; rw [cz _ n2, en']
  have n3 : cap (rz s).1 < 100 := by
    rw [← ly.2]
    have : ((ry cap s).1.length : Int) = (rz s).1 := k4
    show (ry cap s).1.length < 100
    omega
  have e3 : ry cap100 s = ry Int.toNat s := by unfold ry; rw [e2, ce _ n3]
  have e3' : ry cap s = ry Int.toNat s := by unfold ry; rw [e2', cz _ n3]
  have eg : rgn cap100 s = rgn Int.toNat s := by unfold rgn; rw [e3]
  have eg' : rgn cap s = rgn Int.toNat s := by unfold rgn; rw [e3']
  refine ⟨e1, e2, e3, ?_⟩
  -- the groups' number
  have hlen : (rg cap s).1.length = cap (rgn cap s).1 := by
    have : ∀ {n : Nat} {p : Nat × Bool}, (rdN (gStep cap s) n p).2.2 = false → (rdN (gStep cap s) n p).1.length = n := by
      intro n
      induction n with
      | zero => intro p _; rfl
      | succ n ih =>
        intro p h
        have hp : p.2 = false := bad_of_not rdN_bad h
        rw [rdN, if_neg (by rw [hp]; simp)] at h ⊢
        simp only [List.length_cons]
        rw [ih h]
    exact this hb
  have n4 : cap (rgn cap s).1 < 100 := by rw [← hlen]; exact k5
  unfold rg at hb k6 ⊢
  rw [eg, ← eg', ce _ n4]
  rw [cz _ n4] at hb k6
  rcases hcap with rfl | rfl
  · exact groups_same (.inl ⟨hb, k6⟩)
  · exact groups_same (.inr ⟨hb, k6⟩)
theorem gStep_all {p : Nat × Bool} (h : (gStep Int.toNat s p).2.2 = false) : Rd s p (gStep Int.toNat s p).2 ((fun g : Gp => (g.ms.length : Int) :: (g.ms ++ [g.z])) (gStep Int.toNat s p).1) := by
  refine gStep_rd h ?_
  obtain ⟨h1, h2⟩ := gStep_parts h
  have r := num_rd h2
  have h3 := (rdN_rd (f := fun n => [n]) (fun p h => num_rd h) r.2.2.2.1 h1).2
  have h4 := r.2.2.2.2.2 _ List.mem_cons_self
  unfold gStep
  simp only
  rw [h3]
  omega
/-- What was read well is what the certificate's numbers are. -/
theorem read_rd (hb : (rg Int.toNat s).2.2 = false) (hys : ((ry Int.toNat s).1.length : Int) = (rz s).1) : Rd s (0, false) (rg Int.toNat s).2 (certN (rz s).1 (re Int.toNat s).1 (rm Int.toNat s).1 (ry Int.toNat s).1 (rg Int.toNat s).1) := by
  obtain ⟨u1, u2, u3, u4, u5, u6, u7⟩ := rg_up hb
  have lz := num_rd (s := s) (p := (0, false)) u7
  have lne := num_rd u6
  have le := rdN_rd (f := fun e : E => [e.a, e.b, e.w1, e.w2, e.w3]) (fun p h => eStep_rd h) lne.2.2.2.1 u5
  have lnm := num_rd u4
  have lm := rdN_rd (f := fun e : Cp => [e.a, e.b]) (fun p h => cStep_rd h) lnm.2.2.2.1 u3
  have ly := rdN_rd (f := fun n => [n]) (fun p h => num_rd h) lm.1.2.2.2.1 u2
  have lng := num_rd u1
  have lg := rdN_rd (f := fun g : Gp => (g.ms.length : Int) :: (g.ms ++ [g.z])) (fun p h => gStep_all h) lng.2.2.2.1 hb
  rw [single_flat] at ly
  have q1 := lne.2.2.2.2.2 _ List.mem_cons_self
  have q2 := lnm.2.2.2.2.2 _ List.mem_cons_self
  have q3 := lng.2.2.2.2.2 _ List.mem_cons_self
  have f1 : ((re Int.toNat s).1.length : Int) = (rne s).1 := by
    have : (re Int.toNat s).1.length = (rne s).1.toNat := le.2
    have : 0 ≤ (rne s).1 := q1.1
    omega
  have f2 : ((rm Int.toNat s).1.length : Int) = (rnm Int.toNat s).1 := by
    have : (rm Int.toNat s).1.length = (rnm Int.toNat s).1.toNat := lm.2
    have : 0 ≤ (rnm Int.toNat s).1 := q2.1
    omega
  have f3 : ((rg Int.toNat s).1.length : Int) = (rgn Int.toNat s).1 := by
    have : (rg Int.toNat s).1.length = (rgn Int.toNat s).1.toNat := lg.2
    have : 0 ≤ (rgn Int.toNat s).1 := q3.1
    omega
  have all := lz.trans (lne.trans (le.1.trans (lnm.trans (lm.1.trans (ly.1.trans (lng.trans lg.1))))))
  unfold certN
  rw [f1, f2, f3]
  exact all
theorem catV_bys : ∀ {l : List Int}, (∀ x ∈ l, 0 ≤ x ∧ x ≤ 1000000000) → catV noT l = strOfNums (bysOf l) := by
  intro l h
  have key : ∀ (l : List Int) (a : List Int), (∀ x ∈ l, 0 ≤ x ∧ x ≤ 1000000000) → catV (strOfNums a) l = strOfNums (a ++ bysOf l) := by
    intro l
    induction l with
    | nil => intro a _; simp [catV, bysOf]
    | cons n l ih =>
      intro a h
      have h1 := h n List.mem_cons_self
      have e : catV (strOfNums a) (n :: l) = catV (strOfNums a ++ vt n) l := rfl
      have e2 : strOfNums a ++ vt n = strOfNums (a ++ varL n.toNat) := by
        unfold vt
        rw [if_pos h1]
        unfold varT
        apply ByteArray.ext
        apply Array.toList_inj.1
        rw [ByteArray.data_append, Array.toList_append, strOfNums_data, strOfNums_data, strOfNums_data, List.map_append]
      rw [e, e2, ih _ fun x hx => h x (List.mem_cons_of_mem _ hx)]
      simp [bysOf]
  have := key l [] h
  exact this
theorem seg_all : strOfNums (segN s 0 s.size) = s := by
  rw [← extract_seg]
  simp
theorem bysOf_len {l : List Int} : (bysOf l).length = (l.map fun x => (varL x.toNat).length).sum := by
  unfold bysOf
  induction l with
  | nil => rfl
  | cons a l ih => rw [List.flatMap_cons, List.length_append, ih, List.map_cons, List.sum_cons]
theorem cok_same : CokI s ↔ CokS s := by
  constructor
  · rintro ⟨h1, h2, h3⟩
    obtain ⟨e1, e2, e3, e4⟩ := read_same ⟨Int.toNat, .inl rfl, h1, h3⟩
    have hr := read_rd h1 (cert_lens h3).2.2.2.1
    refine ⟨by rw [e4]; exact h1, by rw [e1, e2, e3, e4]; exact h3, ?_⟩
    rw [e1, e2, e3, e4]
    unfold certT
    rw [catV_bys hr.2.2.2.2.2, ← hr.2.2.2.2.1, h2]
    exact seg_all
  · rintro ⟨h1, h2, h3⟩
    obtain ⟨e1, e2, e3, e4⟩ := read_same ⟨cap100, .inr rfl, h1, h2⟩
    rw [e4] at h1
    rw [e1, e2, e3, e4] at h2 h3
    have hr := read_rd h1 (cert_lens h2).2.2.2.1
    refine ⟨h1, ?_, h2⟩
    have hx := catV_exact (s := noT) hr.2.2.2.2.2
    unfold certT at h3
    rw [h3, ← bysOf_len, ← hr.2.2.2.2.1, segN_len hr.2.2.2.1] at hx
    have : noT.size = 0 := rfl
    simp only at hx
    omega
theorem varL_pos (n : Nat) : 1 ≤ (varL n).length := by unfold varL; split <;> simp
theorem Rd.adv {p q : Nat × Bool} {l : List Int} (a : Rd s p q l) : p.1 + l.length ≤ q.1 ∧ q.1 ≤ s.size := by
  obtain ⟨a1, a2, a3, a4, a5, a6⟩ := a
  have h1 := segN_len (a := p.1) a4
  rw [a5] at h1
  have h2 : l.length ≤ (bysOf l).length := by
    unfold bysOf
    clear a5 a6 h1
    induction l with
    | nil => exact Nat.le_refl _
    | cons n l ih => rw [List.flatMap_cons, List.length_append, List.length_cons]; have := varL_pos n.toNat; omega
  omega
theorem flat_len {α : Type} {f : α → List Int} (hf : ∀ x, 1 ≤ (f x).length) : ∀ {l : List α}, l.length ≤ (l.flatMap f).length ∧ ∀ x ∈ l, (f x).length ≤ (l.flatMap f).length
  | [] => ⟨Nat.le_refl _, fun x h => absurd h List.not_mem_nil⟩
  | a :: l => by
    obtain ⟨h1, h2⟩ := flat_len hf (l := l)
    have := hf a
    rw [List.flatMap_cons, List.length_append, List.length_cons]
    refine ⟨by omega, fun x hx => ?_⟩
    cases List.mem_cons.1 hx with
    | inl q => subst q; omega
    | inr q => have := h2 x q; omega
theorem read_bnd (hb : (rg Int.toNat s).2.2 = false) : (rm Int.toNat s).1.length ≤ s.size ∧ (ry Int.toNat s).1.length ≤ s.size ∧ (rg Int.toNat s).1.length ≤ s.size ∧ ∀ g ∈ (rg Int.toNat s).1, g.ms.length ≤ s.size := by
  obtain ⟨u1, u2, u3, u4, u5, u6, u7⟩ := rg_up hb
  have lnm := num_rd u4
  have lm := rdN_rd (f := fun e : Cp => [e.a, e.b]) (fun p h => cStep_rd h) lnm.2.2.2.1 u3
  have ly := rdN_rd (f := fun n => [n]) (fun p h => num_rd h) lm.1.2.2.2.1 u2
  have lng := num_rd u1
  have lg := rdN_rd (f := fun g : Gp => (g.ms.length : Int) :: (g.ms ++ [g.z])) (fun p h => gStep_all h) lng.2.2.2.1 hb
  have a1 := lm.1.adv
  have a2 := ly.1.adv
  have a3 := lg.1.adv
  have f1 := flat_len (f := fun e : Cp => [e.a, e.b]) (fun x => by simp) (l := (rm Int.toNat s).1)
  have f2 := flat_len (f := fun n : Int => [n]) (fun x => by simp) (l := (ry Int.toNat s).1)
  have f3 := flat_len (f := fun g : Gp => (g.ms.length : Int) :: (g.ms ++ [g.z])) (fun x => by simp) (l := (rg Int.toNat s).1)
  have e1 : ((rm Int.toNat s).1.flatMap fun e : Cp => [e.a, e.b]).length ≤ s.size := by
    have : (rnm Int.toNat s).2.1 + ((rm Int.toNat s).1.flatMap fun e : Cp => [e.a, e.b]).length ≤ (rm Int.toNat s).2.1 := a1.1
    have : (rm Int.toNat s).2.1 ≤ s.size := a1.2
    omega
  have e2 : ((ry Int.toNat s).1.flatMap fun n : Int => [n]).length ≤ s.size := by
    have : (rm Int.toNat s).2.1 + ((ry Int.toNat s).1.flatMap fun n : Int => [n]).length ≤ (ry Int.toNat s).2.1 := a2.1
    have : (ry Int.toNat s).2.1 ≤ s.size := a2.2
    omega
  have e3 : ((rg Int.toNat s).1.flatMap fun g : Gp => (g.ms.length : Int) :: (g.ms ++ [g.z])).length ≤ s.size := by
    have : (rgn Int.toNat s).2.1 + ((rg Int.toNat s).1.flatMap fun g : Gp => (g.ms.length : Int) :: (g.ms ++ [g.z])).length ≤ (rg Int.toNat s).2.1 := a3.1
    have : (rg Int.toNat s).2.1 ≤ s.size := a3.2
    omega
  refine ⟨by omega, by omega, by omega, fun g hg => ?_⟩
  have := f3.2 g hg
  simp only [List.length_cons, List.length_append, List.length_nil] at this
  omega
end
/-- What is told of it. -/
structure CT where
  size : Int
  es : List E
  m : List Cp
  ys : List Int
  gs : List Gp
  ok : Bool
open Classical in
noncomputable def rdI (s : ByteArray) : CT := if CokI s then ⟨(rz s).1, (re Int.toNat s).1, (rm Int.toNat s).1, (ry Int.toNat s).1, (rg Int.toNat s).1, true⟩ else ⟨0, [], [], [], [], false⟩
open Classical in
noncomputable def rdS (s : ByteArray) : CT := if CokS s then ⟨(rz s).1, (re cap100 s).1, (rm cap100 s).1, (ry cap100 s).1, (rg cap100 s).1, true⟩ else ⟨0, [], [], [], [], false⟩
theorem rd_same (s : ByteArray) : rdS s = rdI s := by
  unfold rdS rdI
  by_cases h : CokI s
  · rw [if_pos (cok_same.1 h), if_pos h]
    obtain ⟨e1, e2, e3, e4⟩ := read_same ⟨Int.toNat, .inl rfl, h.1, h.2.2⟩
    rw [e1, e2, e3, e4]
  · rw [if_neg (fun k => h (cok_same.2 k)), if_neg h]
end Go.Proofs.YtgmljppiiighmaaGreatDoor.Ab
set_option linter.unusedSimpArgs false
set_option linter.unusedVariables false
set_option linter.unnecessarySimpa false
set_option maxHeartbeats 4000000
namespace Go.Proofs.YtgmljppiiighmaaGreatDoor.Ab
open Go.RowKit
/-- A loop that is left in one state, wherever it is left. -/
def ExJ (id : Nat) (J : (Nat → Value) → (Nat → Option (List Value)) → Heap → Prop) (e : Exit) (s : St) : Prop := e = .exit id ∧ s.al = (fun _ => none) ∧ J s.t s.loc s.h
section
variable {T : FuncId → Option Fun} {X : CallF} {t : Nat → Value} {loc : Nat → Option (List Value)} {h : Heap} {Q : Exit → St → Prop}
theorem w_measX {x : IR} (id : Nat) (N : Nat) (I : Nat → (Nat → Value) → (Nat → Option (List Value)) → Heap → Prop) (J : (Nat → Value) → (Nat → Option (List Value)) → Heap → Prop) (h1 : I N t loc h)
    (step : ∀ (n : Nat) (t : Nat → Value) (loc : Nat → Option (List Value)) (h : Heap), I n t loc h → W T X x ⟨t, loc, fun _ => none, h⟩ (Mx n I (ExJ id J)))
    (rest : ∀ (t : Nat → Value) (loc : Nat → Option (List Value)) (h : Heap), J t loc h → Q (.exit id) ⟨t, loc, fun _ => none, h⟩) : W T X (.loop x) ⟨t, loc, fun _ => none, h⟩ Q := by
  refine (w_meas N I h1 step).mono T X ?_
  rintro e ⟨t, loc, al, h⟩ ⟨rfl, rfl, hj⟩
  exact rest t loc h hj
theorem exj_exit {id : Nat} {J : (Nat → Value) → (Nat → Option (List Value)) → Heap → Prop} : ExJ id J (.exit id) ⟨t, loc, fun _ => none, h⟩ ↔ J t loc h := ⟨fun h => h.2.2, fun h => ⟨rfl, rfl, h⟩⟩
end
attribute [go_sem ↓] exj_exit
/-- Since a memory only the reader was moved, and what stands above it. -/
structure Rdr (b : Nat) (ty : TypeId) (s : ByteArray) (h0 h' : Heap) (p : Nat × Bool) : Prop where
  len : h0.length ≤ h'.length
  old : ∀ c, c < h0.length → c ≠ b → h'[c]? = h0[c]?
  at_ : h'[b]? = some (rdB ty s p)
  le : p.1 ≤ s.size
section
variable {b lo hi sz : Nat} {ty ty' : TypeId} {s : ByteArray} {h0 h1 h2 h' : Heap} {p q : Nat × Bool} {v : Value} {rws : List (List Value)} {gs : List Gp}
theorem Rdr.refl (hb : h0[b]? = some (rdB ty s p)) (hp : p.1 ≤ s.size) : Rdr b ty s h0 h0 p := ⟨Nat.le_refl _, fun _ _ _ => rfl, hb, hp⟩
theorem Rdr.trans (a : Rdr b ty s h0 h1 p) (c : Rdr b ty s h1 h2 q) : Rdr b ty s h0 h2 q :=
  ⟨Nat.le_trans a.len c.len, fun i hi hb => by rw [c.old i (by have := a.len; omega) hb, a.old i hi hb], c.at_, c.le⟩
theorem Rdr.num (a : Rdr b ty s h0 h' p) : Rdr b ty s h0 (h'.set b (rdB ty s (numStep s p).2)) (numStep s p).2 :=
  ⟨by rw [set_len]; exact a.len, fun i hi hb => by rw [List.getElem?_set_ne (Ne.symm hb)]; exact a.old i hi hb, rd_set a.at_, numStep_le a.le⟩
theorem Rdr.push (a : Rdr b ty s h0 h' p) (hb : b < h0.length) (hl : h'.length ≤ h1.length) (hk : ∀ c, c < h0.length → h1[c]? = h'[c]?) : Rdr b ty s h0 h1 p :=
  ⟨Nat.le_trans a.len hl, fun i hi hne => by rw [hk i hi]; exact a.old i hi hne, by rw [hk b hb]; exact a.at_, a.le⟩
theorem num_same {x : Blk} : Same b (b + 1) h' (h'.set b x) := ⟨set_len, fun c hc => List.getElem?_set_ne (by omega)⟩
theorem Own.num (o : Own h' lo hi sz ty' v rws) (hb : b < lo) {x : Blk} : Own (h'.set b x) lo hi sz ty' v rws := o.same num_same (.inr (by omega))
theorem OwnG.num (o : OwnG h' lo hi ty' v gs) (hb : b < lo) {x : Blk} : OwnG (h'.set b x) lo hi ty' v gs := o.same num_same (.inr (by omega))
theorem Own.rdr (o : Own h0 lo hi sz ty' v rws) (a : Rdr b ty s h0 h' p) (hb : b < lo) (hh : hi ≤ h0.length) : Own h' lo hi sz ty' v rws := by
  refine ⟨o.len, ?_⟩
  rcases o.is with hn | ⟨c, l1, l2, rfl, hc⟩
  · exact .inl hn
  · exact .inr ⟨c, l1, l2, rfl, by rw [a.old c (by omega) (by omega)]; exact hc⟩
theorem OwnG.rdr (o : OwnG h0 lo hi ty' v gs) (a : Rdr b ty s h0 h' p) (hb : b < lo) (hh : hi ≤ h0.length) : OwnG h' lo hi ty' v gs := by
  obtain ⟨vs, h1, h2, h3, h4⟩ := o
  exact ⟨vs, h1.rdr a hb hh, fun i hi' => (h2 i hi').rdr a hb hh, h3, h4⟩
theorem Rdr.num1 (a : Rdr b ty s h0 h' p) (i : Nat) : (h'.set b (rdB ty s (sS s p i))).set b (rdB ty s (sS s p (i + 1))) = h'.set b (rdB ty s (sS s p (i + 1))) := List.set_set ..
theorem Rdr.nums (a : Rdr b ty s h0 h' p) : ∀ i, Rdr b ty s h0 (h'.set b (rdB ty s (sS s p i))) (sS s p i)
  | 0 => ⟨by rw [set_len]; exact a.len, fun i hi hb => by rw [List.getElem?_set_ne (Ne.symm hb)]; exact a.old i hi hb, rd_set a.at_, a.le⟩
  | i + 1 => by
    have := (a.nums i).num
    rw [show (numStep s (sS s p i)).2 = sS s p (i + 1) from rfl, a.num1] at this
    exact this
end
section
variable {X : CallF} {b : Nat} {s : ByteArray} {h0 h' : Heap} {p : Nat × Bool}
theorem num_i (a : Rdr b y_reader s h0 h' p) (hs : s.size ≤ lim) : C T X n_impl_reader_num [pk b 0] h' = some (.int .i64 (sV s p 0), h'.set b (rdB y_reader s (sS s p 1))) := k_impl_num a.at_ hs a.le
theorem num_in (a : Rdr b y_reader s h0 h' p) (hs : s.size ≤ lim) (i : Nat) : C T X n_impl_reader_num [pk b 0] (h'.set b (rdB y_reader s (sS s p i))) = some (.int .i64 (sV s p i), h'.set b (rdB y_reader s (sS s p (i + 1)))) := by
  have := k_impl_num (X := X) (a.nums i).at_ hs (a.nums i).le
  rw [show (numStep s (sS s p i)).2 = sS s p (i + 1) from rfl, a.num1] at this
  exact this
theorem num_s (a : Rdr b y_l12Cur s h0 h' p) (hs : s.size ≤ lim) : C T X n_spec_l12Var [pk b 0] h' = some (.int .i64 (sV s p 0), h'.set b (rdB y_l12Cur s (sS s p 1))) := k_spec_l12Var a.at_ hs a.le
theorem num_sn (a : Rdr b y_l12Cur s h0 h' p) (hs : s.size ≤ lim) (i : Nat) : C T X n_spec_l12Var [pk b 0] (h'.set b (rdB y_l12Cur s (sS s p i))) = some (.int .i64 (sV s p i), h'.set b (rdB y_l12Cur s (sS s p (i + 1)))) := by
  have := k_spec_l12Var (X := X) (a.nums i).at_ hs (a.nums i).le
  rw [show (numStep s (sS s p i)).2 = sS s p (i + 1) from rfl, a.num1] at this
  exact this
theorem num_rng {q : Nat × Bool} (hq : q.1 ≤ s.size) : 0 ≤ (numStep s q).1 ∧ (numStep s q).1 ≤ 1000000000 := by
  unfold numStep
  split
  · simp
  · split
    · rename_i n k hr
      have := rvAt_bnd hr
      simp only
      omega
    · simp
end
section
variable {h hh : Heap} {sz : Nat} {ty : TypeId} {v : Value} {gs : List Gp}
theorem OwnG.flatG {lo hi : Nat} (o : OwnG h lo hi ty v gs) (hf : prim v = true) {h2 : Heap} {lo2 hi2 : Nat} : OwnG h2 lo2 hi2 ty v gs := by
  obtain ⟨vs, o1, _⟩ := o
  rcases o1.is with ⟨rfl, e⟩ | ⟨b, _, _, rfl, _⟩
  · have : gs = [] := by simpa using e
    rw [this]
    exact OwnG.nil
  · simp [prim] at hf
theorem Own.flatP {lo hi : Nat} {rws : List (List Value)} (o : Own h lo hi sz ty v rws) (hf : prim v = true) {h2 : Heap} {lo2 hi2 : Nat} : Own h2 lo2 hi2 sz ty v rws := by
  rcases o.is with ⟨rfl, rfl⟩ | ⟨b, _, _, rfl, _⟩
  · exact Own.nil
  · simp [prim] at hf
end
end Go.Proofs.YtgmljppiiighmaaGreatDoor.Ab
set_option linter.unusedSimpArgs false
set_option linter.unusedVariables false
set_option linter.unnecessarySimpa false
set_option maxHeartbeats 4000000
namespace Go.Proofs.YtgmljppiiighmaaGreatDoor.Ab
open Go.RowKit
section
variable {X : CallF} {h : Heap} {b : Nat} {s : ByteArray} {p : Nat × Bool}
theorem fin_rdr {h2 : Heap} {ty : TypeId} {q : Nat × Bool} {v z : Value} {rws : List (List Value)} (hb : b < h.length) (a : Rdr b ty s h h2 q) (o : Own h2 h.length h2.length 1 y_int v rws) : ∃ hh, finish h (.agg ⟨[v, z]⟩, h2) = (.agg ⟨[v, z]⟩, hh) ∧ Rdr b ty s h hh q ∧ Own hh h.length hh.length 1 y_int v rws := by
  unfold finish
  split
  · rename_i hc
    refine ⟨h, rfl, ⟨Nat.le_refl _, fun _ _ _ => rfl, ?_, a.le⟩, ?_⟩
    · rw [← get_of_pre hc.2 hb]
      exact a.at_
    · have hf := hc.1
      rcases o.is with ⟨rfl, rfl⟩ | ⟨c, _, _, rfl, _⟩
      · exact Own.nil
      · simp [flat, prim] at hf
  · exact ⟨h2, rfl, a, o⟩
theorem k_impl_group (hb : h[b]? = some (rdB y_reader s p)) (hs : s.size ≤ lim) (hp : p.1 ≤ s.size) :
    ∃ v hh, C T X n_impl_reader_group [pk b 0] h = some (.agg ⟨[v, .int .i64 (gStep Int.toNat s p).1.z]⟩, hh) ∧ Rdr b y_reader s h hh (gStep Int.toNat s p).2 ∧ Own hh h.length hh.length 1 y_int v (ints (gStep Int.toNat s p).1.ms) := by
  suffices hx : ∃ w hh, C T X n_impl_reader_group [pk b 0] h = some (w, hh) ∧ ∃ v, w = .agg ⟨[v, .int .i64 (gStep Int.toNat s p).1.z]⟩ ∧ Rdr b y_reader s h hh (gStep Int.toNat s p).2 ∧ Own hh h.length hh.length 1 y_int v (ints (gStep Int.toNat s p).1.ms) by
    obtain ⟨w, hh, c, v, rfl, r⟩ := hx
    exact ⟨v, hh, c, r⟩
  refine C_ex t_impl_reader_group rfl ?_
  have hbl := lt_of_get hb
  have hr0 := Rdr.refl hb hp
  have c0 := num_i (X := X) hr0 hs
  have hr1 := hr0.nums 1
  obtain ⟨h1, hh1⟩ : ∃ h1, h1 = h.set b (rdB y_reader s (sS s p 1)) := ⟨_, rfl⟩
  rw [← hh1] at c0 hr1
  have hl1 : h1.length = h.length := by rw [hh1, set_len]
  unfold F_impl_reader_group
  simp only [c0, go_sem]
  have hrg := num_rng hp
  obtain ⟨N, hN⟩ : ∃ N : Nat, (numStep s p).1 = N := ⟨(numStep s p).1.toNat, by omega⟩
  have hN9 : N ≤ 1000000000 := by omega
  have hv0 : sV s p 0 = N := hN
  rw [hv0]
  have hq1 : sS s p 1 = (numStep s p).2 := rfl
  refine w_meas N (fun m t loc h' => m ≤ N ∧ t 0 = pk b 0 ∧ loc 2 = some [nilV, .int .i64 0] ∧ ∃ L q v, t 4 = .int .i64 (m : Nat) ∧ loc 3 = some [v, .int .i64 0] ∧ Rdr b y_reader s h h' q ∧ Own h' h.length h'.length 1 y_int v (ints L) ∧ RdTo (numStep s) N (numStep s p).2 L m q)
    ⟨Nat.le_refl _, rfl, rfl, [], _, _, rfl, rfl, hr1, Own.nil, RdTo.start⟩ ?_
  rintro k t loc h' ⟨hkN, t0, l2, L, q, v, t4, l3, hr, o, hto⟩
  have hpk : ∀ j, faV h' (pk b 0) j = some (pk b j) := fun j => rd_fa hr.at_
  by_cases hk : (k : Int) > 0
  · cases hq : q.2 with
    | false =>
      have cn := num_i (X := X) hr hs
      have hrn := hr.nums 1
      have o1 : Own (h'.set b (rdB y_reader s (sS s q 1))) h.length h'.length 1 y_int v (ints L) := o.num hbl
      obtain ⟨h2, hh2⟩ : ∃ h2, h2 = h'.set b (rdB y_reader s (sS s q 1)) := ⟨_, rfl⟩
      rw [← hh2] at cn hrn o1
      have hl2 : h2.length = h'.length := by rw [hh2, set_len]
      have hLN := hto.len
      rw [← hl2] at o1
      obtain ⟨v3, h3, c3, q1, q2, o3⟩ := o1.push1 hrn.len [.int .i64 (sV s q 0)] rfl (by rw [ints_len]; unfold lim; omega)
      have hw : IntKind.i64.wrap ((k : Int) - 1) = ((k - 1 : Nat) : Int) := by
        rw [w64 (by omega) (by omega)]
        omega
      simp only [t0, l2, l3, t4, hk, hpk, rd_chk hr.at_, rd_ld2 hr.at_, hq, cn, zeros, fillAt, c3, o3.cells, hw, go_sem]
      have hkk : k = (k - 1) + 1 := by omega
      rw [hkk] at hto
      refine ⟨k - 1, by omega, by omega, L ++ [sV s q 0], sS s q 1, v3, rfl, rfl, hrn.push hbl q1 (fun c hc => q2 c (.inl hc)), ?_, hto.next hq⟩
      rw [Nat.max_eq_right q1] at o3
      simpa [ints] using o3
    | true =>
      have hd := hto.done (.inr hq)
      have hg : gStep Int.toNat s p = (⟨L, sV s q 0⟩, sS s q 1) := by
        unfold gStep
        rw [hN, Int.toNat_natCast, hd]
        rfl
      have cn := num_i (X := X) hr hs
      have hrn := hr.nums 1
      have o1 : Own (h'.set b (rdB y_reader s (sS s q 1))) h.length h'.length 1 y_int v (ints L) := o.num hbl
      obtain ⟨h2, hh2⟩ : ∃ h2, h2 = h'.set b (rdB y_reader s (sS s q 1)) := ⟨_, rfl⟩
      rw [← hh2] at cn hrn o1
      have hl2 : h2.length = h'.length := by rw [hh2, set_len]
      rw [← hl2] at o1
      obtain ⟨hf, e, f1, f2⟩ := fin_rdr (z := .int .i64 (sV s q 0)) hbl hrn o1
      simp only [t0, l2, l3, t4, hk, hpk, rd_chk hr.at_, rd_ld2 hr.at_, hq, cn, go_sem]
      rw [e, hg]
      exact ⟨v, rfl, f1, f2⟩
  · have hk0 : k = 0 := by omega
    have hd := hto.done (.inl hk0)
    have hq : True := trivial
    have hg : gStep Int.toNat s p = (⟨L, sV s q 0⟩, sS s q 1) := by
      unfold gStep
      rw [hN, Int.toNat_natCast, hd]
      rfl
    have cn := num_i (X := X) hr hs
    have hrn := hr.nums 1
    have o1 : Own (h'.set b (rdB y_reader s (sS s q 1))) h.length h'.length 1 y_int v (ints L) := o.num hbl
    obtain ⟨h2, hh2⟩ : ∃ h2, h2 = h'.set b (rdB y_reader s (sS s q 1)) := ⟨_, rfl⟩
    rw [← hh2] at cn hrn o1
    have hl2 : h2.length = h'.length := by rw [hh2, set_len]
    rw [← hl2] at o1
    obtain ⟨hf, e, f1, f2⟩ := fin_rdr (z := .int .i64 (sV s q 0)) hbl hrn o1
    simp only [t0, l2, l3, t4, hk, hpk, rd_chk hr.at_, rd_ld2 hr.at_, hq, cn, go_sem]
    rw [e, hg]
    exact ⟨v, rfl, f1, f2⟩
theorem k_impl_ReadCert (hs2 : s.size ≤ 1048576) : ∃ v hh, C T X n_impl_ReadCert [.string s] h = some (v, hh) ∧ h <+: hh ∧ ∃ ew mw yw gw, v = .tuple ⟨[certV (rdI s).size ew mw yw gw, .bool (rdI s).ok]⟩ ∧ ∃ i1 i2 i3 i4, (h.length ≤ i1 ∧ i1 ≤ i2 ∧ i2 ≤ i3 ∧ i3 ≤ i4 ∧ i4 ≤ hh.length) ∧ Own hh i1 i2 5 y_Edge ew (edges (rdI s).es) ∧ Own hh i2 i3 2 y_Couple mw (cps (rdI s).m) ∧ Own hh i3 i4 1 y_int yw (ints (rdI s).ys) ∧ OwnG hh i4 hh.length y_Group gw (rdI s).gs := by
  have hs : s.size ≤ lim := by unfold lim; omega
  refine C_ex t_impl_ReadCert rfl ?_
  obtain ⟨g, hg⟩ : ∃ g : Heap, g = h ++ [rdB y_reader s (0, false)] := ⟨_, rfl⟩
  have hbw : bxW h y_reader 3 (.agg ⟨[.string s, .int .i64 0, .bool false]⟩) = some (pk h.length 0, g) := by rw [hg]; rfl
  obtain ⟨b, hb⟩ : ∃ b, b = h.length := ⟨_, rfl⟩
  rw [← hb] at hbw
  have hgb : g[b]? = some (rdB y_reader s (0, false)) := by rw [hg, hb]; simp
  have hgl : g.length = b + 1 := by rw [hg, hb]; simp
  have hbl : b < g.length := by omega
  have hpg : h <+: g := by rw [hg]; exact List.prefix_append _ _
  have r0 : Rdr b y_reader s g g (0, false) := Rdr.refl hgb (Nat.zero_le _)
  have c1 := num_i (X := X) r0 hs
  have c2 := num_in (X := X) r0 hs 1
  have r2 := r0.nums 2
  obtain ⟨g2, hg2⟩ : ∃ g2, g2 = g.set b (rdB y_reader s (sS s (0, false) 2)) := ⟨_, rfl⟩
  rw [← hg2] at c2 r2
  have hz : sV s (0, false) 0 = (rz s).1 := rfl
  have hne : sV s (0, false) 1 = (rne s).1 := rfl
  have hq2 : sS s (0, false) 2 = (rne s).2 := rfl
  rw [hz] at c1
  rw [hne] at c2
  rw [hq2] at r2
  obtain ⟨size, hsz⟩ : ∃ z, z = (rz s).1 := ⟨_, rfl⟩
  rw [← hsz] at c1
  have hszr : 0 ≤ size ∧ size ≤ 1000000000 := by rw [hsz]; exact num_rng (Nat.zero_le _)
  have hner := num_rng (s := s) (q := (rz s).2) (numStep_le (Nat.zero_le _))
  rw [show numStep s (rz s).2 = rne s from rfl] at hner
  obtain ⟨N, hN⟩ : ∃ N : Nat, (rne s).1 = N := ⟨(rne s).1.toNat, by omega⟩
  have hN9 : N ≤ 1000000000 := by omega
  rw [hN] at c2
  have hre : re Int.toNat s = rdN (eStep s) N (rne s).2 := by unfold re; rw [hN, Int.toNat_natCast]
  unfold F_impl_ReadCert
  simp only [hbw, c1, c2, go_sem]
  -- the edges
  refine w_measX 0 N (fun m t loc h' => m ≤ N ∧ t 4 = pk b 0 ∧ loc 2 = some [.int .i64 0, nilV, nilV, nilV, nilV] ∧ ∃ L q v, t 6 = .int .i64 (m : Nat) ∧ loc 5 = some [.int .i64 size, v, nilV, nilV, nilV] ∧ Rdr b y_reader s g2 h' q ∧ Own h' g2.length h'.length 5 y_Edge v (edges L) ∧ RdTo (eStep s) N (rne s).2 L m q)
    (fun t loc h' => t 4 = pk b 0 ∧ loc 2 = some [.int .i64 0, nilV, nilV, nilV, nilV] ∧ ∃ v, loc 5 = some [.int .i64 size, v, nilV, nilV, nilV] ∧ Rdr b y_reader s g2 h' (re Int.toNat s).2 ∧ Own h' g2.length h'.length 5 y_Edge v (edges (re Int.toNat s).1))
    ⟨Nat.le_refl _, rfl, rfl, [], _, _, rfl, rfl, Rdr.refl r2.at_ r2.le, Own.nil, RdTo.start⟩ ?_ ?_
  · rintro k t loc h' ⟨hkN, t4, l2, L, q, v, t6, l5, hr, o, hto⟩
    have hpk : ∀ j, faV h' (pk b 0) j = some (pk b j) := fun j => rd_fa hr.at_
    by_cases hk : (k : Int) > 0
    · cases hq : q.2 with
      | false =>
        have d0 := num_i (X := X) hr hs
        have d1 := num_in (X := X) hr hs 1
        have d2 := num_in (X := X) hr hs 2
        have d3 := num_in (X := X) hr hs 3
        have d4 := num_in (X := X) hr hs 4
        have hrn := hr.nums 5
        have hb2 : b < g2.length := lt_of_get r2.at_
        have o1 : Own (h'.set b (rdB y_reader s (sS s q 5))) g2.length h'.length 5 y_Edge v (edges L) := o.num hb2
        obtain ⟨h2, hh2⟩ : ∃ h2, h2 = h'.set b (rdB y_reader s (sS s q 5)) := ⟨_, rfl⟩
        rw [← hh2] at d4 hrn o1
        have hl2 : h2.length = h'.length := by rw [hh2, set_len]
        have hLN := hto.len
        rw [← hl2] at o1
        obtain ⟨v3, h3, c3, q1, q2, o3⟩ := o1.push1 hrn.len (edgeR (eStep s q).1) rfl (by rw [List.length_map]; unfold lim; omega)
        have hw : IntKind.i64.wrap ((k : Int) - 1) = ((k - 1 : Nat) : Int) := by
          rw [w64 (by omega) (by omega)]
          omega
        unfold edgeR eStep at c3
        simp only [t4, l2, l5, t6, hk, hpk, rd_chk hr.at_, rd_ld2 hr.at_, hq, d0, d1, d2, d3, d4, zeros, fillAt, c3, o3.cells, hw, go_sem]
        have hkk : k = (k - 1) + 1 := by omega
        rw [hkk] at hto
        refine ⟨k - 1, by omega, by omega, L ++ [(eStep s q).1], sS s q 5, v3, rfl, rfl, hrn.push hb2 q1 (fun c hc => q2 c (.inl hc)), ?_, hto.next hq⟩
        rw [Nat.max_eq_right q1] at o3
        simpa using o3
      | true =>
        have hd := hto.done (.inr hq)
        simp only [t4, l2, l5, t6, hk, hpk, rd_chk hr.at_, rd_ld2 hr.at_, hq, go_sem]
        rw [hre, hd]
        exact ⟨v, rfl, hr, o⟩
    · have hd := hto.done (.inl (by omega))
      simp only [t4, l2, l5, t6, hk, hpk, go_sem]
      rw [hre, hd]
      exact ⟨v, rfl, hr, o⟩
  rintro t loc g3 ⟨t4, l2, ev, l5, r3, oe⟩
  have hb3 : b < g3.length := lt_of_get r3.at_
  have n1 := num_i (X := X) r3 hs
  rw [show sV s (re Int.toNat s).2 0 = (rnm Int.toNat s).1 from rfl] at n1
  have r4' := r3.nums 1
  obtain ⟨g4, hg4⟩ : ∃ g4, g4 = g3.set b (rdB y_reader s (sS s (re Int.toNat s).2 1)) := ⟨_, rfl⟩
  have oe4 : Own g4 g2.length g3.length 5 y_Edge ev (edges (re Int.toNat s).1) := by rw [hg4]; exact oe.num (lt_of_get r2.at_)
  rw [← hg4] at n1 r4'
  have hl4 : g4.length = g3.length := by rw [hg4, set_len]
  rw [show sS s (re Int.toNat s).2 1 = (rnm Int.toNat s).2 from rfl] at r4'
  have r4 : Rdr b y_reader s g4 g4 (rnm Int.toNat s).2 := Rdr.refl r4'.at_ r4'.le
  have hmr := num_rng (s := s) (q := (re Int.toNat s).2) r3.le
  rw [show numStep s (re Int.toNat s).2 = rnm Int.toNat s from rfl] at hmr
  obtain ⟨M, hM⟩ : ∃ M : Nat, (rnm Int.toNat s).1 = M := ⟨(rnm Int.toNat s).1.toNat, by omega⟩
  have hM9 : M ≤ 1000000000 := by omega
  rw [hM] at n1
  have hrm : rm Int.toNat s = rdN (cStep s) M (rnm Int.toNat s).2 := by unfold rm; rw [hM, Int.toNat_natCast]
  simp only [t4, l2, l5, n1, go_sem]
  -- the couples
  have hb4 : b < g4.length := by omega
  refine w_measX 2 M (fun m t loc h' => m ≤ M ∧ t 4 = pk b 0 ∧ loc 2 = some [.int .i64 0, nilV, nilV, nilV, nilV] ∧ ∃ L q v, t 6 = .int .i64 (m : Nat) ∧ loc 5 = some [.int .i64 size, ev, v, nilV, nilV] ∧ Rdr b y_reader s g4 h' q ∧ Own h' g4.length h'.length 2 y_Couple v (cps L) ∧ RdTo (cStep s) M (rnm Int.toNat s).2 L m q)
    (fun t loc h' => t 4 = pk b 0 ∧ loc 2 = some [.int .i64 0, nilV, nilV, nilV, nilV] ∧ ∃ v, loc 5 = some [.int .i64 size, ev, v, nilV, nilV] ∧ Rdr b y_reader s g4 h' (rm Int.toNat s).2 ∧ Own h' g4.length h'.length 2 y_Couple v (cps (rm Int.toNat s).1))
    ⟨Nat.le_refl _, rfl, rfl, [], _, _, rfl, rfl, r4, Own.nil, RdTo.start⟩ ?_ ?_
  · rintro k t loc h' ⟨hkN, t4, l2, L, q, v, t6, l5, hr, o, hto⟩
    have hpk : ∀ j, faV h' (pk b 0) j = some (pk b j) := fun j => rd_fa hr.at_
    by_cases hk : (k : Int) > 0
    · cases hq : q.2 with
      | false =>
        have d0 := num_i (X := X) hr hs
        have d1 := num_in (X := X) hr hs 1
        have hrn := hr.nums 2
        have o1 : Own (h'.set b (rdB y_reader s (sS s q 2))) g4.length h'.length 2 y_Couple v (cps L) := o.num hb4
        obtain ⟨h2, hh2⟩ : ∃ h2, h2 = h'.set b (rdB y_reader s (sS s q 2)) := ⟨_, rfl⟩
        rw [← hh2] at d1 hrn o1
        have hl2 : h2.length = h'.length := by rw [hh2, set_len]
        have hLN := hto.len
        rw [← hl2] at o1
        obtain ⟨v3, h3, c3, q1, q2, o3⟩ := o1.push1 hrn.len (cpR (cStep s q).1) rfl (by rw [List.length_map]; unfold lim; omega)
        have hw : IntKind.i64.wrap ((k : Int) - 1) = ((k - 1 : Nat) : Int) := by
          rw [w64 (by omega) (by omega)]
          omega
        unfold cpR cStep at c3
        simp only [t4, l2, l5, t6, hk, hpk, rd_chk hr.at_, rd_ld2 hr.at_, hq, d0, d1, zeros, fillAt, c3, o3.cells, hw, go_sem]
        have hkk : k = (k - 1) + 1 := by omega
        rw [hkk] at hto
        refine ⟨k - 1, by omega, by omega, L ++ [(cStep s q).1], sS s q 2, v3, rfl, rfl, hrn.push hb4 q1 (fun c hc => q2 c (.inl hc)), ?_, hto.next hq⟩
        rw [Nat.max_eq_right q1] at o3
        simpa using o3
      | true =>
        have hd := hto.done (.inr hq)
        simp only [t4, l2, l5, t6, hk, hpk, rd_chk hr.at_, rd_ld2 hr.at_, hq, go_sem]
        rw [hrm, hd]
        exact ⟨v, rfl, hr, o⟩
    · have hd := hto.done (.inl (by omega))
      simp only [t4, l2, l5, t6, hk, hpk, go_sem]
      rw [hrm, hd]
      exact ⟨v, rfl, hr, o⟩
  rintro t loc g5 ⟨t4, l2, mv, l5, r5, om⟩
  have hb5 : b < g5.length := lt_of_get r5.at_
  have r5s : Rdr b y_reader s g5 g5 (rm Int.toNat s).2 := Rdr.refl r5.at_ r5.le
  obtain ⟨Y, hY⟩ : ∃ Y : Nat, size = Y := ⟨size.toNat, by omega⟩
  have hY9 : Y ≤ 1000000000 := by omega
  have hry : ry Int.toNat s = rdN (numStep s) Y (rm Int.toNat s).2 := by unfold ry; rw [← hsz, hY, Int.toNat_natCast]
  simp only [t4, l2, l5, hY, go_sem]
  -- the numbers of the vertices
  refine w_measX 4 Y (fun m t loc h' => m ≤ Y ∧ t 4 = pk b 0 ∧ loc 2 = some [.int .i64 0, nilV, nilV, nilV, nilV] ∧ ∃ L q v, t 9 = .int .i64 (m : Nat) ∧ loc 5 = some [.int .i64 Y, ev, mv, v, nilV] ∧ Rdr b y_reader s g5 h' q ∧ Own h' g5.length h'.length 1 y_int v (ints L) ∧ RdTo (numStep s) Y (rm Int.toNat s).2 L m q)
    (fun t loc h' => t 4 = pk b 0 ∧ loc 2 = some [.int .i64 0, nilV, nilV, nilV, nilV] ∧ ∃ v, loc 5 = some [.int .i64 Y, ev, mv, v, nilV] ∧ Rdr b y_reader s g5 h' (ry Int.toNat s).2 ∧ Own h' g5.length h'.length 1 y_int v (ints (ry Int.toNat s).1))
    ⟨Nat.le_refl _, rfl, rfl, [], _, _, rfl, rfl, r5s, Own.nil, RdTo.start⟩ ?_ ?_
  · rintro k t loc h' ⟨hkN, t4, l2, L, q, v, t9, l5, hr, o, hto⟩
    have hpk : ∀ j, faV h' (pk b 0) j = some (pk b j) := fun j => rd_fa hr.at_
    by_cases hk : (k : Int) > 0
    · cases hq : q.2 with
      | false =>
        have d0 := num_i (X := X) hr hs
        have hrn := hr.nums 1
        have o1 : Own (h'.set b (rdB y_reader s (sS s q 1))) g5.length h'.length 1 y_int v (ints L) := o.num hb5
        obtain ⟨h2, hh2⟩ : ∃ h2, h2 = h'.set b (rdB y_reader s (sS s q 1)) := ⟨_, rfl⟩
        rw [← hh2] at d0 hrn o1
        have hl2 : h2.length = h'.length := by rw [hh2, set_len]
        have hLN := hto.len
        rw [← hl2] at o1
        obtain ⟨v3, h3, c3, q1, q2, o3⟩ := o1.push1 hrn.len [.int .i64 (sV s q 0)] rfl (by rw [ints_len]; unfold lim; omega)
        have hw : IntKind.i64.wrap ((k : Int) - 1) = ((k - 1 : Nat) : Int) := by
          rw [w64 (by omega) (by omega)]
          omega
        simp only [t4, l2, l5, t9, hk, hpk, rd_chk hr.at_, rd_ld2 hr.at_, hq, d0, zeros, fillAt, c3, o3.cells, hw, go_sem]
        have hkk : k = (k - 1) + 1 := by omega
        rw [hkk] at hto
        refine ⟨k - 1, by omega, by omega, L ++ [sV s q 0], sS s q 1, v3, rfl, rfl, hrn.push hb5 q1 (fun c hc => q2 c (.inl hc)), ?_, hto.next hq⟩
        rw [Nat.max_eq_right q1] at o3
        simpa [ints] using o3
      | true =>
        have hd := hto.done (.inr hq)
        simp only [t4, l2, l5, t9, hk, hpk, rd_chk hr.at_, rd_ld2 hr.at_, hq, go_sem]
        rw [hry, hd]
        exact ⟨v, rfl, hr, o⟩
    · have hd := hto.done (.inl (by omega))
      simp only [t4, l2, l5, t9, hk, hpk, go_sem]
      rw [hry, hd]
      exact ⟨v, rfl, hr, o⟩
  rintro t loc g6 ⟨t4, l2, yv, l5, r6, oy⟩
  have hb6 : b < g6.length := lt_of_get r6.at_
  have n2 := num_i (X := X) r6 hs
  rw [show sV s (ry Int.toNat s).2 0 = (rgn Int.toNat s).1 from rfl] at n2
  have r7' := r6.nums 1
  obtain ⟨g7, hg7⟩ : ∃ g7, g7 = g6.set b (rdB y_reader s (sS s (ry Int.toNat s).2 1)) := ⟨_, rfl⟩
  have oy7 : Own g7 g5.length g6.length 1 y_int yv (ints (ry Int.toNat s).1) := by rw [hg7]; exact oy.num hb5
  rw [← hg7] at n2 r7'
  have hl7 : g7.length = g6.length := by rw [hg7, set_len]
  have hb7 : b < g7.length := by omega
  rw [show sS s (ry Int.toNat s).2 1 = (rgn Int.toNat s).2 from rfl] at r7'
  have r7 : Rdr b y_reader s g7 g7 (rgn Int.toNat s).2 := Rdr.refl r7'.at_ r7'.le
  have hgr := num_rng (s := s) (q := (ry Int.toNat s).2) r6.le
  rw [show numStep s (ry Int.toNat s).2 = rgn Int.toNat s from rfl] at hgr
  obtain ⟨G, hG⟩ : ∃ G : Nat, (rgn Int.toNat s).1 = G := ⟨(rgn Int.toNat s).1.toNat, by omega⟩
  have hG9 : G ≤ 1000000000 := by omega
  rw [hG] at n2
  have hrgs : rg Int.toNat s = rdN (gStep Int.toNat s) G (rgn Int.toNat s).2 := by unfold rg; rw [hG, Int.toNat_natCast]
  simp only [t4, l2, l5, n2, go_sem]
  -- the groups
  refine w_measX 6 G (fun m t loc h' => m ≤ G ∧ t 4 = pk b 0 ∧ loc 2 = some [.int .i64 0, nilV, nilV, nilV, nilV] ∧ ∃ L q v, t 6 = .int .i64 (m : Nat) ∧ loc 5 = some [.int .i64 Y, ev, mv, yv, v] ∧ Rdr b y_reader s g7 h' q ∧ OwnG h' g7.length h'.length y_Group v L ∧ RdTo (gStep Int.toNat s) G (rgn Int.toNat s).2 L m q)
    (fun t loc h' => t 4 = pk b 0 ∧ loc 2 = some [.int .i64 0, nilV, nilV, nilV, nilV] ∧ ∃ v, loc 5 = some [.int .i64 Y, ev, mv, yv, v] ∧ Rdr b y_reader s g7 h' (rg Int.toNat s).2 ∧ OwnG h' g7.length h'.length y_Group v (rg Int.toNat s).1)
    ⟨Nat.le_refl _, rfl, rfl, [], _, _, rfl, rfl, r7, OwnG.nil, RdTo.start⟩ ?_ ?_
  · rintro k t loc h' ⟨hkN, t4, l2, L, q, v, t6, l5, hr, o, hto⟩
    have hpk : ∀ j, faV h' (pk b 0) j = some (pk b j) := fun j => rd_fa hr.at_
    by_cases hk : (k : Int) > 0
    · cases hq : q.2 with
      | false =>
        obtain ⟨x, h2, d0, hrx, ox⟩ := k_impl_group (X := X) hr.at_ hs hr.le
        have hrn := hr.trans hrx
        have o1 : OwnG h2 g7.length h'.length y_Group v L := o.rdr hrx hb7 (Nat.le_refl _)
        have hLN := hto.len
        obtain ⟨v3, h3, c3, q1, q2, o3⟩ := o1.push (z := (gStep Int.toNat s q).1.z) hrn.len hrx.len ox hr.len (Nat.le_refl _) (Nat.le_refl _) (by unfold lim; omega)
        have hw : IntKind.i64.wrap ((k : Int) - 1) = ((k - 1 : Nat) : Int) := by
          rw [w64 (by omega) (by omega)]
          omega
        simp only [t4, l2, l5, t6, hk, hpk, rd_chk hr.at_, rd_ld2 hr.at_, hq, d0, ox.cells, zeros, fillAt, c3, o3.cells', hw, go_sem]
        have hkk : k = (k - 1) + 1 := by omega
        rw [hkk] at hto
        exact ⟨k - 1, by omega, by omega, L ++ [(gStep Int.toNat s q).1], (gStep Int.toNat s q).2, v3, rfl, rfl, hrn.push hb7 q1 q2, o3, hto.next hq⟩
      | true =>
        have hd := hto.done (.inr hq)
        simp only [t4, l2, l5, t6, hk, hpk, rd_chk hr.at_, rd_ld2 hr.at_, hq, go_sem]
        rw [hrgs, hd]
        exact ⟨v, rfl, hr, o⟩
    · have hd := hto.done (.inl (by omega))
      simp only [t4, l2, l5, t6, hk, hpk, go_sem]
      rw [hrgs, hd]
      exact ⟨v, rfl, hr, o⟩
  rintro t loc g8 ⟨t4, l2, gv, l5, r8, og⟩
  have ce := k_impl_ends (X := X) r8.at_
  -- all of one's own
  have lenA : g.length ≤ g2.length := by rw [hg2, set_len]; exact Nat.le_refl _
  have len8 := r8.len
  have len6 := r6.len
  have len5 := r5.len
  have len3 := r3.len
  have hpg8 : h <+: g8 := by
    have k2 : ∀ c, c < h.length → g2[c]? = h[c]? := fun c hc => by
      rw [hg2, List.getElem?_set_ne (by omega), hg, List.getElem?_append_left hc]
    have k3 : ∀ c, c < h.length → g3[c]? = h[c]? := fun c hc => by rw [r3.old c (by omega) (by omega), k2 c hc]
    have k4 : ∀ c, c < h.length → g4[c]? = h[c]? := fun c hc => by rw [hg4, List.getElem?_set_ne (by omega), k3 c hc]
    have k5 : ∀ c, c < h.length → g5[c]? = h[c]? := fun c hc => by rw [r5.old c (by omega) (by omega), k4 c hc]
    have k6 : ∀ c, c < h.length → g6[c]? = h[c]? := fun c hc => by rw [r6.old c (by omega) (by omega), k5 c hc]
    have k7 : ∀ c, c < h.length → g7[c]? = h[c]? := fun c hc => by rw [hg7, List.getElem?_set_ne (by omega), k6 c hc]
    exact pre_of_get (by omega) fun c hc => by rw [r8.old c (by omega) (by omega), k7 c hc]
  have hbg2 : b < g2.length := by omega
  have oe8 : Own g8 g2.length g3.length 5 y_Edge ev (edges (re Int.toNat s).1) := by
    have a5 := oe4.rdr r5 hbg2 (by omega)
    have a6 := a5.rdr r6 hbg2 (by omega)
    have a7 : Own g7 g2.length g3.length 5 y_Edge ev (edges (re Int.toNat s).1) := by rw [hg7]; exact a6.num hbg2
    exact a7.rdr r8 hbg2 (by omega)
  have om8 : Own g8 g4.length g5.length 2 y_Couple mv (cps (rm Int.toNat s).1) := by
    have a6 := om.rdr r6 hb4 (by omega)
    have a7 : Own g7 g4.length g5.length 2 y_Couple mv (cps (rm Int.toNat s).1) := by rw [hg7]; exact a6.num hb4
    exact a7.rdr r8 hb4 (by omega)
  have oy8 : Own g8 g5.length g6.length 1 y_int yv (ints (ry Int.toNat s).1) := oy7.rdr r8 hb5 (by omega)
  by_cases ok : CokI s
  · have hR : rdI s = ⟨(rz s).1, (re Int.toNat s).1, (rm Int.toNat s).1, (ry Int.toNat s).1, (rg Int.toNat s).1, true⟩ := if_pos ok
    obtain ⟨k1, k2, k3, k4⟩ := read_bnd ok.1
    have cc := k_impl_Certifies (X := X) (size := (Y : Int)) oe8.rows om8.rows oy8.rows og.rows (by have := (cert_lens ok.2.2).2.1; unfold lim; omega) (by omega) ⟨by omega, by omega, fun x hx => by have := k4 x hx; omega⟩
    have hcy : CertOk (Y : Int) (re Int.toNat s).1 (rm Int.toNat s).1 (ry Int.toNat s).1 (rg Int.toNat s).1 := by rw [← hY, hsz]; exact ok.2.2
    unfold graphV proofV at cc
    have e1 : (rg Int.toNat s).2.2 = false := ok.1
    have e2 : ((rg Int.toNat s).2.1 = s.size) = True := eq_true ok.2.1
    have ce' : C T X n_impl_reader_ends [pk b 0] g8 = some (.bool true, g8) := by rw [ce, e1, ok.2.1]; simp
    simp only [t4, l2, l5, ce', cc, hcy, go_sem]
    rw [hR]
    simp only
    rw [← hsz, hY]
    obtain ⟨hh, e, p1, hc⟩ := finish_cases (v := .tuple ⟨[.agg ⟨[.int .i64 (Y : Int), ev, mv, yv, gv]⟩, .bool true]⟩) hpg8
    rw [e]
    dsimp only
    rcases hc with rfl | ⟨hf, rfl⟩
    · exact ⟨p1, ev, mv, yv, gv, rfl, g2.length, g3.length, g5.length, g6.length, ⟨by omega, by omega, by omega, by omega, by omega⟩, oe8, om8.wide (by omega) (Nat.le_refl _), oy8, og.wide (by omega) (Nat.le_refl _)⟩
    · have hf' : prim ev = true ∧ prim mv = true ∧ prim yv = true ∧ prim gv = true := by simpa [flat, flat1, prim] using hf
      exact ⟨p1, ev, mv, yv, gv, rfl, List.length hh, List.length hh, List.length hh, List.length hh, ⟨by omega, by omega, by omega, by omega, pre_len p1⟩, oe8.flatP hf'.1, om8.flatP hf'.2.1, oy8.flatP hf'.2.2.1, og.flatG hf'.2.2.2⟩
  · have hR : rdI s = ⟨0, [], [], [], [], false⟩ := if_neg ok
    by_cases e1 : (!(rg Int.toNat s).2.2 && decide ((rg Int.toNat s).2.1 = s.size)) = true
    · have e2 : (rg Int.toNat s).2.2 = false ∧ (rg Int.toNat s).2.1 = s.size := by simpa using e1
      obtain ⟨k1, k2, k3, k4⟩ := read_bnd e2.1
      have hnl : (re Int.toNat s).1.length ≤ N := by rw [hre]; exact rdN_len
      have cc := k_impl_Certifies (X := X) (size := (Y : Int)) oe8.rows om8.rows oy8.rows og.rows (by unfold lim; omega) (by omega) ⟨by omega, by omega, fun x hx => by have := k4 x hx; omega⟩
      have hcy : ¬ CertOk (Y : Int) (re Int.toNat s).1 (rm Int.toNat s).1 (ry Int.toNat s).1 (rg Int.toNat s).1 := by rw [← hY, hsz]; exact fun k => ok ⟨e2.1, e2.2, k⟩
      unfold graphV proofV at cc
      have ce' : C T X n_impl_reader_ends [pk b 0] g8 = some (.bool true, g8) := by rw [ce, e1]
      simp only [t4, l2, l5, ce', cc, hcy, go_sem]
      rw [finish_flat rfl hpg8, hR]
      exact ⟨List.prefix_refl _, nilV, nilV, nilV, nilV, rfl, h.length, h.length, h.length, h.length, ⟨Nat.le_refl _, Nat.le_refl _, Nat.le_refl _, Nat.le_refl _, Nat.le_refl _⟩, Own.nil, Own.nil, Own.nil, OwnG.nil⟩
    · have ce' : C T X n_impl_reader_ends [pk b 0] g8 = some (.bool false, g8) := by rw [ce]; simp only [Bool.not_eq_true] at e1; rw [e1]
      simp only [t4, l2, l5, ce', go_sem]
      rw [finish_flat rfl hpg8, hR]
      exact ⟨List.prefix_refl _, nilV, nilV, nilV, nilV, rfl, h.length, h.length, h.length, h.length, ⟨Nat.le_refl _, Nat.le_refl _, Nat.le_refl _, Nat.le_refl _, Nat.le_refl _⟩, Own.nil, Own.nil, Own.nil, OwnG.nil⟩
end
end Go.Proofs.YtgmljppiiighmaaGreatDoor.Ab
set_option linter.unusedSimpArgs false
set_option linter.unusedVariables false
set_option linter.unnecessarySimpa false
set_option maxHeartbeats 4000000
namespace Go.Proofs.YtgmljppiiighmaaGreatDoor.Ab
open Go.RowKit
/-- The texts that are certificates. -/
def cfR : Cf := fun s n => (rdI s).ok = true ∧ (rdI s).size = (n : Int)
theorem twoV_some {s : ByteArray} {i : Nat} (e : rdTwo s = some i) : twoV s = .tuple ⟨[.int .i64 (i : Int), .bool true]⟩ := by unfold twoV; rw [e]; rfl
theorem twoV_none {s : ByteArray} (e : rdTwo s = none) : twoV s = .tuple ⟨[.int .i64 0, .bool false]⟩ := by unfold twoV; rw [e]; rfl
section
variable {X : CallF} [LibX X] {h : Heap} {m : List Pr} {mv : Value} {R : Nat} {p : Pr}
theorem k_impl_idOk (hm : Rows h 2 mv (prsL m)) (hl : m.length ≤ lim) (hR : IsRnd m R) (hR6 : R ≤ 6) (hk : 1 ≤ p.k.size) (h0 : byt p.k 0 = 118) (hv : p.v.size ≤ 40) : C T X n_impl_idOk [mv, .agg ⟨[.string p.k, .string p.v]⟩] h = some (.bool (tB (IdOk R p)), h) := by
  refine C_go t_impl_idOk rfl ?_
  unfold F_impl_idOk
  have f1 : slSV (.string p.k) (some (.int .i64 1)) none = some (.string (p.k.extract 1 p.k.size)) := sl_from (a := 1) hk
  have h2 := k_impl_readTwo (X := X) (h := h) (s := p.k.extract 1 p.k.size)
  cases e : rdTwo (p.k.extract 1 p.k.size) with
  | none =>
    rw [twoV_none e] at h2
    simp only [f1, h2, zeros, fillAt, go_sem]
    exact (tB_f (id_none hk h0 e)).symm
  | some i =>
    rw [twoV_some e] at h2
    rw [tB_iff (id_some hk h0 e)]
    by_cases c1 : (i : Int) ≥ 12
    · simp only [f1, h2, c1, zeros, fillAt, go_sem]
      exact (tB_f fun k => by have := k.1; omega).symm
    by_cases c2 : p.v = noT
    · have c2' : (p.v.toList == ByteArray.toList ⟨⟨[]⟩⟩) = true := by rw [str_eq]; exact decide_eq_true c2
      simp only [f1, h2, c1, c2', zeros, fillAt, go_sem]
      refine (tB_f fun k => ?_).symm
      rw [c2] at k
      rcases k.2 with k | k | k
      · cases k
      · cases k
      · exact id_noT k
    have c2' : (p.v.toList == ByteArray.toList ⟨⟨[]⟩⟩) = false := by rw [str_eq]; exact decide_eq_false c2
    by_cases c3 : p.v = aT
    · have c3' : (p.v.toList == ByteArray.toList ⟨⟨[97]⟩⟩) = true := by rw [str_eq]; exact decide_eq_true c3
      simp only [f1, h2, c1, c2', c3', zeros, fillAt, go_sem]
      exact (tB_t ⟨by omega, .inl c3⟩).symm
    have c3' : (p.v.toList == ByteArray.toList ⟨⟨[97]⟩⟩) = false := by rw [str_eq]; exact decide_eq_false c3
    by_cases c4 : p.v = lT
    · have c4' : (p.v.toList == ByteArray.toList ⟨⟨[108]⟩⟩) = true := by rw [str_eq]; exact decide_eq_true c4
      simp only [f1, h2, c1, c2', c3', c4', zeros, fillAt, go_sem]
      exact (tB_t ⟨by omega, .inr (.inl c4)⟩).symm
    have c4' : (p.v.toList == ByteArray.toList ⟨⟨[108]⟩⟩) = false := by rw [str_eq]; exact decide_eq_false c4
    have v1 : 1 ≤ p.v.size := by
      have : ¬ p.v.size = 0 := fun q => c2 (size_noT.1 q)
      omega
    have f2 : slSV (.string p.v) (some (.int .i64 1)) none = some (.string (p.v.extract 1 p.v.size)) := sl_from (a := 1) v1
    have e0 : ixV (.string p.v) (.int .i64 0) = some (.int .u8 (byt p.v 0 : Nat)) := ix_byt (i := 0) (by omega)
    have h3 := k_impl_ReadDecimal (X := X) (h := h) (s := p.v.extract 1 p.v.size) (by rw [ByteArray.size_extract]; omega)
    have h4 := k_impl_roundsOf (X := X) hm hl hR
    rw [show min R 7 = R by omega] at h4
    have hp := pT_iff (v := p.v) (R := R) hR6 v1
    have bad : ¬ (byt p.v 0 = 112 ∧ ∃ n, rdDec (p.v.extract 1 p.v.size) = some n ∧ n < R) → tB (i < 12 ∧ (p.v = aT ∨ p.v = lT ∨ ∃ r, r < R ∧ p.v = pT r)) = false := fun hb => tB_f fun k => by
      rcases k.2 with k | k | k
      · exact c3 k
      · exact c4 k
      · exact hb (hp.1 k)
    cases e5 : rdDec (p.v.extract 1 p.v.size) with
    | none =>
      unfold dcN dcB at h3
      rw [e5] at h3
      by_cases c5 : ((byt p.v 0 : Nat) : Int) = 112
      · simp only [f1, f2, e0, h2, h3, h4, c1, c2', c3', c4', c5, Option.getD_none, Option.isSome_none, zeros, fillAt, go_sem]
        exact (bad (by rw [e5]; rintro ⟨_, n, k, _⟩; cases k)).symm
      · simp only [f1, f2, e0, h2, h3, h4, c1, c2', c3', c4', c5, Option.getD_none, Option.isSome_none, zeros, fillAt, go_sem]
        exact (bad (by omega)).symm
    | some n =>
      unfold dcN dcB at h3
      rw [e5] at h3
      by_cases c5 : ((byt p.v 0 : Nat) : Int) = 112
      · by_cases c6 : (n : Int) < R
        · simp only [f1, f2, e0, h2, h3, h4, c1, c2', c3', c4', c5, c6, Option.getD_some, Option.isSome_some, zeros, fillAt, go_sem]
          exact (tB_t ⟨by omega, .inr (.inr (hp.2 ⟨by omega, n, e5, by omega⟩))⟩).symm
        · simp only [f1, f2, e0, h2, h3, h4, c1, c2', c3', c4', c5, c6, Option.getD_some, Option.isSome_some, zeros, fillAt, go_sem]
          exact (bad (by rw [e5]; rintro ⟨_, n', k, k2⟩; cases k; omega)).symm
      · simp only [f1, f2, e0, h2, h3, h4, c1, c2', c3', c4', c5, Option.getD_some, Option.isSome_some, zeros, fillAt, go_sem]
        exact (bad (by omega)).symm
theorem k_impl_linkOk (hm : Rows h 2 mv (prsL m)) (hl : m.length ≤ lim) (h0 : byt p.k 0 = 101) : C T X n_impl_linkOk [mv, .agg ⟨[.string p.k, .string p.v]⟩] h = some (.bool (tB (LinkI m p)), h) := by
  refine C_go t_impl_linkOk rfl ?_
  unfold F_impl_linkOk
  by_cases d1 : (p.k.size : Int) = 5
  rotate_left
  · simp only [d1, zeros, fillAt, go_sem]
    exact (tB_f fun k => by have := (link_size k).1; omega).symm
  by_cases d2 : (p.v.size : Int) = 3
  rotate_left
  · simp only [d1, d2, zeros, fillAt, go_sem]
    exact (tB_f fun k => by have := (link_size k).2; omega).symm
  have hk : p.k.size = 5 := by omega
  have f1 : slSV (.string p.k) (some (.int .i64 1)) (some (.int .i64 3)) = some (.string (p.k.extract 1 3)) := sl_mid (a := 1) (b := 3) (by omega) (by omega)
  have f2 : slSV (.string p.k) (some (.int .i64 3)) none = some (.string (p.k.extract 3 5)) := by rw [← hk]; exact sl_from (a := 3) (by omega)
  have h2 := k_impl_readTwo (X := X) (h := h) (s := p.k.extract 1 3)
  have h3 := k_impl_readTwo (X := X) (h := h) (s := p.k.extract 3 5)
  cases ea : rdTwo (p.k.extract 1 3) with
  | none =>
    have bad := tB_f (link_none (m := m) hk h0 (.inl ea))
    rw [twoV_none ea] at h2
    cases eb : rdTwo (p.k.extract 3 5) with
    | none =>
      rw [twoV_none eb] at h3
      simp only [f1, f2, h2, h3, d1, d2, zeros, fillAt, go_sem]
      exact bad.symm
    | some b =>
      rw [twoV_some eb] at h3
      simp only [f1, f2, h2, h3, d1, d2, zeros, fillAt, go_sem]
      exact bad.symm
  | some a =>
    rw [twoV_some ea] at h2
    cases eb : rdTwo (p.k.extract 3 5) with
    | none =>
      have bad := tB_f (link_none (m := m) hk h0 (.inr eb))
      rw [twoV_none eb] at h3
      simp only [f1, f2, h2, h3, d1, d2, zeros, fillAt, go_sem]
      exact bad.symm
    | some b =>
      rw [twoV_some eb] at h3
      rw [tB_iff (link_some (m := m) hk h0 ea eb)]
      have la := rdTwo_lt ea
      have lb := rdTwo_lt eb
      have ja := k_impl_joined (X := X) (i := a) (by omega) hm hl
      have jb := k_impl_joined (X := X) (i := b) (by omega) hm hl
      by_cases c1 : (a : Int) ≥ b
      · simp only [f1, f2, h2, h3, d1, d2, c1, zeros, fillAt, go_sem]
        exact (tB_f fun k => by have := k.1; omega).symm
      by_cases c2 : Jn m a
      rotate_left
      · rw [tB_f c2] at ja
        simp only [f1, f2, h2, h3, d1, d2, c1, ja, zeros, fillAt, go_sem]
        exact (tB_f fun k => c2 k.2.2.1).symm
      rw [tB_t c2] at ja
      by_cases c3 : Jn m b
      rotate_left
      · rw [tB_f c3] at jb
        simp only [f1, f2, h2, h3, d1, d2, c1, ja, jb, zeros, fillAt, go_sem]
        exact (tB_f fun k => c3 k.2.2.2).symm
      rw [tB_t c3] at jb
      have e0 : ixV (.string p.v) (.int .i64 0) = some (.int .u8 (byt p.v 0 : Nat)) := ix_byt (i := 0) (by omega)
      have e1 : ixV (.string p.v) (.int .i64 1) = some (.int .u8 (byt p.v 1 : Nat)) := ix_byt (i := 1) (by omega)
      have e2 : ixV (.string p.v) (.int .i64 2) = some (.int .u8 (byt p.v 2 : Nat)) := ix_byt (i := 2) (by omega)
      have good : (byt p.v 0 ≤ 50 ∧ byt p.v 1 ≤ 50 ∧ byt p.v 2 ≤ 50) ↔ (a < b ∧ Worths p.v ∧ Jn m a ∧ Jn m b) := by
        constructor
        · rintro ⟨w0, w1, w2⟩
          refine ⟨by omega, ⟨by omega, fun i hi => ?_⟩, c2, c3⟩
          rcases i with _ | _ | _ | i
          · exact w0
          · exact w1
          · exact w2
          · omega
        · rintro ⟨_, w, _, _⟩
          exact ⟨w.2 0 (by omega), w.2 1 (by omega), w.2 2 (by omega)⟩
      rw [← tB_iff good]
      by_cases w0 : ((byt p.v 0 : Nat) : Int) ≤ 50
      rotate_left
      · simp only [f1, f2, h2, h3, d1, d2, c1, ja, jb, e0, e1, e2, w0, zeros, fillAt, go_sem]
        exact (tB_f (by omega)).symm
      by_cases w1 : ((byt p.v 1 : Nat) : Int) ≤ 50
      rotate_left
      · simp only [f1, f2, h2, h3, d1, d2, c1, ja, jb, e0, e1, e2, w0, w1, zeros, fillAt, go_sem]
        exact (tB_f (by omega)).symm
      by_cases w2 : ((byt p.v 2 : Nat) : Int) ≤ 50
      · simp only [f1, f2, h2, h3, d1, d2, c1, ja, jb, e0, e1, e2, w0, w1, w2, zeros, fillAt, go_sem]
        exact (tB_t (by omega)).symm
      · simp only [f1, f2, h2, h3, d1, d2, c1, ja, jb, e0, e1, e2, w0, w1, w2, zeros, fillAt, go_sem]
        exact (tB_f (by omega)).symm
/-- What a part's key must say. -/
def PartI (m : List Pr) (R : Nat) (p : Pr) : Prop := ∃ r i, r < R ∧ i < 100 ∧ p.k = rK r i ∧ ∃ n, IsParts m r n ∧ i < n
theorem k_impl_partOk (hm : Rows h 2 mv (prsL m)) (hl : m.length ≤ lim) (hR : IsRnd m R) (hR6 : R ≤ 6) (hs : ∀ p ∈ m, p.v.size ≤ 40) (h0 : byt p.k 0 = 114) : C T X n_impl_partOk [mv, .agg ⟨[.string p.k, .string p.v]⟩] h = some (.bool (tB (PartI m R p)), h) := by
  refine C_go t_impl_partOk rfl ?_
  unfold F_impl_partOk
  by_cases d1 : (p.k.size : Int) = 5
  rotate_left
  · simp only [d1, zeros, fillAt, go_sem]
    exact (tB_f fun k => by have := r_size (R := R) (by omega) k; omega).symm
  have hk : p.k.size = 5 := by omega
  have f1 : slSV (.string p.k) (some (.int .i64 1)) (some (.int .i64 3)) = some (.string (p.k.extract 1 3)) := sl_mid (a := 1) (b := 3) (by omega) (by omega)
  have f2 : slSV (.string p.k) (some (.int .i64 3)) none = some (.string (p.k.extract 3 5)) := by rw [← hk]; exact sl_from (a := 3) (by omega)
  have h2 := k_impl_readTwo (X := X) (h := h) (s := p.k.extract 1 3)
  have h3 := k_impl_readTwo (X := X) (h := h) (s := p.k.extract 3 5)
  have h4 := k_impl_roundsOf (X := X) hm hl hR
  rw [show min R 7 = R by omega] at h4
  cases ea : rdTwo (p.k.extract 1 3) with
  | none =>
    have bad : tB (PartI m R p) = false := tB_f (r_none (R := R) (by omega) hk h0 (.inl ea))
    rw [twoV_none ea] at h2
    cases eb : rdTwo (p.k.extract 3 5) with
    | none =>
      rw [twoV_none eb] at h3
      simp only [f1, f2, h2, h3, h4, d1, zeros, fillAt, go_sem]
      exact bad.symm
    | some b =>
      rw [twoV_some eb] at h3
      simp only [f1, f2, h2, h3, h4, d1, zeros, fillAt, go_sem]
      exact bad.symm
  | some a =>
    rw [twoV_some ea] at h2
    cases eb : rdTwo (p.k.extract 3 5) with
    | none =>
      have bad : tB (PartI m R p) = false := tB_f (r_none (R := R) (by omega) hk h0 (.inr eb))
      rw [twoV_none eb] at h3
      simp only [f1, f2, h2, h3, h4, d1, zeros, fillAt, go_sem]
      exact bad.symm
    | some b =>
      rw [twoV_some eb] at h3
      have hb : tB (PartI m R p) = tB (a < R ∧ ∃ n, IsParts m a n ∧ b < n) := tB_iff (r_some (R := R) (by omega) hk h0 ea eb)
      rw [hb]
      have la := rdTwo_lt ea
      by_cases c1 : (a : Int) ≥ R
      · simp only [f1, f2, h2, h3, h4, d1, c1, zeros, fillAt, go_sem]
        exact (tB_f fun k => by have := k.1; omega).symm
      obtain ⟨n, hn⟩ := parts_ex m a
      have h5 := k_impl_certOf (X := X) (r := a) (by omega) hn hs hm hl
      by_cases c2 : (b : Int) < n
      · simp only [f1, f2, h2, h3, h4, h5, d1, c1, c2, zeros, fillAt, go_sem]
        exact (tB_t ⟨by omega, n, hn, by omega⟩).symm
      · simp only [f1, f2, h2, h3, h4, h5, d1, c1, c2, zeros, fillAt, go_sem]
        exact (tB_f fun k => by obtain ⟨_, n', k1, k2⟩ := k; have := hn.one k1; omega).symm
end
end Go.Proofs.YtgmljppiiighmaaGreatDoor.Ab
set_option linter.unusedSimpArgs false
set_option linter.unusedVariables false
set_option linter.unnecessarySimpa false
set_option maxHeartbeats 4000000
namespace Go.Proofs.YtgmljppiiighmaaGreatDoor.Ab
open Go.RowKit
def poolAt (m : List Pr) (v : ByteArray) (i : Nat) : Prop := Jn m (byt v i) ∧ (0 < i → byt v (i - 1) < byt v i)
def PoolI (m : List Pr) (R : Nat) (p : Pr) : Prop := ∃ r, r < R ∧ p.k = qK r ∧ RoundI cfR m r
theorem partsL_len {m : List Pr} {r n : Nat} : (partsL m r n).length = n := by simp [partsL]
theorem ext_getD {α : Type} {d : α} {l k : List α} (hl : l.length = k.length) (h : ∀ i, i < l.length → l.getD i d = k.getD i d) : l = k := by
  refine List.ext_getElem hl fun i h1 h2 => ?_
  have := h i h1
  rw [List.getD_eq_getElem?_getD, List.getD_eq_getElem?_getD, List.getElem?_eq_getElem h1, List.getElem?_eq_getElem h2] at this
  exact this
section
variable {X : CallF} [LibX X] {h : Heap} {m : List Pr} {mv : Value} {R : Nat} {p : Pr}
theorem k_impl_poolOk (hm : Rows h 2 mv (prsL m)) (hl : m.length ≤ lim) (hR : IsRnd m R) (hR6 : R ≤ 6) (hs : ∀ p ∈ m, p.v.size ≤ 40) (hk : 1 ≤ p.k.size) (h0 : byt p.k 0 = 113) (hp : getK m p.k = some p.v) : C T X n_impl_poolOk [mv, .agg ⟨[.string p.k, .string p.v]⟩] h = some (.bool (tB (PoolI m R p)), h) := by
  refine C_go t_impl_poolOk rfl ?_
  unfold F_impl_poolOk
  have f1 : slSV (.string p.k) (some (.int .i64 1)) none = some (.string (p.k.extract 1 p.k.size)) := sl_from (a := 1) hk
  have h2 := k_impl_readTwo (X := X) (h := h) (s := p.k.extract 1 p.k.size)
  have h4 := k_impl_roundsOf (X := X) hm hl hR
  rw [show min R 7 = R by omega] at h4
  cases e : rdTwo (p.k.extract 1 p.k.size) with
  | none =>
    rw [twoV_none e] at h2
    simp only [f1, h2, h4, zeros, fillAt, go_sem]
    exact (tB_f (q_none (R := R) (by omega) hk h0 e)).symm
  | some r =>
    rw [twoV_some e] at h2
    have hr := rdTwo_lt e
    have hb : tB (PoolI m R p) = tB (r < R ∧ RoundI cfR m r) := tB_iff (q_some hk h0 e)
    rw [hb]
    rw [((kq1 hk h0).1 e).1] at hp
    by_cases c1 : (r : Int) ≥ R
    · simp only [f1, h2, h4, c1, zeros, fillAt, go_sem]
      exact (tB_f fun k => by have := k.1; omega).symm
    have vv : ∀ {v}, getK m (qK r) = some v → v = p.v := fun k => by rw [hp] at k; exact (Option.some.inj k).symm
    by_cases c2 : (p.v.size : Int) > 9
    · simp only [f1, h2, h4, c1, c2, zeros, fillAt, go_sem]
      refine (tB_f fun k => ?_).symm
      obtain ⟨v, n, k1, k2, _⟩ := k.2
      have := k2.1
      rw [vv k1] at this
      omega
    simp only [f1, h2, h4, c1, c2, zeros, fillAt, go_sem]
    refine w_for p.v.size (fun i t loc h' => h' = h ∧ t 0 = mv ∧ loc 3 = some [.string p.k, .string p.v] ∧ t 5 = .int .i64 (r : Int) ∧ t 40 = .int .i64 (p.v.size : Int) ∧ t 41 = .int .i64 (i : Int) ∧ ∀ j, j < i → poolAt m p.v j) ⟨rfl, rfl, rfl, rfl, rfl, rfl, fun j hj => by omega⟩ ?_
    rintro i t loc h' hi ⟨rfl, t0, l3, t5, t40, t41, hj⟩
    simp only [t40, t41, go_sem]
    refine w_open (by simp only [go_sem]; rfl) ?_ ?_ <;> intro hc
    · have hi1 : i < p.v.size := by omega
      have hw : IntKind.i64.wrap ((i : Int) + 1) = ((i + 1 : Nat) : Int) := w64 (by omega) (by omega)
      have bad : ¬ poolAt m p.v i → tB (r < R ∧ RoundI cfR m r) = false := fun hb => tB_f fun k => by
        obtain ⟨v, n, k1, k2, _⟩ := k.2
        rw [vv k1] at k2
        exact hb (k2.2 i hi1)
      have e0 : ixV (.string p.v) (.int .i64 i) = some (.int .u8 (byt p.v i : Nat)) := ix_byt hi1
      have b0 := byt_lt (s := p.v) (i := i)
      have w0 : IntKind.i64.wrap ((byt p.v i : Nat) : Int) = ((byt p.v i : Nat) : Int) := w64 (by omega) (by omega)
      have hj1 := k_impl_joined (X := X) (i := byt p.v i) (by omega) hm hl
      by_cases c3 : Jn m (byt p.v i)
      rotate_left
      · rw [tB_f c3] at hj1
        simp only [t0, l3, t5, t40, t41, e0, w0, hj1, go_sem]
        exact (bad fun k => c3 k.1).symm
      rw [tB_t c3] at hj1
      by_cases c4 : (i : Int) > 0
      rotate_left
      · simp only [t0, l3, t5, t40, t41, e0, w0, hj1, c4, hw, go_sem]
        refine ⟨hi1, fun j hj' => ?_⟩
        by_cases e : j = i
        · rw [e]; exact ⟨c3, fun q => by omega⟩
        · exact hj j (by omega)
      have hw' : IntKind.i64.wrap ((i : Int) - 1) = ((i - 1 : Nat) : Int) := by rw [w64 (by omega) (by omega)]; omega
      have e1 : ixV (.string p.v) (.int .i64 ((i - 1 : Nat) : Int)) = some (.int .u8 (byt p.v (i - 1) : Nat)) := ix_byt (by omega)
      by_cases c5 : ((byt p.v (i - 1) : Nat) : Int) ≥ ((byt p.v i : Nat) : Int)
      · simp only [t0, l3, t5, t40, t41, e0, e1, w0, hj1, c4, c5, hw', go_sem]
        exact (bad fun k => by have := k.2 (by omega); omega).symm
      · simp only [t0, l3, t5, t40, t41, e0, e1, w0, hj1, c4, c5, hw, hw', go_sem]
        refine ⟨hi1, fun j hj' => ?_⟩
        by_cases e : j = i
        · rw [e]; exact ⟨c3, fun q => by omega⟩
        · exact hj j (by omega)
    have hpool : PoolIs m p.v := ⟨by omega, fun j hj' => hj j (by omega)⟩
    obtain ⟨n, hn⟩ := parts_ex m r
    have hn100 := hn.1
    have h5 := k_impl_certOf (X := X) (r := r) (by omega) hn hs hm hl
    have s1 := partsL_size hs (r := r) (n := n)
    obtain ⟨tx, htx⟩ : ∃ tx, tx = catB (partsL m r n) := ⟨_, rfl⟩
    rw [← htx] at h5 s1
    have bad : ¬ (cut tx = partsL m r n ∧ cfR tx p.v.size) → tB (r < R ∧ RoundI cfR m r) = false := fun hb => tB_f fun k => by
      obtain ⟨v, n', k1, k2, k3, k4, k5⟩ := k.2
      have := hn.one k3
      subst this
      rw [vv k1, ← htx] at k5
      rw [← htx] at k4
      exact hb ⟨k4, k5⟩
    obtain ⟨v6, h6, c6, p6, ew, mw, yw, gw, rfl, -⟩ := k_impl_ReadCert (X := X) (h := h') (s := tx) (by omega)
    obtain ⟨v7, h7, c7, p7, o7⟩ := k_impl_CertParts (X := X) (h := h6) (s0 := tx) (by omega)
    have hp7 := p6.trans p7
    have hln : lnV h7 v7 = some (.int .i64 ((cut tx).length : Int)) := o7.rows.lnm
    cases c8 : (rdI tx).ok with
    | false =>
      rw [c8] at c6
      unfold certV at c6
      simp only [t0, l3, t5, h5, c6, c7, hln, zeros, fillAt, go_sem]
      rw [bad fun k => by have := k.2.1; rw [c8] at this; cases this]
      exact finish_flat rfl hp7
    | true =>
      rw [c8] at c6
      unfold certV at c6
      by_cases c9 : (rdI tx).size = (p.v.size : Int)
      rotate_left
      · simp only [t0, l3, t5, h5, c6, c7, c9, hln, zeros, fillAt, go_sem]
        rw [bad fun k => c9 k.2.2]
        exact finish_flat rfl hp7
      by_cases c10 : ((cut tx).length : Int) = n
      rotate_left
      · simp only [t0, l3, t5, h5, c6, c7, c9, c10, hln, zeros, fillAt, go_sem]
        rw [bad fun k => c10 (by rw [k.1, partsL_len])]
        exact finish_flat rfl hp7
      simp only [t0, l3, t5, h5, c6, c7, c9, c10, hln, zeros, fillAt, go_sem]
      refine w_for n (fun i t loc h' => h' = h7 ∧ t 0 = mv ∧ t 5 = .int .i64 (r : Int) ∧ t 99 = v7 ∧ t 100 = .int .i64 (n : Int) ∧ t 101 = .int .i64 (i : Int) ∧ ∀ j, j < i → (cut tx).getD j noT = partV m r j) ⟨rfl, rfl, rfl, rfl, rfl, rfl, fun j hj => by omega⟩ ?_
      clear t0 l3 t5 t40 t41
      rintro i2 t2 loc2 h8 hi2 ⟨rfl, t0, t5, t99, t100, t101, hj2⟩
      simp only [t100, t101, go_sem]
      refine w_open (by simp only [go_sem]; rfl) ?_ ?_ <;> intro hc2
      · have hi3 : i2 < n := by omega
        have hw : IntKind.i64.wrap ((i2 : Int) + 1) = ((i2 + 1 : Nat) : Int) := w64 (by omega) (by omega)
        have h22 := k_impl_two (X := X) (h := h8) (n := r) (by omega)
        have h23 := k_impl_two (X := X) (h := h8) (n := i2) (by omega)
        have hz := twoT_size (n := r) (by omega)
        have hz' := twoT_size (n := i2) (by omega)
        have hz1 : (⟨[114]⟩ : Array UInt8).size + (twoT r).size ≤ 9223372036854775807 := by rw [asz]; omega
        have hz2 := r3_size (r := r) (by omega)
        have hz3 : (strOfNums (114 :: twoL r)).size + (twoT i2).size ≤ 9223372036854775807 := by omega
        have hg := k_impl_get (X := X) (k := rK r i2) (hm.up hp7) hl
        unfold getV at hg
        have el := o7.rows.el (f := txR) noT (i := i2) (by omega)
        have cl := o7.rows.cell (f := txR) noT (i := i2) (o := 0) (by omega) (by omega)
        obtain ⟨q, hq⟩ : ∃ q, q = (cut tx).getD i2 noT := ⟨_, rfl⟩
        rw [← hq] at el cl
        have k0 : ldC h8 (elemP v7 1 i2 0) 1 = some [.string q] := cl
        by_cases c11 : (getK m (rK r i2)).getD noT = q
        · have c11' : (((getK m (rK r i2)).getD noT).toList == q.toList) = true := by rw [str_eq]; exact decide_eq_true c11
          simp only [t0, t5, t99, t100, t101, el.1, k0, h22, h23, hz1, r3_app, hz3, rK_app', hg, c11', hw, go_sem]
          refine ⟨hi3, fun j hj' => ?_⟩
          by_cases e : j = i2
          · rw [e, ← hq, ← c11]; rfl
          · exact hj2 j (by omega)
        · have c11' : (((getK m (rK r i2)).getD noT).toList == q.toList) = false := by rw [str_eq]; exact decide_eq_false c11
          simp only [t0, t5, t99, t100, t101, el.1, k0, h22, h23, hz1, r3_app, hz3, rK_app', hg, c11', go_sem]
          rw [bad fun k => c11 (by rw [hq, k.1, partsL_get hi3]; rfl)]
          exact finish_flat rfl hp7
      · simp only [go_sem]
        rw [tB_t ⟨by omega, p.v, n, hp, hpool, hn, by
          rw [← htx]
          exact ext_getD (d := noT) (by rw [partsL_len]; omega) fun i hi => by rw [hj2 i (by omega), partsL_get (by omega)], by rw [← htx]; exact ⟨c8, c9⟩⟩]
        exact finish_flat rfl hp7
/-- What an entry of a state says. -/
def EntI (m : List Pr) (R : Nat) (p : Pr) : Prop := IdOk R p ∨ LinkI m p ∨ PoolI m R p ∨ PartI m R p
theorem ent_v (h : byt p.k 0 = 118) : EntI m R p ↔ IdOk R p := by
  refine ⟨fun k => ?_, .inl⟩
  rcases k with k | ⟨a, b, _, _, k, _⟩ | ⟨r, _, k, _⟩ | ⟨r, i, _, _, k, _⟩
  · exact k
  · rw [k, eK_0] at h; omega
  · rw [k, qK_0] at h; omega
  · rw [k, rK_0] at h; omega
theorem ent_e (h : byt p.k 0 = 101) : EntI m R p ↔ LinkI m p := by
  refine ⟨fun k => ?_, fun k => .inr (.inl k)⟩
  rcases k with ⟨i, _, k, _⟩ | k | ⟨r, _, k, _⟩ | ⟨r, i, _, _, k, _⟩
  · rw [k, vK_0] at h; omega
  · exact k
  · rw [k, qK_0] at h; omega
  · rw [k, rK_0] at h; omega
theorem ent_q (h : byt p.k 0 = 113) : EntI m R p ↔ PoolI m R p := by
  refine ⟨fun k => ?_, fun k => .inr (.inr (.inl k))⟩
  rcases k with ⟨i, _, k, _⟩ | ⟨a, b, _, _, k, _⟩ | k | ⟨r, i, _, _, k, _⟩
  · rw [k, vK_0] at h; omega
  · rw [k, eK_0] at h; omega
  · exact k
  · rw [k, rK_0] at h; omega
theorem ent_r (h : byt p.k 0 = 114) : EntI m R p ↔ PartI m R p := by
  refine ⟨fun k => ?_, fun k => .inr (.inr (.inr k))⟩
  rcases k with ⟨i, _, k, _⟩ | ⟨a, b, _, _, k, _⟩ | ⟨r, _, k, _⟩ | k
  · rw [k, vK_0] at h; omega
  · rw [k, eK_0] at h; omega
  · rw [k, qK_0] at h; omega
  · exact k
theorem ent_no (h1 : ¬ byt p.k 0 = 118) (h2 : ¬ byt p.k 0 = 101) (h3 : ¬ byt p.k 0 = 113) (h4 : ¬ byt p.k 0 = 114) : ¬ EntI m R p := by
  rintro (⟨i, _, k, _⟩ | ⟨a, b, _, _, k, _⟩ | ⟨r, _, k, _⟩ | ⟨r, i, _, _, k, _⟩)
  · rw [k, vK_0] at h1; omega
  · rw [k, eK_0] at h2; omega
  · rw [k, qK_0] at h3; omega
  · rw [k, rK_0] at h4; omega
theorem stI_iff (hR : IsRnd m R) : StI cfR m ↔ MapIs m ∧ R ≤ 6 ∧ ∀ i, i < m.length → EntI m R (m.getD i p0) := by
  have key : ∀ p, EntI m R p ↔ (IdOk R p ∨ LinkI m p ∨ (∃ r, r < R ∧ p.k = qK r ∧ RoundI cfR m r) ∨ ∃ r i n, r < R ∧ i < 100 ∧ p.k = rK r i ∧ IsParts m r n ∧ i < n) := fun p => by
    refine or_congr Iff.rfl (or_congr Iff.rfl (or_congr Iff.rfl ⟨?_, ?_⟩))
    · rintro ⟨r, i, h1, h2, h3, n, h4, h5⟩; exact ⟨r, i, n, h1, h2, h3, h4, h5⟩
    · rintro ⟨r, i, n, h1, h2, h3, h4, h5⟩; exact ⟨r, i, h1, h2, h3, n, h4, h5⟩
  constructor
  · rintro ⟨h1, R', h2, h3, h4⟩
    have := h3.one hR
    subst this
    exact ⟨h1, h2, fun i hi => (key _).2 (h4 _ (getD_mem hi))⟩
  · rintro ⟨h1, h2, h3⟩
    refine ⟨h1, R, h2, hR, fun p hp => (key p).1 ?_⟩
    obtain ⟨i, hi, e⟩ := List.mem_iff_getElem.1 hp
    have := h3 i hi
    rw [List.getD_eq_getElem?_getD, List.getElem?_eq_getElem hi, Option.getD_some, e] at this
    exact this
theorem k_impl_StateOk (hm : Rows h 2 mv (prsL m)) (hl : m.length ≤ lim) : C T X n_impl_StateOk [mv] h = some (.bool (tB (StI cfR m)), h) := by
  obtain ⟨R, hR⟩ := rnd_ex m
  rw [tB_iff (stI_iff hR)]
  have h1 := k_impl_MapOk (X := X) hm hl
  have h4 := k_impl_roundsOf (X := X) hm hl hR
  refine C_go t_impl_StateOk rfl ?_
  unfold F_impl_StateOk
  by_cases c1 : MapIs m
  rotate_left
  · rw [tB_f c1] at h1
    simp only [h1, go_sem]
    exact (tB_f fun k => c1 k.1).symm
  rw [tB_t c1] at h1
  by_cases c2 : R ≤ 6
  rotate_left
  · have c2' : ((min R 7 : Nat) : Int) > 6 := by omega
    simp only [h1, h4, c2', go_sem]
    exact (tB_f fun k => c2 k.2.1).symm
  have c2' : ¬ ((min R 7 : Nat) : Int) > 6 := by omega
  have hs : ∀ p ∈ m, p.v.size ≤ 40 := fun p hp => by
    obtain ⟨i, hi, e⟩ := List.mem_iff_getElem.1 hp
    have := (c1.2 i hi).1.2
    rw [List.getD_eq_getElem?_getD, List.getElem?_eq_getElem hi, Option.getD_some, e] at this
    exact this
  have hlen := c1.1
  simp only [h1, h4, c2', hm.lnm, zeros, fillAt, go_sem]
  refine w_for m.length (fun i t loc h' => h' = h ∧ t 0 = mv ∧ t 14 = mv ∧ t 15 = .int .i64 (m.length : Int) ∧ t 16 = .int .i64 (i : Int) ∧ ∀ j, j < i → EntI m R (m.getD j p0)) ⟨rfl, rfl, rfl, rfl, rfl, fun j hj => by omega⟩ ?_
  rintro i t loc h' hi ⟨rfl, t0, t14, t15, t16, hj⟩
  simp only [t15, t16, go_sem]
  refine w_open (by simp only [go_sem]; rfl) ?_ ?_ <;> intro hc
  · have hi1 : i < m.length := by omega
    have hw : IntKind.i64.wrap ((i : Int) + 1) = ((i + 1 : Nat) : Int) := w64 (by omega) (by omega)
    have bad : ¬ EntI m R (m.getD i p0) → tB (MapIs m ∧ R ≤ 6 ∧ ∀ i, i < m.length → EntI m R (m.getD i p0)) = false := fun hb => tB_f fun k => hb (k.2.2 i hi1)
    have good : EntI m R (m.getD i p0) → ∀ j, j < i + 1 → EntI m R (m.getD j p0) := fun hg j hj' => by
      by_cases e : j = i
      · rw [e]; exact hg
      · exact hj j (by omega)
    have el := hm.el (f := prR) p0 hi1
    have hks := (c1.2 i hi1).1
    have hgk := c1.get hi1
    have hsq := hks.2
    obtain ⟨q, hq⟩ : ∃ q, q = m.getD i p0 := ⟨_, rfl⟩
    rw [← hq] at el hks hgk bad good hsq
    have e0 : ixV (.string q.k) (.int .i64 0) = some (.int .u8 (byt q.k 0 : Nat)) := ix_byt (i := 0) (by omega)
    by_cases b1 : ((byt q.k 0 : Nat) : Int) = 118
    · have hc1 := k_impl_idOk (X := X) hm hl hR c2 hks.1.1 (by omega) hks.2
      have hi2 := ent_v (m := m) (R := R) (p := q) (by omega)
      by_cases g : IdOk R q
      · rw [tB_t g] at hc1
        simp only [t0, t14, t15, t16, el.1, el.2.1, el.2.2, prR, e0, b1, hc1, hw, zeros, fillAt, go_sem]
        exact ⟨hi1, good (hi2.2 g)⟩
      · rw [tB_f g] at hc1
        simp only [t0, t14, t15, t16, el.1, el.2.1, el.2.2, prR, e0, b1, hc1, hw, zeros, fillAt, go_sem]
        exact (bad fun k => g (hi2.1 k)).symm
    by_cases b2 : ((byt q.k 0 : Nat) : Int) = 101
    · have hc1 := k_impl_linkOk (X := X) (p := q) hm hl (by omega)
      have hi2 := ent_e (m := m) (R := R) (p := q) (by omega)
      by_cases g : LinkI m q
      · rw [tB_t g] at hc1
        simp only [t0, t14, t15, t16, el.1, el.2.1, el.2.2, prR, e0, b1, b2, hc1, hw, zeros, fillAt, go_sem]
        exact ⟨hi1, good (hi2.2 g)⟩
      · rw [tB_f g] at hc1
        simp only [t0, t14, t15, t16, el.1, el.2.1, el.2.2, prR, e0, b1, b2, hc1, hw, zeros, fillAt, go_sem]
        exact (bad fun k => g (hi2.1 k)).symm
    by_cases b3 : ((byt q.k 0 : Nat) : Int) = 113
    · have hc1 := k_impl_poolOk (X := X) (p := q) hm hl hR c2 hs hks.1.1 (by omega) hgk
      have hi2 := ent_q (m := m) (R := R) (p := q) (by omega)
      by_cases g : PoolI m R q
      · rw [tB_t g] at hc1
        simp only [t0, t14, t15, t16, el.1, el.2.1, el.2.2, prR, e0, b1, b2, b3, hc1, hw, zeros, fillAt, go_sem]
        exact ⟨hi1, good (hi2.2 g)⟩
      · rw [tB_f g] at hc1
        simp only [t0, t14, t15, t16, el.1, el.2.1, el.2.2, prR, e0, b1, b2, b3, hc1, hw, zeros, fillAt, go_sem]
        exact (bad fun k => g (hi2.1 k)).symm
    by_cases b4 : ((byt q.k 0 : Nat) : Int) = 114
    · have hc1 := k_impl_partOk (X := X) (p := q) hm hl hR c2 hs (by omega)
      have hi2 := ent_r (m := m) (R := R) (p := q) (by omega)
      by_cases g : PartI m R q
      · rw [tB_t g] at hc1
        simp only [t0, t14, t15, t16, el.1, el.2.1, el.2.2, prR, e0, b1, b2, b3, b4, hc1, hw, zeros, fillAt, go_sem]
        exact ⟨hi1, good (hi2.2 g)⟩
      · rw [tB_f g] at hc1
        simp only [t0, t14, t15, t16, el.1, el.2.1, el.2.2, prR, e0, b1, b2, b3, b4, hc1, hw, zeros, fillAt, go_sem]
        exact (bad fun k => g (hi2.1 k)).symm
    · simp only [t0, t14, t15, t16, el.1, el.2.1, el.2.2, prR, e0, b1, b2, b3, b4, hw, zeros, fillAt, go_sem]
      exact (bad (ent_no (by omega) (by omega) (by omega) (by omega))).symm
  · simp only [go_sem]
    exact (tB_t ⟨c1, c2, fun j hj' => hj j (by omega)⟩).symm
end
end Go.Proofs.YtgmljppiiighmaaGreatDoor.Ab
