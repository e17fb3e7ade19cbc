/- The law FnExactCertParts holds of all texts: the program's CertParts and the reference's cut a text into the same parts, and the parts are new memory. No conditions beyond the form's own. -/
import Derived.Test.YtlndlccbecnjoaaPFnExactCertPartsx2
namespace Go.Proofs.Ytlndlccbecnjoaa.Pure
open Go.RowKit Go.Proofs.Ytlndlccbecnjoaa.PFnExactCertParts Go.Proofs.YtlndlccbecnjoaaW.PrintWords Go.Proofs.YtlndlccbecnjoaaW.PrintLast

theorem w64_in {n : Int} (h0 : -9223372036854775808 ≤ n) (h1 : n ≤ 9223372036854775807) : wrap64 n = n := by
  unfold wrap64
  omega

/-- From a natural measure: a text of a counter is there. -/
theorem markText_l (d : Nat) : ∀ (n : Int) (s : ByteArray), 0 ≤ n → n < 9223372036854775807 → n.toNat ≤ d → (s.size : Int) + n ≤ 9223372036854775800 →
    ∃ t, Ev (fun k => laws_markText.l0 k n s) t := by
  induction d with
  | zero =>
    intro n s h0 h1 hd hs
    have : n = 0 := by omega
    subst this
    refine ⟨_, Ev.step (f := fun _ => some ((⟨#[109]⟩ : ByteArray) ++ s)) (fun k => ?_) (Ev.now _)⟩
    simp only [laws_markText.l0]
    rw [if_neg (by omega), if_pos (by omega)]
  | succ d ih =>
    intro n s h0 h1 hd hs
    by_cases hn : 0 < n
    · have e1 : Int.tdiv n 10 = n / 10 := by rw [Int.tdiv_eq_ediv_of_nonneg h0]
      have e2 : wrap64 (Int.tdiv n 10) = n / 10 := by rw [e1]; exact w64_in (by omega) (by omega)
      have hsz : ∀ x : Int, (strOfNums [x]).size = 1 := fun x => by simp [strOfNums, ByteArray.size]
      obtain ⟨t, ht⟩ := ih (n / 10) (strOfNums [(wrap64 (48 + (Int.tmod n 10))) % 256] ++ s) (by omega) (by omega) (by omega) (by
        rw [ByteArray.size_append, hsz]; omega)
      refine ⟨t, Ev.step (fun k => ?_) ht⟩
      simp only [laws_markText.l0]
      rw [if_pos hn]
      simp only [Option.bind_some]
      rw [if_pos (by rw [hsz]; omega), e2]
    · have : n = 0 := by omega
      subst this
      refine ⟨_, Ev.step (f := fun _ => some ((⟨#[109]⟩ : ByteArray) ++ s)) (fun k => ?_) (Ev.now _)⟩
      simp only [laws_markText.l0]
      rw [if_neg (by omega), if_pos (by omega)]

theorem markText_some (n : Int) (h1 : n < 9223372036854775000) : ∃ t, Ev (fun k => laws_markText.f k n) t := by
  by_cases h : n ≤ 0
  · exact ⟨_, Ev.congr (f := fun _ => some (⟨#[109, 48]⟩ : ByteArray)) (fun k => by unfold laws_markText.f; rw [if_pos h]) (Ev.now _)⟩
  · obtain ⟨t, ht⟩ := markText_l n.toNat n ⟨#[]⟩ (by omega) (by omega) (Nat.le_refl _) (by
      show ((0 : Nat) : Int) + n ≤ _
      omega)
    exact ⟨t, Ev.congr (fun k => by unfold laws_markText.f; rw [if_neg h]) ht⟩

noncomputable def markT (n : Int) : ByteArray := if h : n < 9223372036854775000 then Classical.choose (markText_some n h) else ⟨#[]⟩
theorem markT_ev {n : Int} (h : n < 9223372036854775000) : Ev (fun k => laws_markText.f k n) (markT n) := by
  unfold markT
  rw [dif_pos h]
  exact Classical.choose_spec (markText_some n h)

theorem mark_l (d : Nat) : ∀ (l : List ByteArray) (c i : Nat), l.length - i = d → i ≤ l.length → l.length ≤ 1099511627776 → c + d ≤ 2199023255552 →
    ∃ l', Ev (fun k => laws_markStringS.l0 k l c i) (((c + (l.length - i) : Nat) : Int), l') ∧ l'.length = l.length ∧ (∀ j, j < i → l'.getD j ByteArray.empty = l.getD j ByteArray.empty) ∧
      ∀ j, i ≤ j → j < l.length → l'.getD j ByteArray.empty = markT ((c + (j - i) : Nat) : Int) := by
  induction d with
  | zero =>
    intro l c i hd hi hl hc
    refine ⟨l, Ev.step (f := fun _ => some ((c : Int), l)) (fun k => ?_) (by rw [hd]; exact Ev.now _), rfl, fun _ _ => rfl, fun j h1 h2 => by omega⟩
    simp only [laws_markStringS.l0]
    rw [if_neg (by omega)]
  | succ d ih =>
    intro l c i hd hi hl hc
    obtain ⟨l', h1, h2, h3, h4⟩ := ih (l.set i (markT (c : Int))) (c + 1) (i + 1) (by rw [List.length_set]; omega) (by rw [List.length_set]; omega) (by rw [List.length_set]; omega) (by omega)
    rw [List.length_set] at h1 h2 h4
    refine ⟨l', Ev.step (f := fun k => (laws_markText.f k c).bind fun t => laws_markStringS.l0 k (l.set i t) ((c + 1 : Nat) : Int) ((i + 1 : Nat) : Int)) (fun k => ?_) (Ev.bind (markT_ev (by omega)) ?_), h2, fun j hj => ?_, fun j hj hjl => ?_⟩
    · simp only [laws_markStringS.l0]
      rw [if_pos (by omega)]
      congr 1
      funext t
      rw [if_pos (by omega), w64_in (by omega) (by omega), w64_in (by omega) (by omega)]
      rfl
    · rw [show c + (l.length - i) = c + 1 + (l.length - (i + 1)) by omega]
      exact h1
    · rw [h3 j (by omega)]
      simp only [List.getD_eq_getElem?_getD]
      rw [List.getElem?_set_ne (by omega)]
    · by_cases e : j = i
      · subst e
        rw [h3 j (by omega), show c + (j - j) = c by omega]
        simp only [List.getD_eq_getElem?_getD]
        rw [List.getElem?_set_self (by omega), Option.getD_some]
      · rw [h4 j (by omega) hjl, show c + 1 + (j - (i + 1)) = c + (j - i) by omega]

theorem held_l (d : Nat) : ∀ (l : List ByteArray) (c i : Nat), l.length - i = d → i ≤ l.length → l.length ≤ 1099511627776 → c + d ≤ 2199023255552 →
    (∀ j, i ≤ j → j < l.length → l.getD j ByteArray.empty = markT ((c + (j - i) : Nat) : Int)) →
    Ev (fun k => laws_heldStringS.l0 k l c i) ((c + (l.length - i) : Nat) : Int) := by
  induction d with
  | zero =>
    intro l c i hd hi hl hc _
    refine Ev.step (f := fun _ => some (c : Int)) (fun k => ?_) (by rw [hd]; exact Ev.now _)
    simp only [laws_heldStringS.l0]
    rw [if_neg (by omega)]
  | succ d ih =>
    intro l c i hd hi hl hc hm
    refine Ev.step (f := fun k => (laws_markText.f k c).bind fun t => if (rdOf ByteArray.empty l i).toList = t.toList then laws_heldStringS.l0 k l ((c + 1 : Nat) : Int) ((i + 1 : Nat) : Int) else some (-1)) (fun k => ?_) (Ev.bind (markT_ev (by omega)) ?_)
    · simp only [laws_heldStringS.l0]
      rw [if_pos (by omega), if_pos (by omega), w64_in (by omega) (by omega), w64_in (by omega) (by omega)]
      rfl
    · have h := hm i (Nat.le_refl _) (by omega)
      rw [show c + (i - i) = c by omega] at h
      have e : rdOf ByteArray.empty l (i : Int) = markT (c : Int) := by unfold rdOf; rw [Int.toNat_natCast]; exact h
      have := ih l (c + 1) (i + 1) (by omega) (by omega) (by omega) (by omega) (fun j h1 h2 => by rw [hm j (by omega) h2, show c + 1 + (j - (i + 1)) = c + (j - i) by omega])
      rw [show c + (l.length - i) = c + 1 + (l.length - (i + 1)) by omega]
      simp only [e, if_true]
      exact this

theorem eq_l (l : List ByteArray) (hl : l.length ≤ 1099511627776) (d : Nat) : ∀ i : Nat, l.length - i = d → i ≤ l.length → Ev (fun k => laws_eqStringS.l0 k l l i) true := by
  induction d with
  | zero =>
    intro i hd hi
    refine Ev.step (f := fun _ => some true) (fun k => ?_) (Ev.now _)
    simp only [laws_eqStringS.l0]
    rw [if_neg (by omega)]
  | succ d ih =>
    intro i hd hi
    refine Ev.step (fun k => ?_) (ih (i + 1) (by omega) (by omega))
    simp only [laws_eqStringS.l0]
    rw [if_pos (by omega), if_pos (by omega), if_pos (by omega), if_true, w64_in (by omega) (by omega)]
    rfl

theorem eqS (l : List ByteArray) (hl : l.length ≤ 1099511627776) : Ev (fun k => laws_eqStringS.f k l l) true :=
  Ev.congr (fun k => by unfold laws_eqStringS.f; rw [if_pos rfl]; rfl) (eq_l l hl l.length 0 rfl (Nat.zero_le _))

theorem parts_ev (d : Nat) : ∀ (s : ByteArray) (o : List ByteArray), s.size = d → (o.length : Int) + d ≤ 1000000000000 →
    ∃ l, Ev (fun k => spec_CertParts.l0 k s o) l ∧ Ev (fun k => impl_CertParts.l0 k s o) l ∧ l.length ≤ o.length + d := by
  induction d using Nat.strongRecOn with
  | _ d ih =>
    intro s o hd ho
    by_cases h : (s.size : Int) > 40
    · have hs : (s.extract 40 s.size).size = d - 40 := by rw [ByteArray.size_extract]; omega
      obtain ⟨l, h1, h2, h3⟩ := ih (d - 40) (by omega) (s.extract 40 s.size) (o ++ [s.extract 0 40]) hs (by rw [List.length_append, List.length_singleton]; omega)
      rw [List.length_append, List.length_singleton] at h3
      refine ⟨l, Ev.step (fun k => ?_) h1, Ev.step (fun k => ?_) h2, by omega⟩
      · simp only [spec_CertParts.l0]
        rw [if_pos h, if_pos (by omega), if_pos (by omega), if_pos (by omega)]
      · simp only [impl_CertParts.l0]
        rw [if_pos h, if_pos (by omega), if_pos (by omega), if_pos (by omega)]
    · by_cases h0 : (s.size : Int) > 0
      · refine ⟨o ++ [s], Ev.step (f := fun _ => some (o ++ [s])) (fun k => ?_) (Ev.now _), Ev.step (f := fun _ => some (o ++ [s])) (fun k => ?_) (Ev.now _), by rw [List.length_append, List.length_singleton]; omega⟩
        · simp only [spec_CertParts.l0]
          rw [if_neg h, if_pos h0, if_pos (by omega)]
        · simp only [impl_CertParts.l0]
          have hne : ¬ s.toList = ([] : List UInt8) := by
            intro e
            have := congrArg List.length e
            rw [Go.ByteArray.toList_eq] at this
            simp only [Array.length_toList, List.length_nil] at this
            have hz : s.size = 0 := this
            omega
          rw [if_neg h, if_neg hne, if_pos (by omega)]
      · refine ⟨o, Ev.step (f := fun _ => some o) (fun k => ?_) (Ev.now _), Ev.step (f := fun _ => some o) (fun k => ?_) (Ev.now _), by omega⟩
        · simp only [spec_CertParts.l0]
          rw [if_neg h, if_neg h0]
        · simp only [impl_CertParts.l0]
          have he : s.toList = ([] : List UInt8) := by
            rw [Go.ByteArray.toList_eq]
            apply List.eq_nil_of_length_eq_zero
            rw [Array.length_toList]
            show s.size = 0
            omega
          rw [if_neg h, if_pos he]

theorem FnExactCertParts : laws_FnExactCertParts.Pure := by
  intro s _
  refine Ev.rounds ?_
  by_cases hs : (s.size : Int) > 1048576
  · exact Ev.congr (f := fun _ => some true) (fun k => by unfold laws_FnExactCertParts.f; rw [if_pos hs]) (Ev.now _)
  · obtain ⟨l, h1, h2, h3⟩ := parts_ev s.size s [] rfl (by simp only [List.length_nil]; omega)
    simp only [List.length_nil] at h3
    have hl : l.length ≤ 1099511627776 := by omega
    obtain ⟨l', m1, m2, _, m4⟩ := mark_l l.length l 1 0 (by omega) (by omega) hl (by omega)
    have hh := held_l l'.length l' 1 0 (by omega) (by omega) (by omega) (by omega) (fun j h1 h2 => m4 j h1 (by omega))
    rw [m2] at hh
    refine Ev.congr (fun k => by unfold laws_FnExactCertParts.f; rw [if_neg hs]) ?_
    refine Ev.bind (a := l) h1 (Ev.bind (a := l) h2 (Ev.bind (eqS l hl) ?_))
    simp only [if_true]
    refine Ev.bind (a := (((1 + (l.length - 0) : Nat) : Int), l')) m1 (Ev.bind (a := ((1 + (l.length - 0) : Nat) : Int)) hh ?_)
    have hp : ¬ ((1 + (l.length - 0) : Nat) : Int) < 0 := by omega
    simp only [if_neg hp, if_true]
    refine Ev.bind (a := l) h2 (Ev.bind (eqS l hl) ?_)
    simp only [if_true]
    refine Ev.bind (a := ((1 + (l.length - 0) : Nat) : Int)) hh ?_
    simp only [if_neg hp]
    exact Ev.now _

end Go.Proofs.Ytlndlccbecnjoaa.Pure
