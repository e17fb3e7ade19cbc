/- Plain lists: pairings of a graph, and the greatest of them. No conditions. -/
import Derived.Test.YtioogligololoaaP2
set_option linter.unusedSimpArgs false
set_option linter.unusedVariables false
set_option linter.unnecessarySimpa false
set_option maxHeartbeats 4000000
namespace Go.Proofs.Ytioogligololoaa.Ab
open Go.RowKit

/-- Two edges without a vertex of both. -/
def Apart (e f : E) : Prop := e.a ≠ f.a ∧ e.a ≠ f.b ∧ e.b ≠ f.a ∧ e.b ≠ f.b
theorem Apart.symm {e f : E} (h : Apart e f) : Apart f e := ⟨fun x => h.1 x.symm, fun x => h.2.2.1 x.symm, fun x => h.2.1 x.symm, fun x => h.2.2.2 x.symm⟩
/-- A pairing, of vertices that may be taken. -/
def Mt (es : List E) (P : Int → Prop) (l : List E) : Prop := (∀ e ∈ l, e ∈ es ∧ P e.a ∧ P e.b) ∧ l.Pairwise Apart
/-- So many couples are the most. -/
def Most (es : List E) (P : Int → Prop) (w : Nat) : Prop := (∃ l, Mt es P l ∧ l.length = w) ∧ ∀ l, Mt es P l → l.length ≤ w

theorem Most.eq {es : List E} {P : Int → Prop} {w w' : Nat} (h : Most es P w) (h' : Most es P w') : w = w' := by
  obtain ⟨⟨l, a, b⟩, c⟩ := h
  obtain ⟨⟨l', a', b'⟩, c'⟩ := h'
  have := c l' a'
  have := c' l a
  omega
theorem Mt.imp {es fs : List E} {P Q : Int → Prop} {l : List E} (h : Mt es P l) (hi : ∀ e ∈ es, P e.a → P e.b → e ∈ fs ∧ Q e.a ∧ Q e.b) : Mt fs Q l :=
  ⟨fun e he => hi e (h.1 e he).1 (h.1 e he).2.1 (h.1 e he).2.2, h.2⟩
theorem Most.congr {es fs : List E} {P Q : Int → Prop} {w : Nat} (h : Most es P w) (h1 : ∀ e ∈ es, P e.a → P e.b → e ∈ fs ∧ Q e.a ∧ Q e.b) (h2 : ∀ e ∈ fs, Q e.a → Q e.b → e ∈ es ∧ P e.a ∧ P e.b) : Most fs Q w := by
  obtain ⟨⟨l, a, b⟩, c⟩ := h
  exact ⟨⟨l, a.imp h1, b⟩, fun l hl => c l (hl.imp h2)⟩
theorem mt_nil {es : List E} {P : Int → Prop} : Mt es P [] := ⟨fun _ h => absurd h List.not_mem_nil, List.Pairwise.nil⟩
theorem most_none {es : List E} {P : Int → Prop} (h : ∀ e ∈ es, ¬ (P e.a ∧ P e.b)) : Most es P 0 := by
  refine ⟨⟨[], mt_nil, rfl⟩, fun l hl => ?_⟩
  cases l with
  | nil => exact Nat.le_refl 0
  | cons e l => exact absurd (hl.1 e List.mem_cons_self).2 (h e (hl.1 e List.mem_cons_self).1)
/-- An edge more. -/
theorem mt_cons {es : List E} {P : Int → Prop} {e : E} {l : List E} (he : e ∈ es) (ha : P e.a) (hb : P e.b) (h : Mt es (fun v => P v ∧ v ≠ e.a ∧ v ≠ e.b) l) : Mt es P (e :: l) := by
  refine ⟨fun f hf => ?_, ?_⟩
  · cases List.mem_cons.1 hf with
    | inl q => exact q ▸ ⟨he, ha, hb⟩
    | inr q => exact ⟨(h.1 f q).1, (h.1 f q).2.1.1, (h.1 f q).2.2.1⟩
  · refine List.pairwise_cons.2 ⟨fun f hf => ?_, h.2⟩
    have := h.1 f hf
    exact ⟨fun x => this.2.1.2.1 x.symm, fun x => this.2.2.2.1 x.symm, fun x => this.2.1.2.2 x.symm, fun x => this.2.2.2.2 x.symm⟩
/-- An edge less. -/
theorem mt_split {es : List E} {P : Int → Prop} {e : E} {l : List E} (h : Mt es P l) (he : e ∈ l) : ∃ m, Mt es (fun v => P v ∧ v ≠ e.a ∧ v ≠ e.b) m ∧ l.length = m.length + 1 ∧ ∀ f ∈ m, f ≠ e ∧ f ∈ l := by
  obtain ⟨s, t, rfl⟩ := List.append_of_mem he
  have hp := List.pairwise_append.1 h.2
  have ht := List.pairwise_cons.1 hp.2.1
  have key : ∀ f ∈ s ++ t, Apart e f := fun f hf => by
    cases List.mem_append.1 hf with
    | inl q => exact (hp.2.2 f q e List.mem_cons_self).symm
    | inr q => exact ht.1 f q
  have sub : ∀ f ∈ s ++ t, f ∈ s ++ e :: t := fun f hf => by
    cases List.mem_append.1 hf with
    | inl q => exact List.mem_append_left _ q
    | inr q => exact List.mem_append_right _ (List.mem_cons_of_mem _ q)
  refine ⟨s ++ t, ⟨fun f hf => ?_, ?_⟩, by simp; omega, fun f hf => ⟨fun q => (key f hf).1 (by rw [q]), sub f hf⟩⟩
  · have a := h.1 f (sub f hf)
    have k := key f hf
    exact ⟨a.1, ⟨a.2.1, fun x => k.1 x.symm, fun x => k.2.2.1 x.symm⟩, ⟨a.2.2, fun x => k.2.1 x.symm, fun x => k.2.2.2 x.symm⟩⟩
  · exact List.pairwise_append.2 ⟨hp.1, ht.2, fun a ha b hb => hp.2.2 a ha b (List.mem_cons_of_mem _ hb)⟩

/-- The most couples of edges without taken vertices. -/
def mm : List E → List Int → Nat
  | [], _ => 0
  | e :: es, u => if e.a ∈ u ∨ e.b ∈ u then mm es u else max (mm es u) (mm es (e.a :: e.b :: u) + 1)

theorem mm_most : ∀ (es : List E) (u : List Int), Most es (fun v => ¬ v ∈ u) (mm es u)
  | [], u => most_none fun _ h => absurd h List.not_mem_nil
  | e :: es, u => by
    have h0 := mm_most es u
    unfold mm
    by_cases hu : e.a ∈ u ∨ e.b ∈ u
    · rw [if_pos hu]
      refine h0.congr (fun f hf a b => ⟨List.mem_cons_of_mem _ hf, a, b⟩) fun f hf a b => ?_
      cases List.mem_cons.1 hf with
      | inl q => subst q; exact (hu.elim a b).elim
      | inr q => exact ⟨q, a, b⟩
    rw [if_neg hu]
    have h1 := mm_most es (e.a :: e.b :: u)
    have hm : ∀ v : Int, ¬ v ∈ e.a :: e.b :: u ↔ (¬ v ∈ u ∧ v ≠ e.a ∧ v ≠ e.b) := fun v => by
      simp only [List.mem_cons, not_or]
      exact ⟨fun h => ⟨h.2.2, h.1, h.2.1⟩, fun h => ⟨h.2.1, h.2.2, h.1⟩⟩
    refine ⟨?_, fun l hl => ?_⟩
    · by_cases hx : mm es u ≤ mm es (e.a :: e.b :: u) + 1
      · obtain ⟨⟨l, a, b⟩, _⟩ := h1
        refine ⟨e :: l, mt_cons List.mem_cons_self (fun x => hu (.inl x)) (fun x => hu (.inr x)) (a.imp fun f hf p q => ⟨List.mem_cons_of_mem _ hf, (hm _).1 p, (hm _).1 q⟩), ?_⟩
        rw [Nat.max_eq_right hx, List.length_cons, b]
      · obtain ⟨⟨l, a, b⟩, _⟩ := h0
        refine ⟨l, a.imp fun f hf p q => ⟨List.mem_cons_of_mem _ hf, p, q⟩, ?_⟩
        rw [Nat.max_eq_left (by omega), b]
    · by_cases he : e ∈ l
      · obtain ⟨m, a, b, c⟩ := mt_split hl he
        have := h1.2 m ⟨fun f hf => by
          have q := a.1 f hf
          refine ⟨?_, (hm _).2 q.2.1, (hm _).2 q.2.2⟩
          cases List.mem_cons.1 q.1 with
          | inl x => exact absurd x (c f hf).1
          | inr x => exact x, a.2⟩
        rw [b]
        exact Nat.le_trans (Nat.add_le_add_right this 1) (Nat.le_max_right _ _)
      · have := h0.2 l ⟨fun f hf => by
          have q := hl.1 f hf
          refine ⟨?_, q.2⟩
          cases List.mem_cons.1 q.1 with
          | inl x => exact absurd (x ▸ hf) he
          | inr x => exact x, hl.2⟩
        exact Nat.le_trans this (Nat.le_max_left _ _)
theorem mm_le : ∀ (es : List E) (u : List Int), mm es u ≤ es.length
  | [], u => Nat.le_refl 0
  | e :: es, u => by
    have := mm_le es u
    have := mm_le es (e.a :: e.b :: u)
    unfold mm
    rw [List.length_cons]
    split <;> omega

/-- Vertices from one on that are not used. -/
def Fr (k : Int) (u : List Int) (v : Int) : Prop := k ≤ v ∧ ¬ v ∈ u
/-- The most couples so far: vertex k alone, or with one below B. -/
def MostTo (es : List E) (k : Int) (u : List Int) (B : Int) (w : Nat) : Prop :=
  (∃ l, Mt es (Fr k u) l ∧ l.length = w) ∧ ∀ l, Mt es (Fr k u) l → (∀ e ∈ l, e.a = k → e.b < B) → l.length ≤ w

theorem most_skip {es : List E} {k : Int} {u : List Int} {w : Nat} (hk : k ∈ u) (h : Most es (Fr (k + 1) u) w) : Most es (Fr k u) w :=
  h.congr (fun e he a b => ⟨he, ⟨by have := a.1; omega, a.2⟩, ⟨by have := b.1; omega, b.2⟩⟩) fun e he a b => by
    have h1 : e.a ≠ k := fun x => a.2 (x ▸ hk)
    have h2 : e.b ≠ k := fun x => b.2 (x ▸ hk)
    have := a.1
    have := b.1
    exact ⟨he, ⟨by omega, a.2⟩, ⟨by omega, b.2⟩⟩
theorem most_end {es : List E} {n k : Int} {u : List Int} (hE : ∀ e ∈ es, EOk n e) (hk : n ≤ k) : Most es (Fr k u) 0 :=
  most_none fun e he h => by
    have := hE e he
    unfold EOk at this
    have := h.1.1
    omega
theorem mostTo_start {es : List E} {n k : Int} {u : List Int} {w : Nat} (hE : ∀ e ∈ es, EOk n e) (h : Most es (Fr (k + 1) u) w) : MostTo es k u (k + 1) w := by
  obtain ⟨⟨l, a, b⟩, c⟩ := h
  refine ⟨⟨l, a.imp fun e he p q => ⟨he, ⟨by have := p.1; omega, p.2⟩, ⟨by have := q.1; omega, q.2⟩⟩, b⟩, fun l hl hb => c l ⟨fun e he => ?_, hl.2⟩⟩
  obtain ⟨q1, q2, q3⟩ := hl.1 e he
  have g := hE e q1
  unfold EOk at g
  have h1 : e.a ≠ k := fun x => by have := hb e he x; omega
  have := q2.1
  have := q3.1
  exact ⟨q1, ⟨by omega, q2.2⟩, ⟨by omega, q3.2⟩⟩
theorem mostTo_end {es : List E} {n k : Int} {u : List Int} {w : Nat} (hE : ∀ e ∈ es, EOk n e) (h : MostTo es k u n w) : Most es (Fr k u) w :=
  ⟨h.1, fun l hl => h.2 l hl fun e he _ => by have := hE e (hl.1 e he).1; unfold EOk at this; omega⟩
/-- No edge to b, or b is used. -/
theorem mostTo_no {es : List E} {n k b : Int} {u : List Int} {w : Nat} (hE : ∀ e ∈ es, EOk n e) (h : MostTo es k u b w) (hn : edgeIx es k b < 0 ∨ b ∈ u) : MostTo es k u (b + 1) w := by
  refine ⟨h.1, fun l hl hb => h.2 l hl fun e he hk => ?_⟩
  have h1 := hb e he hk
  have h2 : e.b ≠ b := fun x => by
    obtain ⟨q1, q2, q3⟩ := hl.1 e he
    rcases hn with hn | hn
    · rcases firstIx_cases (p := Join k b) e0 es with ⟨c1, c2⟩ | ⟨i, c1, _⟩
      · obtain ⟨i, hi, rfl⟩ := mem_getD (d := e0) q1
        exact c2 i hi (.inl ⟨hk, x⟩)
      · unfold edgeIx at hn; omega
    · exact q3.2 (x ▸ hn)
  omega
/-- An edge to b. -/
theorem mostTo_yes {es : List E} {n k b : Int} {u : List Int} {w w' : Nat} (hE : ∀ e ∈ es, EOk n e) (h : MostTo es k u b w) (hk : ¬ k ∈ u) (hb : k < b) (hn : ¬ edgeIx es k b < 0) (hu : ¬ b ∈ u) (h' : Most es (Fr (k + 1) (u ++ [b])) w') : MostTo es k u (b + 1) (max w (w' + 1)) := by
  have hm : ∀ v : Int, Fr (k + 1) (u ++ [b]) v ↔ (Fr k u v ∧ v ≠ k ∧ v ≠ b) := fun v => by
    unfold Fr
    simp only [List.mem_append, List.mem_singleton, not_or]
    exact ⟨fun ⟨a, c, d⟩ => ⟨⟨by omega, c⟩, by omega, d⟩, fun ⟨⟨a, c⟩, d, e⟩ => ⟨by omega, c, e⟩⟩
  refine ⟨?_, fun l hl hc => ?_⟩
  · by_cases hx : w ≤ w' + 1
    · obtain ⟨⟨l, q1, q2⟩, _⟩ := h'
      rcases firstIx_cases (p := Join k b) e0 es with ⟨c1, _⟩ | ⟨i, _, c2, c3, _⟩
      · unfold edgeIx at hn; omega
      · have hi := getD_mem (d := e0) c2
        have g := hE _ hi
        unfold EOk at g
        have hab : (es.getD i e0).a = k ∧ (es.getD i e0).b = b := c3.elim id fun q => by omega
        refine ⟨es.getD i e0 :: l, mt_cons hi ?_ ?_ (q1.imp fun f hf p q => ⟨hf, ?_, ?_⟩), ?_⟩
        · rw [hab.1]; exact ⟨by omega, hk⟩
        · rw [hab.2]; exact ⟨by omega, hu⟩
        · rw [hab.1, hab.2]; exact (hm _).1 p
        · rw [hab.1, hab.2]; exact (hm _).1 q
        · rw [Nat.max_eq_right hx, List.length_cons, q2]
    · obtain ⟨l, q1, q2⟩ := h.1
      exact ⟨l, q1, by rw [Nat.max_eq_left (by omega), q2]⟩
  · by_cases hx : ∃ e ∈ l, e.a = k ∧ e.b = b
    · obtain ⟨e, he, h1, h2⟩ := hx
      obtain ⟨m, q1, q2, _⟩ := mt_split hl he
      have := h'.2 m (q1.imp fun f hf p q => ⟨hf, (hm _).2 (by rw [h1, h2] at p; exact p), (hm _).2 (by rw [h1, h2] at q; exact q)⟩)
      rw [q2]
      exact Nat.le_trans (Nat.add_le_add_right this 1) (Nat.le_max_right _ _)
    · refine Nat.le_trans (h.2 l hl fun e he hk' => ?_) (Nat.le_max_left _ _)
      have := hc e he hk'
      have : e.b ≠ b := fun q => hx ⟨e, he, hk', q⟩
      omega
end Go.Proofs.Ytioogligololoaa.Ab
