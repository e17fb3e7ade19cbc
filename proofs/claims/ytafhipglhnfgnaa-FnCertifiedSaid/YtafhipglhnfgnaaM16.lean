/- Joined: K105, K106, K107, K108, K109, K110, K111. No conditions. -/
import Derived.Test.YtafhipglhnfgnaaM15
set_option linter.unusedSimpArgs false
set_option linter.unusedVariables false
set_option linter.unnecessarySimpa false
set_option maxHeartbeats 4000000
namespace Go.Proofs.Ytafhipglhnfgnaa.Ab
open Go.RowKit
structure Seen (es : List E) (s : Sv) (l : Lb) (y d : Int) (j p : Nat) : Prop where
  d0 : 0 ≤ d
  le : d ≤ y
  ee : ∀ e, e < j → top s (vA es e) ≠ top s (vB es e) → l.lab (top s (vA es e)) = 1 → l.lab (top s (vB es e)) = 1 → 2 * d ≤ slk es s e
  eb : ∀ e, e < j → top s (vA es e) ≠ top s (vB es e) → (l.lab (top s (vA es e)) = 1 ∧ l.lab (top s (vB es e)) = 0) ∨ (l.lab (top s (vA es e)) = 0 ∧ l.lab (top s (vB es e)) = 1) → d ≤ slk es s e
  oz : ∀ q, IsTop s q → s.n ≤ q → q < p → l.lab q = 2 → 2 * d ≤ s.z q
  by_ : d = y ∨ (∃ e, e < j ∧ top s (vA es e) ≠ top s (vB es e) ∧ ((l.lab (top s (vA es e)) = 1 ∧ l.lab (top s (vB es e)) = 1 ∧ slk es s e = 2 * d) ∨ (((l.lab (top s (vA es e)) = 1 ∧ l.lab (top s (vB es e)) = 0) ∨ (l.lab (top s (vA es e)) = 0 ∧ l.lab (top s (vB es e)) = 1)) ∧ slk es s e = d))) ∨ ∃ q, q < p ∧ IsTop s q ∧ s.n ≤ q ∧ l.lab q = 2 ∧ s.z q = 2 * d
theorem least_le {d q : Int} (hd : 0 ≤ d) : (leastI d q = d ∧ d ≤ q) ∨ (leastI d q = q ∧ q < d) := by
  unfold leastI
  split <;> omega
section
variable {es : List E} {s : Sv} {l : Lb} {y d q : Int} {j p : Nat}
theorem Seen.skip (S : Seen es s l y d j p) (h : ¬ (top s (vA es j) ≠ top s (vB es j) ∧ ((l.lab (top s (vA es j)) = 1 ∧ l.lab (top s (vB es j)) = 1) ∨ (l.lab (top s (vA es j)) = 1 ∧ l.lab (top s (vB es j)) = 0) ∨ (l.lab (top s (vA es j)) = 0 ∧ l.lab (top s (vB es j)) = 1)))) : Seen es s l y d (j + 1) p := by
  refine ⟨S.d0, S.le, fun e he h1 h2 h3 => ?_, fun e he h1 h2 => ?_, S.oz, S.by_.imp id fun q => q.imp (fun ⟨e, h1, h2⟩ => ⟨e, by omega, h2⟩) id⟩
  · by_cases c : e = j
    · subst c; exact absurd ⟨h1, .inl ⟨h2, h3⟩⟩ h
    · exact S.ee e (by omega) h1 h2 h3
  · by_cases c : e = j
    · subst c; exact absurd ⟨h1, .inr h2⟩ h
    · exact S.eb e (by omega) h1 h2
theorem Seen.nee (S : Seen es s l y d j p) (h1 : top s (vA es j) ≠ top s (vB es j)) (h2 : l.lab (top s (vA es j)) = 1) (h3 : l.lab (top s (vB es j)) = 1) (hq : slk es s j = 2 * q) (q0 : 0 ≤ q) : Seen es s l y (leastI d q) (j + 1) p := by
  have d0 := S.d0
  have hle := S.le
  rcases least_le (q := q) d0 with ⟨e, k⟩ | ⟨e, k⟩
  · rw [e]
    refine ⟨d0, hle, fun e he a1 a2 a3 => ?_, fun e he a1 a2 => ?_, S.oz, S.by_.imp id fun q => q.imp (fun ⟨e, h1, h2⟩ => ⟨e, by omega, h2⟩) id⟩
    · by_cases c : e = j
      · subst c; omega
      · exact S.ee e (by omega) a1 a2 a3
    · by_cases c : e = j
      · subst c; omega
      · exact S.eb e (by omega) a1 a2
  · rw [e]
    refine ⟨q0, by omega, fun e he a1 a2 a3 => ?_, fun e he a1 a2 => ?_, fun p' a1 a2 a3 a4 => ?_, .inr (.inl ⟨j, by omega, h1, .inl ⟨h2, h3, hq⟩⟩)⟩
    · by_cases c : e = j
      · subst c; omega
      · have := S.ee e (by omega) a1 a2 a3; omega
    · by_cases c : e = j
      · subst c; omega
      · have := S.eb e (by omega) a1 a2; omega
    · have := S.oz p' a1 a2 a3 a4; omega
theorem Seen.neb (S : Seen es s l y d j p) (h1 : top s (vA es j) ≠ top s (vB es j)) (h2 : (l.lab (top s (vA es j)) = 1 ∧ l.lab (top s (vB es j)) = 0) ∨ (l.lab (top s (vA es j)) = 0 ∧ l.lab (top s (vB es j)) = 1)) (hq : slk es s j = q) (q0 : 0 ≤ q) : Seen es s l y (leastI d q) (j + 1) p := by
  have d0 := S.d0
  have hle := S.le
  rcases least_le (q := q) d0 with ⟨e, k⟩ | ⟨e, k⟩
  · rw [e]
    refine ⟨d0, hle, fun e he a1 a2 a3 => ?_, fun e he a1 a2 => ?_, S.oz, S.by_.imp id fun q => q.imp (fun ⟨e, h1, h2⟩ => ⟨e, by omega, h2⟩) id⟩
    · by_cases c : e = j
      · subst c; omega
      · exact S.ee e (by omega) a1 a2 a3
    · by_cases c : e = j
      · subst c; omega
      · exact S.eb e (by omega) a1 a2
  · rw [e]
    refine ⟨q0, by omega, fun e he a1 a2 a3 => ?_, fun e he a1 a2 => ?_, fun p' a1 a2 a3 a4 => ?_, .inr (.inl ⟨j, by omega, h1, .inr ⟨h2, hq⟩⟩)⟩
    · by_cases c : e = j
      · subst c; omega
      · have := S.ee e (by omega) a1 a2 a3; omega
    · by_cases c : e = j
      · subst c; omega
      · have := S.eb e (by omega) a1 a2; omega
    · have := S.oz p' a1 a2 a3 a4; omega
theorem Seen.zskip (S : Seen es s l y d j p) (h : ¬ (IsTop s p ∧ l.lab p = 2)) : Seen es s l y d j (p + 1) := by
  refine ⟨S.d0, S.le, S.ee, S.eb, fun q a1 a2 a3 a4 => ?_, S.by_.imp id fun q => q.imp id (fun ⟨e, h1, h2⟩ => ⟨e, by omega, h2⟩)⟩
  by_cases c : q = p
  · subst c; exact absurd ⟨a1, a4⟩ h
  · exact S.oz q a1 a2 (by omega) a4
theorem Seen.nz (S : Seen es s l y d j p) (h1 : IsTop s p) (h2 : s.n ≤ p) (h3 : l.lab p = 2) (hq : s.z p = 2 * q) (q0 : 0 ≤ q) : Seen es s l y (leastI d q) j (p + 1) := by
  have d0 := S.d0
  have hle := S.le
  rcases least_le (q := q) d0 with ⟨e, k⟩ | ⟨e, k⟩
  · rw [e]
    refine ⟨d0, hle, S.ee, S.eb, fun r a1 a2 a3 a4 => ?_, S.by_.imp id fun q => q.imp id (fun ⟨e, h1, h2⟩ => ⟨e, by omega, h2⟩)⟩
    by_cases c : r = p
    · subst c; omega
    · exact S.oz r a1 a2 (by omega) a4
  · rw [e]
    refine ⟨q0, by omega, fun e he a1 a2 a3 => ?_, fun e he a1 a2 => ?_, fun r a1 a2 a3 a4 => ?_, .inr (.inr ⟨p, by omega, h1, h2, h3, hq⟩)⟩
    · have := S.ee e he a1 a2 a3; omega
    · have := S.eb e he a1 a2; omega
    · by_cases c : r = p
      · subst c; omega
      · have := S.oz r a1 a2 (by omega) a4; omega
theorem Seen.least (S : Seen es s l y d es.length s.N) (h1 : ∃ v, v < s.n ∧ l.lab (top s v) = 1 ∧ s.y v = y) (h2 : ∀ v, v < s.n → l.lab (top s v) = 1 → y ≤ s.y v) : Least es s l d := by
  have hle := S.le
  refine ⟨⟨S.d0, fun e he => S.ee e he, fun e he => S.eb e he, fun p hp hn => S.oz p hp hn hp.1⟩, fun v hv h => ?_, ?_⟩
  · have := h2 v hv h; omega
  · rcases S.by_ with e | ⟨e, e1, e2⟩ | ⟨p, e1, e2, e3, e4, e5⟩
    · rw [e]; exact .inl h1
    · exact .inr (.inl ⟨e, e1, e2⟩)
    · exact .inr (.inr ⟨p, e2, e3, e4, e5⟩)
def Ev (s : Sv) (l : Lb) (j : Nat) (y : Int) : Prop := (y = -1 ∧ ∀ v, v < j → l.lab (top s v) ≠ 1) ∨ (0 ≤ y ∧ (∃ v, v < j ∧ l.lab (top s v) = 1 ∧ s.y v = y) ∧ ∀ v, v < j → l.lab (top s v) = 1 → y ≤ s.y v)
theorem Ev.skip (h : Ev s l j y) (hn : l.lab (top s j) ≠ 1) : Ev s l (j + 1) y := by
  rcases h with ⟨h1, h2⟩ | ⟨h1, ⟨v, h2, h3⟩, h4⟩
  · refine .inl ⟨h1, fun v hv => ?_⟩
    by_cases c : v = j
    · rw [c]; exact hn
    · exact h2 v (by omega)
  · refine .inr ⟨h1, ⟨v, by omega, h3⟩, fun u hu hl => ?_⟩
    by_cases c : u = j
    · rw [c] at hl; exact absurd hl hn
    · exact h4 u (by omega) hl
theorem Ev.next (h : Ev s l j y) (hn : l.lab (top s j) = 1) (h0 : 0 ≤ s.y j) : Ev s l (j + 1) (leastI y (s.y j)) := by
  rcases h with ⟨h1, h2⟩ | ⟨h1, ⟨v, h2, h3⟩, h4⟩
  · have e : leastI y (s.y j) = s.y j := by unfold leastI; rw [if_pos (.inl (by omega))]
    rw [e]
    refine .inr ⟨h0, ⟨j, by omega, hn, rfl⟩, fun u hu hl => ?_⟩
    by_cases c : u = j
    · rw [c]; exact Int.le_refl _
    · exact absurd hl (h2 u (by omega))
  · rcases least_le (q := s.y j) h1 with ⟨e, k⟩ | ⟨e, k⟩
    · rw [e]
      refine .inr ⟨h1, ⟨v, by omega, h3⟩, fun u hu hl => ?_⟩
      by_cases c : u = j
      · rw [c]; exact k
      · exact h4 u (by omega) hl
    · rw [e]
      refine .inr ⟨h0, ⟨j, by omega, hn, rfl⟩, fun u hu hl => ?_⟩
      by_cases c : u = j
      · rw [c]; exact Int.le_refl _
      · have := h4 u (by omega) hl; omega
end
section
variable {X : CallF} {g : Tags} {h : Heap} {b k lo : Nat} {es : List E} {s : Sv} {l : Lb} {rk : Nat → Nat} {M : List Lk} {dn : Bool} {V : RV} {size Y : Int} {L Q : List Nat} {A : List Lk}
set_option maxRecDepth 100000 in
theorem k_l10Step (R : Rn g h b es s M k dn V) (K : Ok es s) (hs : Sm s) (gk : GOk size es) (P : Tp h lo s.N L A Q) (D : Tl es s l L A Q) (F : Fo es s l rk) (Lo0 : Lo s Y) (he9 : es.length ≤ 1000) :
    ∃ d y : Int, C T X n_spec_l10Step [p7 b 0, p3 (lo + 3) 0] h = some (.tuple ⟨[.int .i64 d, .int .i64 y]⟩, h) ∧ ((d = -1 ∧ ∀ v, v < s.n → l.lab (top s v) ≠ 1) ∨ (Least es s l d ∧ d ≤ y ∧ (∃ v, v < s.n ∧ l.lab (top s v) = 1 ∧ s.y v = y) ∧ ∀ v, v < s.n → l.lab (top s v) = 1 → y ≤ s.y v)) := by
  suffices hx : ∃ w hh, C T X n_spec_l10Step [p7 b 0, p3 (lo + 3) 0] h = some (w, hh) ∧ hh = h ∧ ∃ d y : Int, w = .tuple ⟨[.int .i64 d, .int .i64 y]⟩ ∧ ((d = -1 ∧ ∀ v, v < s.n → l.lab (top s v) ≠ 1) ∨ (Least es s l d ∧ d ≤ y ∧ (∃ v, v < s.n ∧ l.lab (top s v) = 1 ∧ s.y v = y) ∧ ∀ v, v < s.n → l.lab (top s v) = 1 → y ≤ s.y v)) by
    obtain ⟨w, hh, c, rfl, d, y, rfl, q⟩ := hx
    exact ⟨d, y, c, q⟩
  have hu := K.upOk
  have nN := K.nN
  have h9 := hs.N
  have n9 := hs.n
  have y0 : ∀ v, v < s.n → 0 ≤ s.y v := fun v hv => by have := Lo0.low v hv; have := Lo0.y0; omega
  refine C_ex t_spec_l10Step rfl ?_
  unfold F_spec_l10Step
  simp only [R.chk, R.fa, R.ld0, Nat.zero_add, go_sem]
  have n0 : ((0 : Nat) : Int) = 0 := rfl
  have n1 : ((1 : Nat) : Int) = 1 := rfl
  have n2 : ((2 : Nat) : Int) = 2 := rfl
  refine w_for s.n (fun j t' loc hh => hh = h ∧ t' 0 = p7 b 0 ∧ t' 1 = p3 (lo + 3) 0 ∧ t' 8 = .int .i64 (j : Nat) ∧ ∃ y : Int, t' 7 = .int .i64 y ∧ Ev s l j y) ⟨rfl, rfl, rfl, rfl, -1, rfl, .inl ⟨rfl, fun v hv => by omega⟩⟩ ?_
  rintro j t' loc hh hj ⟨rfl, t0, t1, t8, y, t7, ev⟩
  simp only [t0, t8, R.chk, R.fa, R.ld0, Nat.zero_add, go_sem]
  refine w_open (by simp only [go_sem]; rfl) ?_ ?_ <;> intro hc
  · have hj1 : j < s.n := by omega
    have hw : IntKind.i64.wrap ((j : Int) + 1) = ((j + 1 : Nat) : Int) := w64 (by omega) (by omega)
    have ct := k_l10Top (X := X) R hu (v := j) (by omega)
    obtain ⟨a, ha⟩ : ∃ a, a = top s j := ⟨_, rfl⟩
    rw [← ha] at ct
    have aN : a < s.N := by rw [ha]; exact top_lt hu (by omega)
    obtain ⟨x1, x2⟩ := P.lel aN
    rw [D.lab a aN] at x2
    obtain ⟨b1, b2⟩ := R.yia hj1
    have cl := k_l10Least (X := X) (h := hh) (a := y) (c := s.y j)
    by_cases c1 : l.lab a = 1
    · rw [c1, n1] at x2
      simp only [t0, t1, t7, t8, ct, x1, x2, b1, b2, cl, P.chk, P.fa, P.ld0, R.chk, R.fa, R.ld2, hw, Nat.zero_add, List.prefix_refl, go_sem]
      exact ⟨hj1, _, rfl, ev.next (by rw [← ha]; exact c1) (y0 j hj1)⟩
    · have c2 : ¬ ((l.lab a : Nat) : Int) = 1 := by omega
      simp only [t0, t1, t7, t8, ct, x1, x2, c2, P.chk, P.fa, P.ld0, R.chk, R.fa, R.ld2, hw, Nat.zero_add, List.prefix_refl, go_sem]
      exact ⟨hj1, y, rfl, ev.skip (by rw [← ha]; exact c1)⟩
  have hjn : j = s.n := by omega
  rw [hjn] at ev
  rcases ev with ⟨rfl, e2⟩ | ⟨e1, e2, e3⟩
  · have hn : ((-1 : Int) < 0) := by omega
    simp only [t0, t1, t7, t8, hn, go_sem]
    exact ⟨_, _, rfl, .inl ⟨rfl, e2⟩⟩
  have hn : ¬ (y < 0) := by omega
  simp only [t0, t1, t7, t8, hn, go_sem]
  clear hc hj hjn t0 t1 t8 t7 hn
  refine w_for es.length (fun i t' loc h' => h' = hh ∧ t' 0 = p7 b 0 ∧ t' 1 = p3 (lo + 3) 0 ∧ t' 7 = .int .i64 y ∧ t' 9 = .int .i64 (i : Nat) ∧ ∃ d : Int, t' 6 = .int .i64 d ∧ Seen es s l y d i s.n) ⟨rfl, rfl, rfl, rfl, rfl, y, rfl, ⟨e1, Int.le_refl _, fun e he => by omega, fun e he => by omega, fun q h1 h2 h3 => by omega, .inl rfl⟩⟩ ?_
  clear t' loc j
  rintro i t' loc h' hi ⟨rfl, t0, t1, t7, t9, d, t6, S⟩
  simp only [t0, t9, R.chk, R.fa, R.ld1, R.eln, Nat.zero_add, go_sem]
  refine w_open (by simp only [go_sem]; rfl) ?_ ?_ <;> intro hc
  · have hi1 : i < es.length := by omega
    have hw : IntKind.i64.wrap ((i : Int) + 1) = ((i + 1 : Nat) : Int) := w64 (by omega) (by omega)
    obtain ⟨hE, hEB⟩ := K.ed i hi1
    obtain ⟨ga, gb, _⟩ := gok_int gk hi1
    have el := R.ev.el (f := edgeR) e0 hi1
    have csl := k_l10Slack (X := X) R K hs gk hi1
    have cta := k_l10Top (X := X) R hu (v := vA es i) (by omega)
    have ctb := k_l10Top (X := X) R hu (v := vB es i) (by omega)
    obtain ⟨q, hq⟩ : ∃ q, q = es.getD i e0 := ⟨_, rfl⟩
    rw [← hq] at el csl ga gb
    unfold edgeV at csl
    have er : edgeR q = [.int .i64 (vA es i : Nat), .int .i64 (vB es i : Nat), .int .i64 q.w1, .int .i64 q.w2, .int .i64 q.w3] := by unfold edgeR; rw [ga, gb]
    rw [er] at el csl
    obtain ⟨a, hA⟩ : ∃ a, a = top s (vA es i) := ⟨_, rfl⟩
    obtain ⟨c, hC⟩ : ∃ c, c = top s (vB es i) := ⟨_, rfl⟩
    rw [← hA] at cta
    rw [← hC] at ctb
    have aN : a < s.N := by rw [hA]; exact top_lt hu (by omega)
    have cN : c < s.N := by rw [hC]; exact top_lt hu (by omega)
    obtain ⟨x1, x2⟩ := P.lel aN
    obtain ⟨y1, y2⟩ := P.lel cN
    rw [D.lab a aN] at x2
    rw [D.lab c cN] at y2
    have two1 := F.two a
    have two2 := F.two c
    have sk := S.skip
    rw [← hA, ← hC] at sk
    have hfe := K.feas i hi1
    have hsl : slk es s i ≤ 100000000000 := by
      obtain ⟨a1, a2⟩ := hs.y _ hE
      obtain ⟨a3, a4⟩ := hs.y _ hEB.1
      obtain ⟨w0, w1⟩ := gok_w gk hi1
      by_cases k1 : top s (vA es i) = top s (vB es i)
      · obtain ⟨z3, z4⟩ := zSum_bnd hs (a := vA es i) (c := vB es i) (k := s.N) (Nat.le_refl _)
        unfold slk
        omega
      · rw [slk_apart K k1]
        omega
    by_cases k1 : (a : Int) = (c : Int)
    · simp only [t0, t1, t6, t7, t9, R.chk, R.fa, R.ld1, el.1, el.2.1, el.2.2, cta, ctb, k1, hw, Nat.zero_add, zeros, fillAt, List.prefix_refl, go_sem]
      exact ⟨hi1, d, rfl, sk fun q => q.1 (by omega)⟩
    have hne : a ≠ c := by omega
    have la3 : l.lab a = 0 ∨ l.lab a = 1 ∨ l.lab a = 2 := by omega
    have lc3 : l.lab c = 0 ∨ l.lab c = 1 ∨ l.lab c = 2 := by omega
    have hneT : top s (vA es i) ≠ top s (vB es i) := by rw [← hA, ← hC]; exact hne
    rcases la3 with la | la | la <;> rcases lc3 with lc | lc | lc <;> rw [la] at x2 <;> rw [lc] at y2 <;> (try rw [n0] at x2) <;> (try rw [n1] at x2) <;> (try rw [n2] at x2) <;> (try rw [n0] at y2) <;> (try rw [n1] at y2) <;> (try rw [n2] at y2)
    · simp only [t0, t1, t6, t7, t9, R.chk, R.fa, R.ld1, el.1, el.2.1, el.2.2, cta, ctb, k1, P.chk, P.fa, P.ld0, x1, x2, y1, y2, hw, Nat.zero_add, zeros, fillAt, List.prefix_refl, go_sem]
      exact ⟨hi1, d, rfl, sk fun q => by have := q.2; omega⟩
    · have cl := k_l10Least (X := X) (h := h') (a := d) (c := slk es s i)
      simp only [t0, t1, t6, t7, t9, R.chk, R.fa, R.ld1, el.1, el.2.1, el.2.2, cta, ctb, csl, cl, k1, P.chk, P.fa, P.ld0, x1, x2, y1, y2, hw, Nat.zero_add, zeros, fillAt, List.prefix_refl, go_sem]
      exact ⟨hi1, _, rfl, S.neb hneT (.inr (by rw [← hA, ← hC]; exact ⟨la, lc⟩)) rfl hfe⟩
    · simp only [t0, t1, t6, t7, t9, R.chk, R.fa, R.ld1, el.1, el.2.1, el.2.2, cta, ctb, k1, P.chk, P.fa, P.ld0, x1, x2, y1, y2, hw, Nat.zero_add, zeros, fillAt, List.prefix_refl, go_sem]
      exact ⟨hi1, d, rfl, sk fun q => by have := q.2; omega⟩
    · have cl := k_l10Least (X := X) (h := h') (a := d) (c := slk es s i)
      simp only [t0, t1, t6, t7, t9, R.chk, R.fa, R.ld1, el.1, el.2.1, el.2.2, cta, ctb, csl, cl, k1, P.chk, P.fa, P.ld0, x1, x2, y1, y2, hw, Nat.zero_add, zeros, fillAt, List.prefix_refl, go_sem]
      exact ⟨hi1, _, rfl, S.neb hneT (.inl (by rw [← hA, ← hC]; exact ⟨la, lc⟩)) rfl hfe⟩
    · have hev := ee_even K F Lo0 hi1 hneT (by rw [← hA]; exact la) (by rw [← hC]; exact lc)
      have hdv : IntKind.i64.wrap ((slk es s i).tdiv 2) = slk es s i / 2 := by
        rw [Int.tdiv_eq_ediv_of_nonneg hfe, w64 (by omega) (by omega)]
      have cl := k_l10Least (X := X) (h := h') (a := d) (c := slk es s i / 2)
      simp only [t0, t1, t6, t7, t9, R.chk, R.fa, R.ld1, el.1, el.2.1, el.2.2, cta, ctb, csl, cl, k1, P.chk, P.fa, P.ld0, x1, x2, y1, y2, hdv, hw, Nat.zero_add, zeros, fillAt, List.prefix_refl, go_sem]
      exact ⟨hi1, _, rfl, S.nee hneT (by rw [← hA]; exact la) (by rw [← hC]; exact lc) (by omega) (by omega)⟩
    · simp only [t0, t1, t6, t7, t9, R.chk, R.fa, R.ld1, el.1, el.2.1, el.2.2, cta, ctb, k1, P.chk, P.fa, P.ld0, x1, x2, y1, y2, hw, Nat.zero_add, zeros, fillAt, List.prefix_refl, go_sem]
      exact ⟨hi1, d, rfl, sk fun q => by have := q.2; omega⟩
    · simp only [t0, t1, t6, t7, t9, R.chk, R.fa, R.ld1, el.1, el.2.1, el.2.2, cta, ctb, k1, P.chk, P.fa, P.ld0, x1, x2, y1, y2, hw, Nat.zero_add, zeros, fillAt, List.prefix_refl, go_sem]
      exact ⟨hi1, d, rfl, sk fun q => by have := q.2; omega⟩
    · simp only [t0, t1, t6, t7, t9, R.chk, R.fa, R.ld1, el.1, el.2.1, el.2.2, cta, ctb, k1, P.chk, P.fa, P.ld0, x1, x2, y1, y2, hw, Nat.zero_add, zeros, fillAt, List.prefix_refl, go_sem]
      exact ⟨hi1, d, rfl, sk fun q => by have := q.2; omega⟩
    · simp only [t0, t1, t6, t7, t9, R.chk, R.fa, R.ld1, el.1, el.2.1, el.2.2, cta, ctb, k1, P.chk, P.fa, P.ld0, x1, x2, y1, y2, hw, Nat.zero_add, zeros, fillAt, List.prefix_refl, go_sem]
      exact ⟨hi1, d, rfl, sk fun q => by have := q.2; omega⟩
  have hie : i = es.length := by omega
  rw [hie] at S
  simp only [t0, t1, t6, t7, t9, R.chk, R.fa, R.ld0, Nat.zero_add, go_sem]
  clear hc hi hie t0 t1 t6 t7 t9
  refine w_for (s.N - s.n) (fun j t' loc hh => hh = h' ∧ t' 0 = p7 b 0 ∧ t' 1 = p3 (lo + 3) 0 ∧ t' 7 = .int .i64 y ∧ t' 13 = .int .i64 ((s.n + j : Nat) : Int) ∧ ∃ d : Int, t' 6 = .int .i64 d ∧ Seen es s l y d es.length (s.n + j)) ⟨rfl, rfl, rfl, rfl, rfl, d, rfl, S⟩ ?_
  clear S
  clear t' loc i d
  rintro j t' loc hh hj ⟨rfl, t0, t1, t7, t13, d, t6, S⟩
  simp only [t0, t13, R.chk, R.fa, R.ld3, R.nln, Nat.zero_add, go_sem]
  refine w_open (by simp only [go_sem]; rfl) ?_ ?_ <;> intro hc
  · have hj1 : s.n + j < s.N := by omega
    have hw : IntKind.i64.wrap (((s.n + j : Nat) : Int) + 1) = ((s.n + (j + 1) : Nat) : Int) := w64 (by omega) (by omega)
    have ci := k_l10IsTop (X := X) R hj1
    obtain ⟨x1, x2⟩ := P.lel hj1
    rw [D.lab _ hj1] at x2
    have n3 := R.n3 hj1
    by_cases c1 : IsTop s (s.n + j)
    rotate_left
    · rw [tP_f c1] at ci
      simp only [t0, t1, t6, t7, t13, ci, hw, Nat.zero_add, List.prefix_refl, go_sem]
      exact ⟨by omega, d, rfl, S.zskip fun q => c1 q.1⟩
    rw [tP_t c1] at ci
    by_cases c2 : l.lab (s.n + j) = 2
    · rw [c2, n2] at x2
      obtain ⟨z1, z2⟩ := K.z0 (s.n + j) ⟨by omega, hj1, c1.2.2⟩
      obtain ⟨z3, z4⟩ := hs.z _ hj1
      have hdv : IntKind.i64.wrap ((s.z (s.n + j)).tdiv 2) = s.z (s.n + j) / 2 := by
        rw [Int.tdiv_eq_ediv_of_nonneg z1, w64 (by omega) (by omega)]
      have cl := k_l10Least (X := X) (h := hh) (a := d) (c := s.z (s.n + j) / 2)
      simp only [t0, t1, t6, t7, t13, ci, cl, P.chk, P.fa, P.ld0, x1, x2, R.chk, R.fa, R.ld3, R.nia hj1, R.nfa hj1, n3, hdv, hw, Nat.zero_add, List.prefix_refl, go_sem]
      exact ⟨by omega, _, rfl, S.nz c1 (by omega) c2 (by omega) (by omega)⟩
    · have c3 : ¬ ((l.lab (s.n + j) : Nat) : Int) = 2 := by omega
      simp only [t0, t1, t6, t7, t13, ci, P.chk, P.fa, P.ld0, x1, x2, c3, hw, Nat.zero_add, List.prefix_refl, go_sem]
      exact ⟨by omega, d, rfl, S.zskip fun q => c2 q.2⟩
  have hjN : s.n + j = s.N := by omega
  rw [hjN] at S
  simp only [t0, t1, t6, t7, t13, go_sem]
  exact ⟨_, _, rfl, .inr ⟨S.least e2 e3, S.le, e2, e3⟩⟩
end
end Go.Proofs.Ytafhipglhnfgnaa.Ab
set_option linter.unusedSimpArgs false
set_option linter.unusedVariables false
set_option linter.unnecessarySimpa false
set_option maxHeartbeats 4000000
namespace Go.Proofs.Ytafhipglhnfgnaa.Ab
open Go.RowKit
def Df (s s' : Sv) (dn dn' : Bool) : Prop := dn' ≠ dn ∨ (s'.n = s.n ∧ ∃ v, v < s.n ∧ s'.y v ≠ s.y v) ∨ (s'.N = s.N ∧ ∃ i, i < s.N ∧ s'.gone i ≠ s.gone i)
section
variable {g g' : Tags} {h h' : Heap} {b k k' i v : Nat} {es : List E} {s s' : Sv} {l : Lb} {rk : Nat → Nat} {M M' : List Lk} {dn dn' : Bool} {V V' : RV} {d Y Mx : Int}
theorem Rn.df (R : Rn g h b es s M k dn V) (R' : Rn g' h' b es s' M' k' dn' V') (hd : Df s s' dn dn') : ¬ h <+: h' := fun hp => by
  have R1 := R.up hp
  have e := R1.blk
  rw [R'.blk] at e
  have e := Option.some.inj e
  unfold runB at e
  injection e with e
  simp only [List.cons.injEq] at e
  obtain ⟨_, _, ey, en, _, _, ed, _⟩ := e
  rcases hd with hd | ⟨hn, v, hv, hd⟩ | ⟨hN, i, hi, hd⟩
  · injection ed with ed
    exact hd ed
  · have a1 := (R1.yia hv).2
    have a2 := (R'.yia (v := v) (by omega)).2
    rw [ey, a1] at a2
    simp at a2
    exact hd a2.symm
  · have a1 := R1.n5 hi
    have a2 := R'.n5 (i := i) (by omega)
    rw [en, a1] at a2
    simp at a2
    exact hd a2.symm
theorem fin_not {w : Value} (hp : ¬ h <+: h') : finish h (w, h') = (w, h') := by
  unfold finish
  rw [if_neg fun q => hp q.2]
theorem top_cong (hN : s'.N = s.N) (hup : s'.up = s.up) : top s' v = top s v := by
  have : ∀ n v, topF s' n v = topF s n v := by
    intro n
    induction n with
    | zero => intro v; rfl
    | succ n ih =>
      intro v
      show (match s'.up v with | none => v | some p => topF s' n p) = match s.up v with | none => v | some p => topF s n p
      rw [hup]
      cases s.up v with
      | none => rfl
      | some p => exact ih p
  unfold top
  rw [hN]
  exact this _ _
structure Gs (es : List E) (s : Sv) (Y Mx : Int) : Prop where
  K : Ok es s
  L : Lo s Y
  B : Bd s Y Mx
  zo : ∀ p, ¬ IsRing s p → s.z p = 0
  n9 : s.n ≤ 9
  m : Mx ≤ 4515050
theorem Gs.sm (G : Gs es s Y Mx) (hN : s.N ≤ 400) : Sm s := by
  have hm := G.m
  have y0 := G.L.y0
  refine ⟨G.n9, hN, fun v hv => ?_, fun p hp => ?_⟩
  · have h1 := G.L.low v hv
    have h2 := G.B.y v hv
    omega
  · by_cases c : IsRing s p
    · have h1 := (G.K.z0 p c).1
      have h2 := G.B.z p c
      omega
    · rw [G.zo p c]; omega
open Classical in
theorem Gs.chg (G : Gs es s Y Mx) (F : Fo es s l rk) (D : Least es s l d) (hf : ∃ t, IsTop s t ∧ s.mate t = none) : Gs es (changeS s l d) (Y - d) Mx := by
  refine ⟨change_ok G.K F D.step, change_lo G.K F G.L D hf, change_bd G.B D.step.d0, fun p hp => ?_, G.n9, G.m⟩
  show (if IsTop s p ∧ s.n ≤ p then _ else s.z p) = 0
  have hp' : ¬ IsRing s p := hp
  rw [if_neg fun q => hp' ⟨q.2, q.1.1, q.1.2.2⟩]
  exact G.zo p hp'
theorem opens_zo {s s' : Sv} (h : OpenZ es s s') : (∀ p, ¬ IsRing s p → s.z p = 0) → ∀ p, ¬ IsRing s' p → s'.z p = 0 := by
  induction h with
  | refl s => exact id
  | @step s1 s2 B a hB ht hz ha hh _ ih =>
    intro zo
    refine ih fun p hp => ?_
    show s1.z p = 0
    by_cases c : IsRing s1 p
    · have : p = B := by
        by_cases q : p = B
        · exact q
        · exact absurd (ring_open.2 ⟨c, q⟩) hp
      rw [this]; exact hz
    · exact zo p c
theorem Gs.rnd {s s' : Sv} (G : Gs es s Y Mx) (h : Round es s s') : ∃ Y', Gs es s' Y' Mx := by
  obtain ⟨Y', L', B'⟩ := round_bd G.K G.L G.B h
  have K' : Ok es s' ∧ s'.n = s.n ∧ ∀ p, ¬ IsRing s' p → s'.z p = 0 := by
    cases h with
    | fold M =>
      rename_i l rk e i k xs ys
      have R := M.ring G.K
      refine ⟨add_ok G.K R, rfl, fun p hp => ?_⟩
      show (if p = s.N then 0 else s.z p) = 0
      by_cases c : p = s.N
      · rw [if_pos c]
      · rw [if_neg c]
        exact G.zo p fun q => hp (ring_add.2 (.inr q))
    | aug A O =>
      obtain ⟨i1, _, i3, _⟩ := opens_ok O (aug_ok A G.K) (aug_lo A G.K G.L)
      exact ⟨i1, i3, opens_zo O G.zo⟩
    | change F S D hf hy hz => exact ⟨(G.chg F D hf).K, rfl, (G.chg F D hf).zo⟩
    | open_ F S D hf hB hn hl hz ha hh =>
      rename_i l rk d B a
      have Gc := G.chg F D hf
      have hBr : IsRing (changeS s l d) B := ⟨hn, hB.1, hB.2.2⟩
      refine ⟨open_ok Gc.K hBr hB.2.1 hz ha hh, rfl, fun p hp => ?_⟩
      show (changeS s l d).z p = 0
      by_cases c : p = B
      · rw [c]; exact hz
      · exact Gc.zo p fun q => hp (ring_open.2 ⟨q, c⟩)
  exact ⟨Y', K'.1, L', B', K'.2.2, by rw [K'.2.1]; exact G.n9, G.m⟩
theorem Gs.last {s s' : Sv} (G : Gs es s Y Mx) (h : Last es s s') : ∃ Y', Gs es s' Y' Mx ∧ Frz s' := by
  obtain ⟨_, f, _, _⟩ := last_ok G.K G.L G.B h
  cases h with
  | none F h => exact ⟨Y, G, f⟩
  | change F S D hf hy => exact ⟨_, G.chg F D hf, f⟩
theorem MtOk.chg (m : MtOk es s M) (K : Ok es s) : MtOk es (changeS s l d) M := by
  refine ⟨fun x hx => ?_, fun t e ht he => m.all t e ht he, m.nd, m.le⟩
  rw [top_change K, top_change K]
  exact m.of x hx
theorem BsOk.chg {bs : Nat → Nat} (hbs : BsOk s bs) : BsOk (changeS s l d) bs := fun t i ht hm hw hv => hbs t i ht hm (wi_change.1 hw) (wi_change.1 hv)
end
noncomputable def chY (s : Sv) (l : Lb) (d : Int) (j : Nat) : Sv := { s with y := fun v => if v < j then s.y v - sg (l.lab (top s v)) * d else s.y v }
open Classical in
noncomputable def chZ (s : Sv) (l : Lb) (d : Int) (p : Nat) : Sv := { s with y := fun v => s.y v - sg (l.lab (top s v)) * d, z := fun q => if IsTop s q ∧ s.n ≤ q ∧ q < p then s.z q + 2 * (sg (l.lab q) * d) else s.z q }
end Go.Proofs.Ytafhipglhnfgnaa.Ab
set_option linter.unusedSimpArgs false
set_option linter.unusedVariables false
set_option linter.unnecessarySimpa false
set_option maxHeartbeats 4000000
namespace Go.Proofs.Ytafhipglhnfgnaa.Ab
open Go.RowKit
section
variable {X : CallF} {g : Tags} {h : Heap} {b k lo : Nat} {es : List E} {s : Sv} {l : Lb} {rk : Nat → Nat} {M : List Lk} {V : RV} {size Y Mx : Int} {L Q : List Nat} {A : List Lk}
set_option maxRecDepth 100000 in
open Classical in
theorem k_l10Adjust (hbs : BsOk s V.bs) (R : Rn g h b es s M k false V) (G : Gs es s Y Mx) (hN : s.N ≤ 400) (m : MtOk es s M) (gk : GOk size es) (P : Tp h lo s.N L A Q) (D : Tl es s l L A Q) (F : Fo es s l rk) (S : Stuck es s l) (he9 : es.length ≤ 1000) (hlo : b < lo) (hg : ∀ c τ, g c = some τ → c < lo) :
    ∃ h' g' V' s' M' dn', C T X n_spec_l10Adjust [p7 b 0, p3 (lo + 3) 0] h = some (.tuple ⟨[]⟩, h') ∧ Rn g' h' b es s' M' k dn' V' ∧ MtOk es s' M' ∧ BsOk s' V'.bs ∧ (∀ c, c + 1 < b → h'[c]? = h[c]?) ∧ h.length ≤ h'.length ∧ Df s s' false dn' ∧ ((dn' = true ∧ Last es s s') ∨ (dn' = false ∧ Round es s s')) := by
  suffices hx : ∃ w h', C T X n_spec_l10Adjust [p7 b 0, p3 (lo + 3) 0] h = some (w, h') ∧ w = .tuple ⟨[]⟩ ∧ ∃ g' V' s' M' dn', Rn g' h' b es s' M' k dn' V' ∧ MtOk es s' M' ∧ BsOk s' V'.bs ∧ (∀ c, c + 1 < b → h'[c]? = h[c]?) ∧ h.length ≤ h'.length ∧ Df s s' false dn' ∧ ((dn' = true ∧ Last es s s') ∨ (dn' = false ∧ Round es s s')) by
    obtain ⟨w, h', c, rfl, g', V', s', M', dn', q⟩ := hx
    exact ⟨h', g', V', s', M', dn', c, q⟩
  have K := G.K
  have hs := G.sm hN
  have hu := K.upOk
  have nN := K.nN
  have n9 := hs.n
  have hgn : ∀ c, lo ≤ c → c < lo + 4 → g c = none := fun c h1 _ => by
    cases q : g c with
    | none => rfl
    | some τ => have := hg c τ q; omega
  obtain ⟨d, y, cst, hst⟩ := k_l10Step (X := X) R K hs gk P D F G.L he9
  refine C_ex t_spec_l10Adjust rfl ?_
  unfold F_spec_l10Adjust
  rcases hst with ⟨rfl, hno⟩ | ⟨LD, hdy, ⟨v0, v1, v2, v3⟩, hmin⟩
  · have hn : ((-1 : Int) < 0) := by omega
    obtain ⟨h2, e1, e2, e3, R2⟩ := R.st6 (T := fun _ => False) true
    simp only [cst, hn, R.chk, R.fa, e1, Nat.zero_add, go_sem]
    rw [finish_room e3]
    exact ⟨rfl, g, V, s, M, true, R2, m, hbs, e2.low R.ok R.bl, Nat.le_of_eq e3.symm, .inl (by simp), .inl ⟨rfl, .none F hno⟩⟩
  have hd0 := LD.step.d0
  have hn : ¬ (d < 0) := by omega
  obtain ⟨y1, y2⟩ := hs.y v0 v1
  have hdb : d ≤ 100000000 := by omega
  have hf : ∃ t, IsTop s t ∧ s.mate t = none := free_ex F _ _ (Nat.lt_succ_self _) (show l.lab (top s v0) ≠ 0 by omega)
  have y00 : ∀ v, v < s.n → (chY s l d 0).y v = s.y v := fun v _ => by unfold chY; simp
  simp only [cst, hn, Nat.zero_add, go_sem]
  refine w_for s.n (fun j t' loc hh => t' 0 = p7 b 0 ∧ t' 1 = p3 (lo + 3) 0 ∧ t' 4 = .int .i64 d ∧ t' 5 = .int .i64 y ∧ t' 6 = .int .i64 (j : Nat) ∧ Tn b (fun τ => τ = .y ∨ τ = .n) g h g hh ∧ hh.length = h.length ∧ Rn g hh b es (chY s l d j) M k false V) ⟨rfl, rfl, rfl, rfl, rfl, Tn.refl R.ok, rfl, R.congr' rfl rfl y00 fun _ _ => ⟨rfl, rfl, rfl, rfl, rfl⟩⟩ ?_
  rintro j t' loc hh hj ⟨t0, t1, t4, t5, t6, f1, len1, R1⟩
  have ld0 := R1.ld0
  have hnn : ((chY s l d j).n : Int) = (s.n : Int) := rfl
  rw [hnn] at ld0
  simp only [t0, t6, R1.chk, R1.fa, ld0, Nat.zero_add, go_sem]
  refine w_open (by simp only [go_sem]; rfl) ?_ ?_ <;> intro hc
  · have hj1 : j < s.n := by omega
    have hw : IntKind.i64.wrap ((j : Int) + 1) = ((j + 1 : Nat) : Int) := w64 (by omega) (by omega)
    have P1 := P.tn f1 hlo hgn
    have ct := k_l10Top (X := X) R1 hu (v := j) (show j < s.N by omega)
    rw [show top (chY s l d j) j = top s j from top_cong rfl rfl] at ct
    obtain ⟨a, ha⟩ : ∃ a, a = top s j := ⟨_, rfl⟩
    rw [← ha] at ct
    have aN : a < s.N := by rw [ha]; exact top_lt hu (by omega)
    obtain ⟨x1, x2⟩ := P1.lel aN
    rw [D.lab a aN] at x2
    obtain ⟨b1, b2⟩ := R1.yia (v := j) hj1
    have hyj : (chY s l d j).y j = s.y j := if_neg (Nat.lt_irrefl j)
    rw [hyj] at b2
    obtain ⟨z1, z2⟩ := hs.y j hj1
    have two := F.two a
    have n0 : ((0 : Nat) : Int) = 0 := rfl
    have n1 : ((1 : Nat) : Int) = 1 := rfl
    have n2 : ((2 : Nat) : Int) = 2 := rfl
    have nxt : ∀ (i : Nat) (w : Int), w = s.y j - sg (l.lab a) * d → (if i = j then w else if i < j then s.y i - sg (l.lab (top s i)) * d else s.y i) = if i < j + 1 then s.y i - sg (l.lab (top s i)) * d else s.y i := fun i w hw' => by
      by_cases c : i = j
      · rw [if_pos c, if_pos (by omega), c, hw', ha]
      · rw [if_neg c]
        by_cases c2 : i < j
        · rw [if_pos c2, if_pos (by omega)]
        · rw [if_neg c2, if_neg (by omega)]
    rcases (show l.lab a = 0 ∨ l.lab a = 1 ∨ l.lab a = 2 by omega) with la | la | la
    · rw [la, n0] at x2
      simp only [t0, t1, t4, t5, t6, ct, x1, x2, P1.chk, P1.fa, P1.ld0, hw, Nat.zero_add, List.prefix_refl, go_sem]
      refine ⟨hj1, f1, len1, R1.congr' rfl rfl (fun i hi => ?_) fun _ _ => ⟨rfl, rfl, rfl, rfl, rfl⟩⟩
      have := nxt i (s.y j) (by rw [la, sg0]; omega)
      show (if i < j + 1 then _ else _) = if i < j then _ else _
      rw [← this]
      by_cases c : i = j
      · rw [if_pos c, if_neg (by omega), c]
      · rw [if_neg c]
    · rw [la, n1] at x2
      have hw2 : IntKind.i64.wrap (s.y j - d) = s.y j - d := w64 (by omega) (by omega)
      obtain ⟨h2, e1, e2, e3, _, R2⟩ := R1.stY (i := j) hj1 (s.y j - d)
      simp only [t0, t1, t4, t5, t6, ct, x1, x2, b1, b2, e1, hw2, P1.chk, P1.fa, P1.ld0, R1.chk, R1.fa, R1.ld2, hw, Nat.zero_add, List.prefix_refl, go_sem]
      refine ⟨hj1, f1.trans (e2.mono fun _ q => .inl q), by rw [e3, len1], R2.congr' rfl rfl (fun i hi => (nxt i (s.y j - d) (by rw [la, sg1]; omega)).symm) fun _ _ => ⟨rfl, rfl, rfl, rfl, rfl⟩⟩
    · rw [la, n2] at x2
      have hw2 : IntKind.i64.wrap (s.y j + d) = s.y j + d := w64 (by omega) (by omega)
      obtain ⟨h2, e1, e2, e3, _, R2⟩ := R1.stY (i := j) hj1 (s.y j + d)
      simp only [t0, t1, t4, t5, t6, ct, x1, x2, b1, b2, e1, hw2, P1.chk, P1.fa, P1.ld0, R1.chk, R1.fa, R1.ld2, hw, Nat.zero_add, List.prefix_refl, go_sem]
      refine ⟨hj1, f1.trans (e2.mono fun _ q => .inl q), by rw [e3, len1], R2.congr' rfl rfl (fun i hi => (nxt i (s.y j + d) (by rw [la, sg2]; omega)).symm) fun _ _ => ⟨rfl, rfl, rfl, rfl, rfl⟩⟩
  have hjn : j = s.n := by omega
  rw [hjn] at R1
  have R1' : Rn g hh b es (chZ s l d s.n) M k false V := R1.congr' rfl rfl (fun v hv => (if_pos (show v < s.n from hv)).symm) fun i hi => ⟨by
      show (if IsTop s i ∧ s.n ≤ i ∧ i < s.n then _ else s.z i) = s.z i
      rw [if_neg (by omega)], rfl, rfl, rfl, rfl⟩
  simp only [t0, t1, t4, t5, t6, R1.chk, R1.fa, ld0, Nat.zero_add, go_sem]
  clear hc hj hjn R1
  refine w_for (s.N - s.n) (fun j t' loc hh => t' 0 = p7 b 0 ∧ t' 1 = p3 (lo + 3) 0 ∧ t' 4 = .int .i64 d ∧ t' 5 = .int .i64 y ∧ t' 7 = .int .i64 ((s.n + j : Nat) : Int) ∧ Tn b (fun τ => τ = .y ∨ τ = .n) g h g hh ∧ hh.length = h.length ∧ Rn g hh b es (chZ s l d (s.n + j)) M k false V) ⟨rfl, rfl, rfl, rfl, rfl, f1, len1, R1'⟩ ?_
  clear t0 t1 t4 t5 t6 f1 len1 R1' ld0 hnn
  clear t' loc hh j
  rintro j t' loc hh hj ⟨t0, t1, t4, t5, t7, f1, len1, R1⟩
  have nln := R1.nln
  have hNN : ((chZ s l d (s.n + j)).N : Int) = (s.N : Int) := rfl
  rw [hNN] at nln
  simp only [t0, t7, R1.chk, R1.fa, R1.ld3, nln, Nat.zero_add, go_sem]
  refine w_open (by simp only [go_sem]; rfl) ?_ ?_ <;> intro hc
  · have hj1 : s.n + j < s.N := by omega
    have hw : IntKind.i64.wrap (((s.n + j : Nat) : Int) + 1) = ((s.n + (j + 1) : Nat) : Int) := w64 (by omega) (by omega)
    have P1 := P.tn f1 hlo hgn
    have ci := k_l10IsTop (X := X) R1 (i := s.n + j) hj1
    have hit : IsTop (chZ s l d (s.n + j)) (s.n + j) ↔ IsTop s (s.n + j) := Iff.rfl
    obtain ⟨a, ha⟩ : ∃ a, a = s.n + j := ⟨_, rfl⟩
    rw [← ha] at hj1 ci hit R1 t7 hw ⊢
    have han : s.n ≤ a := by omega
    obtain ⟨x1, x2⟩ := P1.lel hj1
    rw [D.lab a hj1] at x2
    have n3 := R1.n3 (i := a) hj1
    have hza : (chZ s l d a).z a = s.z a := if_neg (by omega)
    rw [hza] at n3
    obtain ⟨z1, z2⟩ := hs.z a hj1
    have n0 : ((0 : Nat) : Int) = 0 := rfl
    have n1 : ((1 : Nat) : Int) = 1 := rfl
    have n2 : ((2 : Nat) : Int) = 2 := rfl
    have same : sg (l.lab a) = 0 ∨ ¬ IsTop s a → Rn g hh b es (chZ s l d (s.n + (j + 1))) M k false V := fun hq => R1.congr' rfl rfl (fun _ _ => rfl) fun i hi => ⟨by
      show (if IsTop s i ∧ s.n ≤ i ∧ i < s.n + (j + 1) then s.z i + 2 * (sg (l.lab i) * d) else s.z i) = if IsTop s i ∧ s.n ≤ i ∧ i < a then s.z i + 2 * (sg (l.lab i) * d) else s.z i
      by_cases c : i = a
      · rw [c, if_neg (show ¬ (IsTop s a ∧ s.n ≤ a ∧ a < a) by omega)]
        by_cases c2 : IsTop s a ∧ s.n ≤ a ∧ a < s.n + (j + 1)
        · rw [if_pos c2]
          rcases hq with q | q
          · rw [q]; omega
          · exact absurd c2.1 q
        · rw [if_neg c2]
      · by_cases c2 : IsTop s i ∧ s.n ≤ i ∧ i < a
        · rw [if_pos c2, if_pos ⟨c2.1, c2.2.1, by omega⟩]
        · rw [if_neg c2, if_neg (fun q => c2 ⟨q.1, q.2.1, by omega⟩)], rfl, rfl, rfl, rfl⟩
    have turn : ∀ {h2 : Heap} (w : Int), IsTop s a → w = s.z a + 2 * (sg (l.lab a) * d) → Rn g h2 b es (setZ (chZ s l d a) a w) M k false V → Rn g h2 b es (chZ s l d (s.n + (j + 1))) M k false V := fun {h2} w ht hw' R2 => R2.congr' rfl rfl (fun _ _ => rfl) fun i hi => ⟨by
      show (if IsTop s i ∧ s.n ≤ i ∧ i < s.n + (j + 1) then s.z i + 2 * (sg (l.lab i) * d) else s.z i) = if i = a then w else if IsTop s i ∧ s.n ≤ i ∧ i < a then s.z i + 2 * (sg (l.lab i) * d) else s.z i
      by_cases c : i = a
      · rw [if_pos c, c, if_pos ⟨ht, han, by omega⟩, hw']
      · rw [if_neg c]
        by_cases c2 : IsTop s i ∧ s.n ≤ i ∧ i < a
        · rw [if_pos c2, if_pos ⟨c2.1, c2.2.1, by omega⟩]
        · rw [if_neg c2, if_neg (fun q => c2 ⟨q.1, q.2.1, by omega⟩)], rfl, rfl, rfl, rfl⟩
    by_cases c1 : IsTop s a
    rotate_left
    · rw [tP_f (fun q => c1 (hit.1 q))] at ci
      simp only [t0, t1, t4, t5, t7, ci, hw, Nat.zero_add, List.prefix_refl, go_sem]
      exact ⟨by omega, f1, len1, same (.inr c1)⟩
    rw [tP_t (hit.2 c1)] at ci
    have two := F.two a
    rcases (show l.lab a = 0 ∨ l.lab a = 1 ∨ l.lab a = 2 by omega) with la | la | la
    · rw [la, n0] at x2
      simp only [t0, t1, t4, t5, t7, ci, x1, x2, P1.chk, P1.fa, P1.ld0, hw, Nat.zero_add, List.prefix_refl, go_sem]
      exact ⟨by omega, f1, len1, same (.inl (by rw [la, sg0]))⟩
    · rw [la, n1] at x2
      have hw1 : IntKind.i64.wrap (2 * d) = 2 * d := w64 (by omega) (by omega)
      have hw2 : IntKind.i64.wrap (s.z a + 2 * d) = s.z a + 2 * d := w64 (by omega) (by omega)
      obtain ⟨h2, e1, e2, e3, _, R2⟩ := R1.stZ (i := a) hj1 (s.z a + 2 * d)
      have ni := R1.nia (i := a) hj1
      have nf := R1.nfa (i := a) hj1
      simp only [t0, t1, t4, t5, t7, ci, x1, x2, n3, e1, hw1, hw2, ni, nf, P1.chk, P1.fa, P1.ld0, R1.chk, R1.fa, R1.ld3, hw, Nat.zero_add, List.prefix_refl, go_sem]
      exact ⟨by omega, f1.trans (e2.mono fun _ q => .inr q), by rw [e3, len1], turn _ c1 (by rw [la, sg1]; omega) R2⟩
    · rw [la, n2] at x2
      have hw1 : IntKind.i64.wrap (2 * d) = 2 * d := w64 (by omega) (by omega)
      have hw2 : IntKind.i64.wrap (s.z a - 2 * d) = s.z a - 2 * d := w64 (by omega) (by omega)
      obtain ⟨h2, e1, e2, e3, _, R2⟩ := R1.stZ (i := a) hj1 (s.z a - 2 * d)
      have ni := R1.nia (i := a) hj1
      have nf := R1.nfa (i := a) hj1
      simp only [t0, t1, t4, t5, t7, ci, x1, x2, n3, e1, hw1, hw2, ni, nf, P1.chk, P1.fa, P1.ld0, R1.chk, R1.fa, R1.ld3, hw, Nat.zero_add, List.prefix_refl, go_sem]
      exact ⟨by omega, f1.trans (e2.mono fun _ q => .inr q), by rw [e3, len1], turn _ c1 (by rw [la, sg2]; omega) R2⟩
  have hjN : s.n + j = s.N := by omega
  rw [hjN] at R1
  have RC : Rn g hh b es (changeS s l d) M k false V := R1.congr' rfl rfl (fun _ _ => rfl) fun i hi => ⟨by
    have hi' : i < s.N := hi
    show (if IsTop s i ∧ s.n ≤ i then s.z i + 2 * (sg (l.lab i) * d) else s.z i) = if IsTop s i ∧ s.n ≤ i ∧ i < s.N then s.z i + 2 * (sg (l.lab i) * d) else s.z i
    by_cases c : IsTop s i ∧ s.n ≤ i
    · rw [if_pos c, if_pos ⟨c.1, c.2, hi'⟩]
    · rw [if_neg c, if_neg fun q => c ⟨q.1, q.2.1⟩], rfl, rfl, rfl, rfl⟩
  clear R1 hj hc
  have GC := G.chg F LD hf
  have hsC := GC.sm (show s.N ≤ 400 from hN)
  have mC : MtOk es (changeS s l d) M := m.chg K
  have bC : BsOk (changeS s l d) V.bs := hbs.chg
  have low1 : ∀ c, c + 1 < b → hh[c]? = h[c]? := f1.low R.ok R.bl
  by_cases cy : y = d
  · obtain ⟨h2, e1, e2, e3, R2⟩ := RC.st6 (T := fun _ => False) true
    simp only [t0, t1, t4, t5, t7, cy, RC.chk, RC.fa, e1, Nat.zero_add, go_sem]
    rw [finish_room (by rw [e3, len1])]
    refine ⟨rfl, g, V, _, M, true, R2, mC, bC, fun c hc => ?_, Nat.le_of_eq (by rw [e3, len1]), .inl (by simp), .inl ⟨rfl, .change F S LD hf ⟨v0, v1, v2, by omega⟩⟩⟩
    rw [e2.low RC.ok RC.bl c hc]
    exact low1 c hc
  have P1 := P.tn f1 hlo hgn
  obtain ⟨r, cf, hr⟩ := k_l10First (X := X) (L := L) RC hsC (show s.n ≤ s.N from nN) P1.l.rows (.inr P.ln.1)
  have hny : ¬ ∃ v, v < s.n ∧ l.lab (top s v) = 1 ∧ s.y v = d := fun ⟨v, a1, a2, a3⟩ => by have := hmin v a1 a2; omega
  rcases hr with ⟨rfl, hnf⟩ | ⟨B, rfl, hB1, hB2, hB3, hB4, hB5⟩
  · have hn1 : ¬ ((-1 : Int) ≥ 0) := by omega
    simp only [t0, t1, t4, t5, t7, cy, P1.chk, P1.fa, P1.ld0, cf, hn1, Nat.zero_add, List.prefix_refl, go_sem]
    rw [finish_room len1]
    have hz : ∀ p, IsTop s p → s.n ≤ p → l.lab p = 2 → (changeS s l d).z p ≠ 0 := fun p hp hn hl hz => hnf p hn hp.1 ⟨hp, hz, .inr (by rw [D.lab p hp.1]; exact hl)⟩
    refine ⟨rfl, g, V, _, M, false, RC, mC, bC, low1, Nat.le_of_eq len1.symm, ?_, .inr ⟨rfl, .change F S LD hf hny hz⟩⟩
    have hdp : d ≠ 0 := fun q => by
      rcases LD.by_ with q1 | ⟨e, he, hne, hq⟩ | ⟨p, hp, hn, hl, hq⟩
      · exact hny q1
      · have jn := cn_tops K he
        have hE := K.ed e he
        have tA := K.vTop hE.1
        have tB := K.vTop hE.2.1
        rcases hq with ⟨a1, a2, a3⟩ | ⟨a1 | a1, a3⟩
        · have := S e _ _ he (show slk es s e = 0 by omega) jn tA tB hne a1
          omega
        · have := S e _ _ he (show slk es s e = 0 by omega) jn tA tB hne a1.1
          omega
        · have := S e _ _ he (show slk es s e = 0 by omega) jn.symm tB tA (Ne.symm hne) a1.2
          omega
      · refine hz p hp hn hl ?_
        show (if IsTop s p ∧ s.n ≤ p then s.z p + 2 * (sg (l.lab p) * d) else s.z p) = 0
        rw [if_pos ⟨hp, hn⟩, hl, sg2]
        omega
    refine .inr (.inl ⟨rfl, v0, v1, ?_⟩)
    show s.y v0 - sg (l.lab (top s v0)) * d ≠ s.y v0
    rw [v2, sg1]
    omega
  · have hp1 : ((B : Int) ≥ 0) := by omega
    have hBT : IsTop s B := hB3
    have hlB : l.lab B = 2 := by
      rcases hB5 with q | q
      · have := P.ln.1; rw [q] at this; have := hBT.1; simp at *; omega
      · rw [← D.lab B hBT.1]; exact q
    have hBr : IsRing (changeS s l d) B := ⟨hB1, hBT.1, hBT.2.2⟩
    obtain ⟨a, h4, g4, V4, M4, c4, f4, R4, m4, a4, hh4, bs4, _⟩ := open_step (X := X) bC RC GC.K.ok0 mC gk n9 hN hBr hBT.2.1
    simp only [t0, t1, t4, t5, t7, cy, P1.chk, P1.fa, P1.ld0, cf, hp1, c4, Nat.zero_add, List.prefix_refl, go_sem]
    have df : Df s (openS (changeS s l d) B a) false false := .inr (.inr ⟨rfl, B, hBT.1, by
      show (if B = B then true else s.gone B) ≠ s.gone B
      rw [if_pos rfl, hBT.2.2]
      simp⟩)
    rw [fin_not (R.df R4 df)]
    refine ⟨rfl, g4, V4, _, M4, false, R4, m4, bs4.2, fun c hc => ?_, ?_, df, .inr ⟨rfl, .open_ F S LD hf hBT hB1 hlB hB4 a4 hh4⟩⟩
    · rw [f4.low RC.ok RC.bl c hc]
      exact low1 c hc
    · exact Nat.le_trans (Nat.le_of_eq len1.symm) f4.len
end
end Go.Proofs.Ytafhipglhnfgnaa.Ab
set_option linter.unusedSimpArgs false
set_option linter.unusedVariables false
set_option linter.unnecessarySimpa false
set_option maxHeartbeats 4000000
namespace Go.Proofs.Ytafhipglhnfgnaa.Ab
open Go.RowKit
section
variable {es : List E} {s : Sv} {l : Lb} {xs ys : List Nat}
theorem way_drp : ∀ {xs : List Nat} {j : Nat}, IsWay l xs → j < xs.length → IsWay l (xs.drop j)
  | _, 0, h, _ => h
  | [t], j + 1, _, hj => by simp at hj
  | t :: o :: xs, j + 1, h, hj => by
    have := way_drp (xs := o :: xs) (j := j) h.2 (by simpa using hj)
    simpa using this
theorem drop_last {xs : List Nat} {j : Nat} (hj : j < xs.length) : (xs.drop j).getD ((xs.drop j).length - 1) 0 = xs.getD (xs.length - 1) 0 := by
  rw [List.length_drop, List.getD_eq_getElem?_getD, List.getElem?_drop, ← List.getD_eq_getElem?_getD]
  congr 1
  omega
theorem way_dis (wx : IsWay l xs) (wy : IsWay l ys) (hr : xs.getD (xs.length - 1) 0 ≠ ys.getD (ys.length - 1) 0) : ∀ t, t ∈ xs → ¬ t ∈ ys := fun t h1 h2 => by
  obtain ⟨i, hi, rfl⟩ := mem_getD (d := 0) h1
  obtain ⟨k, hk, e⟩ := mem_getD (d := 0) h2
  have w1 := way_drp wx hi
  have w2 := way_drp wy hk
  have e1 : xs.drop i = xs.getD i 0 :: xs.drop (i + 1) := by rw [List.drop_eq_getElem_cons hi]; simp [List.getD, hi]
  have e2 : ys.drop k = ys.getD k 0 :: ys.drop (k + 1) := by rw [List.drop_eq_getElem_cons hk]; simp [List.getD, hk]
  rw [e1] at w1
  rw [e2, e] at w2
  have := way_one w1 w2
  apply hr
  rw [← drop_last hi, ← drop_last hk, e1, e2, e, this]
end
theorem Far.le {V : RV} {n m : Nat} (h : Far V n) (hm : m ≤ n) : Far V m := by
  obtain ⟨c, q, h1, h2⟩ := h
  exact ⟨c, q, by omega, h2⟩
section
variable {X : CallF} {g : Tags} {h : Heap} {b k : Nat} {es : List E} {s : Sv} {M : List Lk} {V : RV} {size Y Mx : Int}
set_option maxRecDepth 100000 in
theorem k_l10Round (hbs : BsOk s V.bs) (R : Rn g h b es s M k false V) (G : Gs es s Y Mx) (hN : s.N ≤ 400) (m : MtOk es s M) (gk : GOk size es) (he9 : es.length ≤ 1000) :
    ∃ h' g' V' s' M' dn', C T X n_spec_l10Round [p7 b 0] h = some (.tuple ⟨[]⟩, h') ∧ Rn g' h' b es s' M' k dn' V' ∧ MtOk es s' M' ∧ BsOk s' V'.bs ∧ (∀ c, c + 1 < b → h'[c]? = h[c]?) ∧ h.length ≤ h'.length ∧ ((dn' = true ∧ Last es s s') ∨ (dn' = false ∧ Round es s s')) := by
  suffices hx : ∃ w h', C T X n_spec_l10Round [p7 b 0] h = some (w, h') ∧ w = .tuple ⟨[]⟩ ∧ ∃ g' V' s' M' dn', Rn g' h' b es s' M' k dn' V' ∧ MtOk es s' M' ∧ BsOk s' V'.bs ∧ (∀ c, c + 1 < b → h'[c]? = h[c]?) ∧ h.length ≤ h'.length ∧ ((dn' = true ∧ Last es s s') ∨ (dn' = false ∧ Round es s s')) by
    obtain ⟨w, h', c, rfl, g', V', s', M', dn', q⟩ := hx
    exact ⟨h', g', V', s', M', dn', c, q⟩
  have K := G.K
  have hs := G.sm hN
  have hu := K.upOk
  have nN := K.nN
  obtain ⟨hh, l, rk, L, A, Q, r, cl, hp, hlen, F, D, P, hr⟩ := k_l10Label (X := X) R K hs m gk he9
  have R1 := R.up hp
  have hbl := R.bl
  have hg : ∀ c τ, g c = some τ → c < h.length := fun c τ q => (R.ok c τ q).2
  have lw : ∀ c, c + 1 < b → hh[c]? = h[c]? := fun c hc => get_of_pre hp (by omega)
  refine C_ex t_spec_l10Round rfl ?_
  unfold F_spec_l10Round
  rcases hr with ⟨rfl, S⟩ | ⟨e, rfl, hat⟩
  · obtain ⟨h', g', V', s', M', dn', ca, R', m', b', low, len, df, q⟩ := k_l10Adjust (X := X) hbs R1 G hN m gk P D F S he9 hbl hg
    have hn : ((-1 : Int) < 0) := by omega
    simp only [cl, hn, ca, Nat.zero_add, go_sem]
    rw [fin_not (R.df R' df)]
    exact ⟨rfl, g', V', s', M', dn', R', m', b', fun c hc => (low c hc).trans (lw c hc), Nat.le_trans (pre_len hp) len, q⟩
  · have hat' := hat
    obtain ⟨he, ht, hne, la, lb⟩ := hat'
    have hn : ¬ ((e : Int) < 0) := by omega
    obtain ⟨hE, hEB⟩ := K.ed e he
    obtain ⟨ga, gb, _⟩ := gok_int gk he
    have el := R1.ev.el (f := edgeR) e0 he
    have cta := k_l10Top (X := X) R1 hu (v := vA es e) (by omega)
    have ctb := k_l10Top (X := X) R1 hu (v := vB es e) (by omega)
    have aN : top s (vA es e) < s.N := top_lt hu (by omega)
    have cN : top s (vB es e) < s.N := top_lt hu (by omega)
    obtain ⟨xs, wx, hx0, qx⟩ := D.rt _ aN (show l.lab (top s (vA es e)) ≠ 0 by omega)
    obtain ⟨ys, wy, hy0, qy⟩ := D.rt _ cN (show l.lab (top s (vB es e)) ≠ 0 by omega)
    obtain ⟨x1, x2⟩ := P.qel aN
    obtain ⟨y1, y2⟩ := P.qel cN
    have er : edgeR (es.getD e e0) = [.int .i64 (vA es e : Nat), .int .i64 (vB es e : Nat), .int .i64 (es.getD e e0).w1, .int .i64 (es.getD e e0).w2, .int .i64 (es.getD e e0).w3] := by unfold edgeR; rw [ga, gb]
    rw [er] at el
    by_cases c : ((Q.getD (top s (vA es e)) 0 : Nat) : Int) = ((Q.getD (top s (vB es e)) 0 : Nat) : Int)
    · have hroot : xs.getD (xs.length - 1) 0 = ys.getD (ys.length - 1) 0 := by rw [← qx, ← qy]; omega
      obtain ⟨i, kk, Mt, hf⟩ := meet_mk F K hat wx wy hx0 hy0 hroot
      obtain ⟨h', g', V', M', cs, R', m', low, len, b', far⟩ := k_l10Shrink (X := X) hbs R1 K hs m gk P D Mt hf he hx0.symm hy0.symm hbl hg
      unfold edgeV at cs
      rw [er] at cs
      simp only [cl, hn, R1.chk, R1.fa, R1.ld1, el.1, el.2.1, el.2.2, cta, ctb, P.chk, P.fa, P.ld2, x1, x2, y1, y2, c, cs, Nat.zero_add, zeros, fillAt, List.prefix_refl, go_sem]
      rw [fin_keep hbl (R.diff R' (far.le (pre_len hp)))]
      exact ⟨rfl, g', V', _, M', false, R', m', b', fun c hc => (low c hc).trans (lw c hc), Nat.le_trans (pre_len hp) len, .inr ⟨rfl, .fold Mt⟩⟩
    · have hroot : xs.getD (xs.length - 1) 0 ≠ ys.getD (ys.length - 1) 0 := by rw [← qx, ← qy]; omega
      have jn := cn_tops (es := es) K he
      have Ag : Aug es s l rk e xs ys := ⟨F, wx, wy, by rw [hx0]; exact la, by rw [hy0]; exact lb, ht, by rw [hx0, hy0]; exact jn, way_dis wx wy hroot⟩
      obtain ⟨h', g', V', s', M', cs, R', O, m', low, len, b', far⟩ := k_l10Augment (X := X) hbs R1 K hs m gk P D Ag he hx0.symm hy0.symm hbl hg
      unfold edgeV at cs
      rw [er] at cs
      simp only [cl, hn, R1.chk, R1.fa, R1.ld1, el.1, el.2.1, el.2.2, cta, ctb, P.chk, P.fa, P.ld2, x1, x2, y1, y2, c, cs, Nat.zero_add, zeros, fillAt, List.prefix_refl, go_sem]
      rw [fin_keep hbl (R.diff R' (far.le (pre_len hp)))]
      exact ⟨rfl, g', V', s', M', false, R', m', b', fun c hc => (low c hc).trans (lw c hc), Nat.le_trans (pre_len hp) len, .inr ⟨rfl, .aug Ag O⟩⟩
end
end Go.Proofs.Ytafhipglhnfgnaa.Ab
set_option linter.unusedSimpArgs false
set_option linter.unusedVariables false
set_option linter.unnecessarySimpa false
set_option maxHeartbeats 4000000
namespace Go.Proofs.Ytafhipglhnfgnaa.Ab
open Go.RowKit
section
variable {es : List E} {s s' s1 : Sv} {k n : Nat} {y : Int}
theorem rounds_snoc (h : Rounds es k s s1) (r : Round es s1 s') : Rounds es (k + 1) s s' := by
  induction h with
  | zero s => exact .succ r (.zero _)
  | succ h _ ih => exact .succ h (ih r)
theorem opens_N (h : OpenZ es s s') : s'.N = s.N := by
  induction h with
  | refl s => rfl
  | step hB ht hz ha hh _ ih => exact ih
theorem round_N (h : Round es s s') : s'.N ≤ s.N + 1 := by
  cases h with
  | fold M => exact Nat.le_refl _
  | aug A O => rw [opens_N O]; exact Nat.le_succ _
  | change F S D hf hy hz => exact Nat.le_succ _
  | open_ F S D hf hB hn hl hz ha hh => exact Nat.le_succ _
theorem rounds_N (h : Rounds es k s s') : s'.N ≤ s.N + k := by
  induction h with
  | zero s => exact Nat.le_refl _
  | succ h _ ih => have := round_N h; omega
theorem last_N (h : Last es s s') : s'.N = s.N ∧ s'.n = s.n := by
  cases h with
  | none F h => exact ⟨rfl, rfl⟩
  | change F S D hf hy => exact ⟨rfl, rfl⟩
def startJ (n : Nat) (y : Int) (j : Nat) : Sv where
  n := n
  N := j
  y := fun v => if v < j then y else 0
  up := fun _ => none
  mem := fun _ => []
  lnk := fun _ => []
  mate := fun _ => none
  base := fun v => v
  z := fun _ => 0
  gone := fun _ => false
theorem start_mt : MtOk es (startS n y) [] := ⟨fun x hx => (by cases hx), fun t e _ h => (by cases h), .nil, Nat.zero_le _⟩
theorem start_bs {bs : Nat → Nat} (h : ∀ v, v < n → bs v = v) : BsOk (startS n y) bs := fun t i ht _ hw _ => h i (by
  have h1 : t < n := ht.1
  cases hw with
  | refl => exact h1
  | step e _ => cases e)
end
section
variable {X : CallF} {h : Heap} {es : List E} {v : Value} {n : Nat}
set_option maxRecDepth 100000 in
theorem k_l10Solve (he : Rows h 5 v (edges es)) (gk : GOk (n : Int) es) (n9 : n ≤ 9) (hl : es.length ≤ 1000) :
    ∃ h' g V s M kk Y Mx, C T X n_spec_l10Solve [graphV n v] h = some (p7 (h.length + 1) 0, h') ∧ h <+: h' ∧ Rn g h' (h.length + 1) es s M kk true V ∧ MtOk es s M ∧ BsOk s V.bs ∧ Gs es s Y Mx ∧ Frz s ∧ s.n = n ∧ s.N ≤ 400 := by
  suffices hx : ∃ w h', C T X n_spec_l10Solve [graphV n v] h = some (w, h') ∧ w = p7 (h.length + 1) 0 ∧ ∃ g V s M kk Y Mx, h <+: h' ∧ Rn g h' (h.length + 1) es s M kk true V ∧ MtOk es s M ∧ BsOk s V.bs ∧ Gs es s Y Mx ∧ Frz s ∧ s.n = n ∧ s.N ≤ 400 by
    obtain ⟨w, h', c, rfl, g, V, s, M, kk, Y, Mx, q⟩ := hx
    exact ⟨h', g, V, s, M, kk, Y, Mx, c, q⟩
  refine C_ex t_spec_l10Solve rfl ?_
  unfold F_spec_l10Solve graphV
  obtain ⟨h1, hh1⟩ : ∃ h1 : Heap, h1 = h ++ [⟨zeros [.int .i64 0] n, 1, y_int, true⟩] := ⟨_, rfl⟩
  have ln1 : h1.length = h.length + 1 := by rw [hh1]; simp
  have hmk : mkW h 1 y_int [.int .i64 0] (.int .i64 (n : Nat)) = some (slv h.length n, h1) := by rw [hh1]; exact mk_at (by unfold lim; omega)
  obtain ⟨h0, hh0⟩ : ∃ h0 : Heap, h0 = h1 ++ [⟨[.int .i64 (n : Nat), v, slv h.length n, nilV, nilV, .int .i64 0, .bool false], 7, y_l10Run, true⟩] := ⟨_, rfl⟩
  have hbx : bxW h1 y_l10Run 7 (.agg ⟨[.int .i64 (n : Nat), v, slv h.length n, .slice none 0 0, .slice none 0 0, .int .i64 0, .bool false]⟩) = some (p7 (h.length + 1) 0, h0) := by
    rw [hh0, ← ln1]; rfl
  have hsc : cellsOf (slv h.length n) = some [slv h.length n] := rfl
  obtain ⟨b, hb⟩ : ∃ b, b = h.length + 1 := ⟨_, rfl⟩
  rw [← hb] at hbx ⊢
  have p0 : h <+: h0 := by rw [hh0, hh1, List.append_assoc]; exact List.prefix_append _ _
  have he0 := he.up p0
  have ln0 : h0.length = h.length + 2 := by rw [hh0]; simp [ln1]
  obtain ⟨V0, hV0⟩ : ∃ V0 : RV, V0 = ⟨v, slv h.length n, nilV, nilV, fun _ => nilV, fun _ => nilV, fun v => v⟩ := ⟨_, rfl⟩
  have R0 : ∀ y, Rn (fun c => if c = h.length then some .y else none) h0 b es (startJ n y 0) [] 0 false V0 := fun y => by
    have ok : TagOk b (fun c => if c = h.length then some Tg.y else none) h0 := fun c τ q => by
      have q' : (if c = h.length then some Tg.y else none) = some τ := q
      by_cases e : c = h.length
      · omega
      · rw [if_neg e] at q'; cases q'
    refine ⟨ok, ?_, ?_, ⟨fun r hr => ?_, .inr ⟨h.length, if_pos rfl, ?_, ?_⟩⟩, ?_, ?_, fun i hi => ?_, fun i hi => ?_⟩
    · rw [hb, hh0, hV0, ← ln1]
      simp [runB, startJ]
    · have e : h0.take (b - 1) = h := by rw [hb, hh0, hh1]; simp [List.append_assoc]
      rw [e, hV0]
      exact he
    · simp [ints] at hr; obtain ⟨x, _, rfl⟩ := hr; rfl
    · rw [hV0]
      simp [ysOf, ints, startJ, slv]
    · rw [hh0, hh1]
      have : (ints (ysOf (startJ n y 0))).flatten = zeros [.int .i64 0] n := by
        rw [zeros1]
        congr 2
        simp [ysOf, startJ, natI, List.map_const']
      rw [this]
      simp
    · rw [hV0]; exact Has.nil
    · rw [hV0]; exact Has.nil
    · exact absurd hi (Nat.not_lt_zero i)
    · exact absurd hi (Nat.not_lt_zero i)
  simp only [hmk, hsc, hbx, List.length_cons, List.length_nil, List.cons_append, List.nil_append, List.drop_succ_cons, List.drop_zero, Nat.zero_add, go_sem]
  refine w_for es.length (fun i t' loc hh => hh = h0 ∧ t' 3 = p7 b 0 ∧ loc 1 = some [.int .i64 (n : Nat), v] ∧ t' 5 = .int .i64 (i : Nat) ∧ ∃ y : Int, t' 4 = .int .i64 y ∧ 0 ≤ y ∧ y ≤ 4515050 ∧ ∀ e, e < i → vW es e ≤ y) ⟨rfl, rfl, rfl, rfl, 0, rfl, by omega, by omega, fun e he => by omega⟩ ?_
  rintro i t' loc hh hi ⟨rfl, t3, l1, t5, y, t4, y0, y1, hy⟩
  have eln := he0.lnm
  simp only [t3, t5, l1, eln, go_sem]
  refine w_open (by simp only [go_sem]; rfl) ?_ ?_ <;> intro hc
  · have hi1 : i < es.length := by omega
    have hw : IntKind.i64.wrap ((i : Int) + 1) = ((i + 1 : Nat) : Int) := w64 (by omega) (by omega)
    have el := he0.el (f := edgeR) e0 hi1
    have cs := k_spec_Scalar (X := X) (h := hh) (e := es.getD i e0) (eok_w (gok_mem gk (getD_mem (d := e0) hi1)))
    have hsc2 : scalar (es.getD i e0).w1 (es.getD i e0).w2 (es.getD i e0).w3 = vW es i := rfl
    rw [hsc2] at cs
    unfold edgeV edgeR at cs
    unfold edgeR at el
    obtain ⟨w0, w1⟩ := gok_w gk hi1
    by_cases c1 : vW es i > y
    · simp only [t3, t4, t5, l1, el.1, el.2.1, el.2.2, cs, c1, hw, Nat.zero_add, List.prefix_refl, go_sem]
      refine ⟨hi1, _, rfl, w0, w1, fun e he => ?_⟩
      by_cases q : e = i
      · rw [q]; exact Int.le_refl _
      · have := hy e (by omega); omega
    · simp only [t3, t4, t5, l1, el.1, el.2.1, el.2.2, cs, c1, hw, Nat.zero_add, List.prefix_refl, go_sem]
      refine ⟨hi1, _, rfl, y0, y1, fun e he => ?_⟩
      by_cases q : e = i
      · rw [q]; omega
      · exact hy e (by omega)
  have hie : i = es.length := by omega
  rw [hie] at hy
  simp only [t3, t4, t5, l1, go_sem]
  clear hc hie hi eln t3 t4 t5
  have R0' := R0 y
  have hVb : ∀ i, V0.bs i = i := fun i => by rw [hV0]
  have vln0 : hh.length = b + 1 := by rw [ln0, hb]
  clear R0 hh0
  obtain ⟨g0, hg0⟩ : ∃ g0 : Tags, g0 = fun c => if c = h.length then some Tg.y else none := ⟨_, rfl⟩
  rw [← hg0] at R0'
  refine w_for n (fun j t' loc h2 => t' 3 = p7 b 0 ∧ loc 1 = some [.int .i64 (n : Nat), v] ∧ t' 4 = .int .i64 y ∧ t' 6 = .int .i64 (j : Nat) ∧ ∃ g' V', Tn b (fun τ => τ = .y ∨ τ = .n) g0 hh g' h2 ∧ Rn g' h2 b es (startJ n y j) [] 0 false V' ∧ ∀ i, V'.bs i = i) ⟨rfl, by rw [← l1]; rfl, rfl, rfl, g0, V0, Tn.refl R0'.ok, R0', hVb⟩ ?_
  clear l1
  clear t' loc i
  rintro j t' loc h2 hj ⟨t3, l1, t4, t6, g', V', f, R, hvb⟩
  simp only [t6, l1, go_sem]
  refine w_open (by simp only [go_sem]; rfl) ?_ ?_ <;> intro hc
  · have hj1 : j < n := by omega
    have hw : IntKind.i64.wrap ((j : Int) + 1) = ((j + 1 : Nat) : Int) := w64 (by omega) (by omega)
    obtain ⟨b1, _⟩ := R.yia (v := j) hj1
    obtain ⟨h3, e1, e2, e3, _, R1⟩ := R.stY (i := j) hj1 y
    have hr : Has g' h3 (.rg (setY (startJ n y j) j y).N) 1 y_int nilV (ints (natI [])) := Has.nil
    have hl : Has g' h3 (.lk (setY (startJ n y j) j y).N) 2 y_l10Link nilV (([] : List Lk).map lkR) := Has.nil
    have hjl : j < lim := by unfold lim; omega
    obtain ⟨nv, h4, h5, g5, w1, w2, w3, w4, f5, R5⟩ := R1.pushN (u := j) hjl hr hl (ls := []) ⟨rfl, fun j hj => by cases hj⟩
    unfold ndR at w1
    have R6 : Rn g5 h5 b es (startJ n y (j + 1)) [] 0 false (V'.more j nv nilV nilV j) := R5.congr' rfl rfl (fun i hi => by
      show (if i < j + 1 then y else 0) = if i = j then y else if i < j then y else 0
      by_cases q : i = j
      · rw [if_pos q, if_pos (by omega)]
      · rw [if_neg q]
        by_cases q2 : i < j
        · rw [if_pos q2, if_pos (by omega)]
        · rw [if_neg q2, if_neg (by omega)]) fun i hi => ⟨by show (0 : Int) = if i = j then 0 else 0; split <;> rfl, by show none = if i ∈ ([] : List Nat).take 0 then some j else if i = j then none else none; simp, by show false = if i = j then false else false; split <;> rfl, by show [] = if i = j then [] else []; split <;> rfl, by show [] = if i = j then [] else []; split <;> rfl⟩
    simp only [t3, t4, t6, l1, b1, e1, R.chk, R.fa, R.ld2, R1.chk, R1.fa, R1.ld3, w1, rb_chk w2, rb_fa w2, w3, w4, hw, Nat.zero_add, zeros, fillAt, List.prefix_refl, List.cons_append, List.nil_append, go_sem]
    refine ⟨hj1, g5, _, (f.trans (e2.mono fun _ q => .inl q)).trans (f5.mono fun _ q => .inr q), R6, fun i => ?_⟩
    show (if i = j then j else V'.bs i) = i
    by_cases q : i = j
    · rw [if_pos q, q]
    · rw [if_neg q]; exact hvb i
  have hjn : j = n := by omega
  rw [hjn] at R
  have RS : Rn g' h2 b es (startS n y) [] 0 false V' := R.congr' rfl rfl (fun i hi => by
    have hi' : i < n := hi
    show y = if i < n then y else 0
    rw [if_pos hi']) fun i hi => ⟨rfl, rfl, rfl, rfl, rfl⟩
  clear hjn R hc hj
  simp only [t3, go_sem]
  have low2 : ∀ c, c + 1 < b → h2[c]? = h[c]? := fun c hc => by
    rw [f.low R0'.ok R0'.bl c hc]
    exact get_of_pre p0 (by omega)
  have len2 : hh.length ≤ h2.length := f.len
  have hed := gok_ed gk rfl
  have I0 := start_inv (es := es) n9 hed hy y0
  have G0 : Gs es (startS n y) y y := ⟨I0.K, I0.L, start_bd, fun p _ => rfl, n9, y1⟩
  refine w_meas 331 (fun m t' loc hx => t' 3 = p7 b 0 ∧ ∃ g' V' s M kk dn, Rn g' hx b es s M kk dn V' ∧ MtOk es s M ∧ BsOk s V'.bs ∧ (∃ Y, Gs es s Y y) ∧ (∀ c, c + 1 < b → hx[c]? = h[c]?) ∧ h.length ≤ hx.length ∧ s.n = n ∧ s.N ≤ 400 ∧ kk ≤ 400 ∧ ((dn = false ∧ Rounds es kk (startS n y) s ∧ m + kk = 331) ∨ (dn = true ∧ Frz s))) ⟨rfl, g', V', _, _, _, _, RS, start_mt, start_bs fun v _ => hvb v, ⟨y, G0⟩, low2, by omega, rfl, by show n ≤ 400; omega, by omega, .inl ⟨rfl, .zero _, rfl⟩⟩ ?_
  clear t3 t4 t6 l1 f RS hvb low2 len2
  clear t' loc h2 g' V' j
  rintro m t' loc hx ⟨t3, g', V', s, M, kk, dn, R, mt, bs, ⟨Y, G⟩, low, len, hsn, hN, hkk, hq⟩
  have ck : (kk : Int) < 20000 := by omega
  rcases hq with ⟨rfl, hr, hm⟩ | ⟨rfl, hfr⟩
  rotate_left
  · simp only [t3, R.chk, R.fa, R.ld5, R.ld6, ck, Nat.zero_add, go_sem]
    rw [finish_deep (by rfl)]
    exact ⟨rfl, rfl, g', V', s, M, kk, Y, y, pre_of_get len fun c hc => low c (by omega), R, mt, bs, G, hfr, hsn, hN⟩
  have hk := run_short n9 hed hy y0 hr
  have rN := rounds_N hr
  have rN' : s.N ≤ n + kk := rN
  obtain ⟨h3, e1, e2, e3, R3⟩ := R.st5 (T := fun _ => False) (kk + 1)
  have hw : IntKind.i64.wrap ((kk : Int) + 1) = ((kk + 1 : Nat) : Int) := w64 (by omega) (by omega)
  obtain ⟨h4, g4, V4, s4, M4, dn4, c4, R4, m4, b4, low4, len4, q4⟩ := k_l10Round (X := X) bs R3 G hN mt gk hl
  simp only [t3, R.chk, R.fa, R.ld5, R.ld6, ck, e1, hw, c4, Nat.zero_add, go_sem]
  have low' : ∀ c, c + 1 < b → h4[c]? = h[c]? := fun c hc => by rw [low4 c hc, e2.low R.ok R.bl c hc]; exact low c hc
  have len' : h.length ≤ h4.length := Nat.le_trans len (Nat.le_trans e2.len len4)
  rcases q4 with ⟨rfl, hL⟩ | ⟨rfl, hR⟩
  · obtain ⟨Y', G', F'⟩ := G.last hL
    obtain ⟨n1, n2⟩ := last_N hL
    exact ⟨0, by omega, g4, V4, s4, M4, kk + 1, true, R4, m4, b4, ⟨Y', G'⟩, low', len', n2.trans hsn, by rw [n1]; exact hN, by omega, .inr ⟨rfl, F'⟩⟩
  · obtain ⟨Y', G'⟩ := G.rnd hR
    have hn4 : s4.n = s.n := by
      obtain ⟨_, _, _, q, _⟩ := round_less (b := 14) ⟨G.K, G.L, G.n9, fun s' l' rk' H F S => mu14 (folds_ok H G.K).1 (by rw [folds_n H G.K]; exact G.n9)⟩ hR
      exact q
    have := round_N hR
    exact ⟨m - 1, by omega, g4, V4, s4, M4, kk + 1, false, R4, m4, b4, ⟨Y', G'⟩, low', len', hn4.trans hsn, by omega, by omega, .inl ⟨rfl, rounds_snoc hr hR, by omega⟩⟩
end
end Go.Proofs.Ytafhipglhnfgnaa.Ab
set_option linter.unusedSimpArgs false
set_option linter.unusedVariables false
set_option linter.unnecessarySimpa false
set_option maxHeartbeats 4000000
namespace Go.Proofs.Ytafhipglhnfgnaa.Ab
open Go.RowKit
def aheadB : List Int → List Int → Bool
  | [], [] => false
  | [], _ :: _ => true
  | _ :: _, [] => false
  | x :: xs, y :: ys => if x = y then aheadB xs ys else decide (x < y)
theorem ahead_cons {x y : Int} {xs ys : List Int} : aheadB (x :: xs) (y :: ys) = if x = y then aheadB xs ys else decide (x < y) := by rw [aheadB]
section
variable {X : CallF} {h : Heap} {va vb : Value} {a b : List Int}
theorem ahead_step : ∀ {a b : List Int} {i : Nat}, i < a.length → i < b.length → a.getD i 0 = b.getD i 0 → aheadB (a.drop i) (b.drop i) = aheadB (a.drop (i + 1)) (b.drop (i + 1)) := fun {a b i} h1 h2 h3 => by
  rw [List.drop_eq_getElem_cons h1, List.drop_eq_getElem_cons h2]
  have e1 : a.getD i 0 = a[i] := by simp [List.getD, h1]
  have e2 : b.getD i 0 = b[i] := by simp [List.getD, h2]
  rw [ahead_cons, ← e1, ← e2, if_pos h3]
theorem ahead_ne {i : Nat} (h1 : i < a.length) (h2 : i < b.length) (h3 : ¬ a.getD i 0 = b.getD i 0) : aheadB (a.drop i) (b.drop i) = decide (a.getD i 0 < b.getD i 0) := by
  rw [List.drop_eq_getElem_cons h1, List.drop_eq_getElem_cons h2]
  have e1 : a.getD i 0 = a[i] := by simp [List.getD, h1]
  have e2 : b.getD i 0 = b[i] := by simp [List.getD, h2]
  rw [ahead_cons, ← e1, ← e2, if_neg h3]
theorem ahead_end {i : Nat} (h1 : i ≤ a.length) (h2 : i ≤ b.length) (h : ¬ (i < a.length ∧ i < b.length)) : aheadB (a.drop i) (b.drop i) = decide (a.length < b.length) := by
  by_cases c : i < a.length
  · have hb : b.drop i = [] := List.drop_eq_nil_of_le (by omega)
    rw [hb, List.drop_eq_getElem_cons c]
    unfold aheadB
    rw [decide_eq_false (by omega)]
  · have ha : a.drop i = [] := List.drop_eq_nil_of_le (by omega)
    rw [ha]
    by_cases c2 : i < b.length
    · rw [List.drop_eq_getElem_cons c2]
      unfold aheadB
      rw [decide_eq_true (by omega)]
    · have hb : b.drop i = [] := List.drop_eq_nil_of_le (by omega)
      rw [hb]
      unfold aheadB
      rw [decide_eq_false (by omega)]
theorem k_l10Ahead (ra : Rows h 1 va (ints a)) (rb : Rows h 1 vb (ints b)) (hl : a.length ≤ 100) (hl2 : b.length ≤ 100) : C T X n_spec_l10Ahead [va, vb] h = some (.bool (aheadB a b), h) := by
  refine C_go t_spec_l10Ahead rfl ?_
  unfold F_spec_l10Ahead
  simp only [go_sem]
  refine w_for (min a.length b.length) (fun i t loc h' => h' = h ∧ t 0 = va ∧ t 1 = vb ∧ t 5 = .int .i64 (i : Nat) ∧ aheadB a b = aheadB (a.drop i) (b.drop i)) ⟨rfl, rfl, rfl, rfl, by simp⟩ ?_
  rintro i t loc h' hi ⟨rfl, t0, t1, t5, he⟩
  by_cases c1 : (i : Int) < (a.length : Int)
  · by_cases c2 : (i : Int) < (b.length : Int)
    · have hi1 : i < a.length := by omega
      have hi2 : i < b.length := by omega
      have hw : IntKind.i64.wrap ((i : Int) + 1) = ((i + 1 : Nat) : Int) := w64 (by omega) (by omega)
      have ea := int_el ra hi1
      have eb := int_el rb hi2
      by_cases c3 : a.getD i 0 = b.getD i 0
      · simp only [t0, t1, t5, ints_ln ra, ints_ln rb, c1, c2, ea.1, ea.2, eb.1, eb.2, c3, hw, go_sem]
        exact ⟨by omega, by rw [he, ahead_step hi1 hi2 c3]⟩
      · simp only [t0, t1, t5, ints_ln ra, ints_ln rb, c1, c2, ea.1, ea.2, eb.1, eb.2, c3, hw, go_sem]
        rw [he, ahead_ne hi1 hi2 c3]
    · simp only [t0, t1, t5, ints_ln ra, ints_ln rb, c1, c2, go_sem]
      rw [he, ahead_end (by omega) (by omega) (by omega)]
      congr 1
      simp
  · simp only [t0, t1, t5, ints_ln ra, ints_ln rb, c1, go_sem]
    rw [he, ahead_end (by omega) (by omega) (by omega)]
    congr 1
    simp
end
noncomputable def placeG (s : Sv) (ps : List Nat) (p : Nat) : Nat → Nat
  | 0 => 0
  | k + 1 => if aheadB (memL s p) (memL s (ps.getD k 0)) = true then placeG s ps p k else k + 1
noncomputable def insP (s : Sv) (ps : List Nat) (p : Nat) : List Nat := ps.take (placeG s ps p ps.length) ++ p :: ps.drop (placeG s ps p ps.length)
open Classical in
noncomputable def gTo (s : Sv) (i : Nat) : List Nat := ((List.range i).filter fun p => decide (IsRing s p ∧ 0 < s.z p)).foldl (insP s) []
section
variable {s : Sv} {ps : List Nat} {p i : Nat}
theorem insP_perm : (insP s ps p).Perm (p :: ps) := by
  unfold insP
  have := List.perm_middle (a := p) (l₁ := ps.take (placeG s ps p ps.length)) (l₂ := ps.drop (placeG s ps p ps.length))
  rw [List.take_append_drop] at this
  exact this
theorem fold_perm : ∀ {qs ps : List Nat}, (qs.foldl (insP s) ps).Perm (qs ++ ps)
  | [], ps => List.Perm.refl _
  | q :: qs, ps => by
    rw [List.foldl_cons]
    refine (fold_perm (qs := qs)).trans ?_
    refine (List.Perm.append_left qs insP_perm).trans ?_
    exact List.perm_middle
theorem gTo_perm : (gTo s s.N).Perm (zRings s) := by
  unfold gTo zRings
  have := fold_perm (s := s) (qs := (List.range s.N).filter fun p => open Classical in decide (IsRing s p ∧ 0 < s.z p)) (ps := [])
  rw [List.append_nil] at this
  exact this
theorem gTo_lt : ∀ q ∈ gTo s i, q < i := fun q hq => by
  unfold gTo at hq
  have := (fold_perm (s := s) (ps := [])).mem_iff.1 hq
  rw [List.append_nil] at this
  exact List.mem_range.1 (List.mem_filter.1 this).1
theorem gTo_len : (gTo s i).length ≤ i := by
  unfold gTo
  rw [(fold_perm (s := s) (ps := [])).length_eq, List.append_nil]
  exact Nat.le_trans (List.length_filter_le _ _) (by rw [List.length_range]; exact Nat.le_refl _)
open Classical in
theorem gTo_yes (h : IsRing s i ∧ 0 < s.z i) : gTo s (i + 1) = insP s (gTo s i) i := by
  unfold gTo
  rw [List.range_succ, List.filter_append, List.foldl_append]
  have : [i].filter (fun p => decide (IsRing s p ∧ 0 < s.z p)) = [i] := by simp [h]
  rw [this]
  rfl
open Classical in
theorem gTo_no (h : ¬ (IsRing s i ∧ 0 < s.z i)) : gTo s (i + 1) = gTo s i := by
  unfold gTo
  rw [List.range_succ, List.filter_append]
  have : [i].filter (fun p => decide (IsRing s p ∧ 0 < s.z p)) = [] := by simp only [List.filter_cons, List.filter_nil]; rw [decide_eq_false h]; rfl
  rw [this, List.append_nil]
theorem gTo_low : ∀ {i : Nat}, i ≤ s.n → gTo s i = []
  | 0, _ => rfl
  | i + 1, h => by
    rw [gTo_no fun q => by have := q.1.1; omega, gTo_low (by omega)]
end
structure Gm (h : Heap) (lo : Nat) (s : Sv) (v : Value) (ps : List Nat) (mv : Nat → Value) : Prop where
  out : Own h lo h.length 2 y_Group v (ps.map fun p => [mv p, .int .i64 (s.z p)])
  ins : ∀ p ∈ ps, Own h lo h.length 1 y_int (mv p) (ints (memL s p))
theorem Gm.up {h h' : Heap} {lo : Nat} {s : Sv} {v : Value} {ps : List Nat} {mv : Nat → Value} (g : Gm h lo s v ps mv) (hp : h <+: h') : Gm h' lo s v ps mv := ⟨(g.out.up hp).wide (Nat.le_refl _) (pre_len hp), fun p hq => ((g.ins p hq).up hp).wide (Nat.le_refl _) (pre_len hp)⟩
def OG (h : Heap) (lo : Nat) (v : Value) (gs : List Gp) : Prop := ∃ vs, Own h lo h.length 2 y_Group v (gRows vs gs) ∧ ∀ i, i < gs.length → Own h lo h.length 1 y_int (vs.getD i nilV) (ints (gs.getD i g0).ms)
theorem OG.rows {h : Heap} {lo : Nat} {v : Value} {gs : List Gp} (o : OG h lo v gs) : RowsG h v gs := by
  obtain ⟨vs, h1, h2⟩ := o
  exact ⟨vs, h1.rows, fun i hi => (h2 i hi).rows⟩
theorem Gm.og {h : Heap} {lo : Nat} {s : Sv} {v : Value} {ps : List Nat} {mv : Nat → Value} (g : Gm h lo s v ps mv) : OG h lo v (ps.map (grpOf s)) := by
  have hv : ∀ i, i < ps.length → (ps.map mv).getD i nilV = mv (ps.getD i 0) := fun i hi => by simp [List.getD, hi]
  have hg : ∀ i, i < ps.length → (ps.map (grpOf s)).getD i g0 = grpOf s (ps.getD i 0) := fun i hi => by simp [List.getD, hi]
  refine ⟨ps.map mv, ?_, fun i hi => ?_⟩
  · have e : gRows (ps.map mv) (ps.map (grpOf s)) = ps.map fun p => [mv p, .int .i64 (s.z p)] := by
      apply List.ext_getElem
      · simp
      · intro i h1 h2
        have hi : i < ps.length := by simpa using h2
        simp only [List.getElem_map, List.getElem_range]
        unfold gRow
        rw [hv i hi, hg i hi]
        simp [grpOf, List.getD, hi]
    rw [e]
    exact g.out
  · rw [List.length_map] at hi
    rw [hv i hi, hg i hi]
    exact g.ins _ (getD_mem (d := 0) hi)
end Go.Proofs.Ytafhipglhnfgnaa.Ab
set_option linter.unusedSimpArgs false
set_option linter.unusedVariables false
set_option linter.unnecessarySimpa false
set_option maxHeartbeats 4000000
namespace Go.Proofs.Ytafhipglhnfgnaa.Ab
open Go.RowKit
open Classical in
noncomputable def memTo (s : Sv) (p u : Nat) : List Int := ((List.range u).filter fun v => decide (Wi s v p)).map fun v : Nat => (v : Int)
theorem memTo_n {s : Sv} {p : Nat} : memTo s p s.n = memL s p := rfl
open Classical in
theorem memTo_yes {s : Sv} {p u : Nat} (h : Wi s u p) : memTo s p (u + 1) = memTo s p u ++ [(u : Int)] := by
  unfold memTo
  rw [List.range_succ, List.filter_append, List.map_append]
  simp [h]
open Classical in
theorem memTo_no {s : Sv} {p u : Nat} (h : ¬ Wi s u p) : memTo s p (u + 1) = memTo s p u := by
  unfold memTo
  rw [List.range_succ, List.filter_append, List.map_append]
  simp [h]
theorem memTo_len {s : Sv} {p u : Nat} : (memTo s p u).length ≤ u := by
  unfold memTo
  rw [List.length_map]
  exact Nat.le_trans (List.length_filter_le _ _) (by rw [List.length_range]; exact Nat.le_refl _)
section
variable {X : CallF} {g : Tags} {h : Heap} {b k : Nat} {es : List E} {s : Sv} {M : List Lk} {dn : Bool} {V : RV}
set_option maxRecDepth 100000 in
open Classical in
theorem k_l10Groups (R : Rn g h b es s M k dn V) (K : Ok es s) (hs : Sm s) :
    ∃ v h' mv, C T X n_spec_l10Groups [p7 b 0] h = some (v, h') ∧ h <+: h' ∧ cellsOf v = some [v] ∧ Gm h' h.length s v (gTo s s.N) mv := by
  suffices hx : ∃ w h', C T X n_spec_l10Groups [p7 b 0] h = some (w, h') ∧ ∃ mv, h <+: h' ∧ cellsOf w = some [w] ∧ Gm h' h.length s w (gTo s s.N) mv by
    obtain ⟨w, h', c, mv, q⟩ := hx
    exact ⟨w, h', mv, c, q⟩
  have hu := K.upOk
  have nN := K.nN
  have h9 := hs.N
  have n9 := hs.n
  refine C_ex t_spec_l10Groups rfl ?_
  unfold F_spec_l10Groups
  have R0 := R.up (List.prefix_append h [⟨[], 2, y_Group, true⟩])
  simp only [R0.chk, R0.fa, R0.ld0, Nat.zero_add, zeros, fillAt, go_sem]
  refine w_for (s.N - s.n) (fun j t' loc hh => t' 0 = p7 b 0 ∧ t' 4 = .int .i64 ((s.n + j : Nat) : Int) ∧ h <+: hh ∧ ∃ v mv c q r, t' 3 = v ∧ v = .slice (some c) q r ∧ Gm hh h.length s v (gTo s (s.n + j)) mv) ⟨rfl, rfl, List.prefix_append _ _, .slice (some ⟨h.length, 0, none⟩) 0 0, fun _ => nilV, _, _, _, rfl, rfl, ?_⟩ ?_
  · rw [show s.n + 0 = s.n from rfl, gTo_low (Nat.le_refl _)]
    exact ⟨Acc.new.own, fun p hp => by cases hp⟩
  rintro j t' loc hh hj ⟨t0, t4, hp, v, mv, cp, qn, rn, t3, hv, G⟩
  have R' := R.up hp
  simp only [t0, t4, R'.chk, R'.fa, R'.ld3, R'.nln, Nat.zero_add, go_sem]
  refine w_open (by simp only [go_sem]; rfl) ?_ ?_ <;> intro hc
  · have hj1 : s.n + j < s.N := by omega
    have hw : IntKind.i64.wrap (((s.n + j : Nat) : Int) + 1) = ((s.n + (j + 1) : Nat) : Int) := w64 (by omega) (by omega)
    obtain ⟨i, hi⟩ : ∃ i, i = s.n + j := ⟨_, rfl⟩
    have hi' : s.n + (j + 1) = i + 1 := by omega
    rw [hi'] at hw
    rw [← hi] at hj1 hw t4 G hc ⊢
    have n5 := R'.n5 hj1
    have n3 := R'.n3 hj1
    have no : ¬ (IsRing s i ∧ 0 < s.z i) → Gm hh h.length s v (gTo s (s.n + (j + 1))) mv := fun q => by rw [hi', gTo_no q]; exact G
    cases hg : s.gone i with
    | true =>
      rw [hg] at n5
      simp only [t0, t3, t4, R'.chk, R'.fa, R'.ld3, R'.nia hj1, R'.nfa hj1, n5, hw, Nat.zero_add, go_sem]
      exact ⟨by omega, by rw [hi'], hp, v, mv, cp, qn, rn, rfl, hv, no fun q => by rw [q.1.2.2] at hg; cases hg⟩
    | false =>
      rw [hg] at n5
      by_cases c1 : s.z i ≤ 0
      · simp only [t0, t3, t4, R'.chk, R'.fa, R'.ld3, R'.nia hj1, R'.nfa hj1, n5, n3, c1, hw, Nat.zero_add, go_sem]
        exact ⟨by omega, by rw [hi'], hp, v, mv, cp, qn, rn, rfl, hv, no fun q => by omega⟩
      have hR : IsRing s i ∧ 0 < s.z i := ⟨⟨by omega, hj1, hg⟩, by omega⟩
      simp only [t0, t3, t4, R'.chk, R'.fa, R'.ld3, R'.nia hj1, R'.nfa hj1, n5, n3, c1, hw, Nat.zero_add, go_sem]
      obtain ⟨ps, hps⟩ : ∃ ps, ps = gTo s i := ⟨_, rfl⟩
      rw [← hps] at G
      have psl : ∀ q ∈ ps, q < i := fun q hq => gTo_lt q (by rw [← hps]; exact hq)
      have pslen : ps.length ≤ i := by rw [hps]; exact gTo_len
      have hlen0 := pre_len hp
      refine w_for s.n (fun u t' loc h2 => t' 0 = p7 b 0 ∧ t' 3 = v ∧ t' 4 = .int .i64 (i : Nat) ∧ t' 6 = .int .i64 (u : Nat) ∧ hh <+: h2 ∧ ∃ mvv, loc 5 = some [mvv, .int .i64 (s.z i)] ∧ Own h2 hh.length h2.length 1 y_int mvv (ints (memTo s i u))) ⟨rfl, rfl, rfl, rfl, List.prefix_refl _, nilV, rfl, Own.nil⟩ ?_
      clear t0 t3 t4 hc n5 n3 c1
      clear t' loc
      rintro u t' loc h2 hu2 ⟨t0, t3, t4, t6, hp2, mvv, l5, o⟩
      have R2 := R'.up hp2
      simp only [t0, t6, R2.chk, R2.fa, R2.ld0, Nat.zero_add, go_sem]
      refine w_open (by simp only [go_sem]; rfl) ?_ ?_ <;> intro hc
      · have hu1 : u < s.n := by omega
        have hw : IntKind.i64.wrap ((u : Int) + 1) = ((u + 1 : Nat) : Int) := w64 (by omega) (by omega)
        have cw := k_l10Within (X := X) (t := i) R2 hu (v := u) (by omega)
        by_cases c2 : Wi s u i
        · rw [tP_t c2] at cw
          obtain ⟨v3, h3, e3, q1, q2, o3⟩ := o.push1 (pre_len hp2) [.int .i64 (u : Nat)] rfl (by rw [ints_len]; have := memTo_len (s := s) (p := i) (u := u); unfold lim; omega)
          rw [Nat.max_eq_right q1] at o3
          simp only [t0, t3, t4, t6, l5, cw, e3, o3.cells, hw, Nat.zero_add, zeros, fillAt, List.prefix_refl, List.cons_append, List.nil_append, go_sem]
          refine ⟨hu1, pre_push hp2 (Nat.le_refl _) q1 q2, v3, rfl, ?_⟩
          rw [memTo_yes c2]
          simpa [ints] using o3
        · rw [tP_f c2] at cw
          simp only [t0, t3, t4, t6, l5, cw, hw, Nat.zero_add, zeros, fillAt, List.prefix_refl, go_sem]
          exact ⟨hu1, hp2, mvv, rfl, by rw [memTo_no c2]; exact o⟩
      have hun : u = s.n := by omega
      rw [hun, memTo_n] at o
      clear hun hu2 hc
      have G2 := G.up hp2
      have gln : lnV h2 v = some (.int .i64 (ps.length : Nat)) := G2.out.rows.lnm
      simp only [t0, t3, t4, t6, l5, gln, go_sem]
      have mlen : ∀ p, (memL s p).length ≤ 100 := fun p => by have := memTo_len (s := s) (p := p) (u := s.n); rw [memTo_n] at this; omega
      have tail : ∀ m : Nat, m ≤ ps.length → placeG s ps i ps.length = m → ∃ v1 v8 h4 v9 h5 v10 v11 h6, slLV 2 v none (some (.int .i64 (m : Nat))) (h2 ++ ([⟨[], 2, y_Group, true⟩] : Heap)) = some v1 ∧ appW (h2 ++ ([⟨[], 2, y_Group, true⟩] : Heap)) 2 y_Group (.slice (some ⟨h2.length, 0, none⟩) 0 0) v1 = some (v8, h4) ∧ appLW h4 2 y_Group 1 v8 (some [mvv, .int .i64 (s.z i)]) = some (v9, h5) ∧ slLV 2 v (some (.int .i64 (m : Nat))) none h5 = some v10 ∧ appW h5 2 y_Group v9 v10 = some (v11, h6) ∧ h <+: h6 ∧ (∃ c q r, v11 = .slice (some c) q r) ∧ ∃ mv', Gm h6 h.length s v11 (gTo s (s.n + (j + 1))) mv' := fun m hm hpl => by
        have p3 : h2 <+: h2 ++ ([⟨[], 2, y_Group, true⟩] : Heap) := List.prefix_append _ _
        have o0 : Own (h2 ++ ([⟨[], 2, y_Group, true⟩] : Heap)) h2.length (h2 ++ ([⟨[], 2, y_Group, true⟩] : Heap)).length 2 y_Group (.slice (some ⟨h2.length, 0, none⟩) 0 0) [] := Acc.new.own
        have G3 := G2.up p3
        have hrl : (ps.map fun p => [mv p, Value.int .i64 (s.z p)]).length = ps.length := List.length_map ..
        obtain ⟨v1, e1, r1⟩ := G3.out.rows.sub (i := 0) (k := m) (Nat.zero_le _) (by rw [hrl]; exact hm) (by omega) (lo := none) (hi := some (.int .i64 (m : Nat))) rfl rfl
        rw [List.drop_zero, Nat.sub_zero] at r1
        obtain ⟨v8, h4, e2, q1, q2, o4⟩ := o0.app (pre_len p3) r1 (by rw [List.length_take, hrl]; unfold lim; simp; omega)
        have p4 : h2 <+: h4 := pre_push p3 (Nat.le_refl _) q1 q2
        rw [Nat.max_eq_right q1, List.nil_append] at o4
        obtain ⟨v9, h5, e3, q3, q4, o5⟩ := o4.push1 (pre_len p4) [mvv, .int .i64 (s.z i)] rfl (by rw [List.length_take, hrl]; unfold lim; omega)
        have p5 : h2 <+: h5 := pre_push p4 (Nat.le_refl _) q3 q4
        rw [Nat.max_eq_right q3] at o5
        have l25 := pre_len hp2
        obtain ⟨v10, e4, r4⟩ := (G2.up p5).out.rows.sub (i := m) (k := ps.length) hm (by rw [hrl]; exact Nat.le_refl _) (by omega) (lo := some (.int .i64 (m : Nat))) (hi := none) rfl (by rw [hrl]; rfl)
        obtain ⟨v11, h6, e5, q5, q6, o6⟩ := o5.app (pre_len p5) r4 (by simp only [List.length_append, List.length_take, List.length_drop, List.length_cons, List.length_nil, hrl]; unfold lim; omega)
        have p6 : h2 <+: h6 := pre_push p5 (Nat.le_refl _) q5 q6
        rw [Nat.max_eq_right q5] at o6
        refine ⟨v1, v8, h4, v9, h5, v10, v11, h6, e1, e2, e3, e4, e5, (hp.trans hp2).trans p6, ?_, fun q => if q = i then mvv else mv q, ?_⟩
        · rcases o6.is with ⟨_, q⟩ | ⟨c, _, _, l3, _⟩
          · simp at q
          · exact ⟨_, _, _, l3⟩
        · rw [hi', gTo_yes hR, ← hps]
          have hrow : ∀ q ∈ ps, (fun p => [mv p, Value.int .i64 (s.z p)]) q = (fun p => [(fun q => if q = i then mvv else mv q) p, Value.int .i64 (s.z p)]) q := fun q hq => by
            have := psl q hq
            simp only
            rw [if_neg (by omega)]
          refine ⟨?_, fun q hq => ?_⟩
          · have := o6.wide (lo' := h.length) (by omega) (Nat.le_refl _)
            unfold insP
            rw [hpl, List.map_append, List.map_cons]
            rw [← List.map_take, ← List.map_drop, List.append_assoc] at this
            have t1 : (ps.drop m).take (ps.length - m) = ps.drop m := List.take_of_length_le (by rw [List.length_drop]; exact Nat.le_refl _)
            rw [← List.map_take, t1] at this
            rw [List.map_congr_left fun q hq => hrow q (List.mem_of_mem_take hq), List.map_congr_left (l := ps.drop m) fun q hq => hrow q (List.mem_of_mem_drop hq)] at this
            simp only [if_true]
            simpa using this
          · have hq' := insP_perm.mem_iff.1 hq
            rcases List.mem_cons.1 hq' with e | hq'
            · rw [e]
              show Own h6 h.length h6.length 1 y_int (if i = i then mvv else mv i) _
              rw [if_pos rfl]
              exact (o.up p6).wide hlen0 (pre_len p6)
            · have := psl q hq'
              show Own h6 h.length h6.length 1 y_int (if q = i then mvv else mv q) _
              rw [if_neg (by omega)]
              exact ((G2.ins q hq').up p6).wide (Nat.le_refl _) (pre_len p6)
      refine w_meas ps.length (fun m t' loc hx => hx = h2 ∧ t' 0 = p7 b 0 ∧ t' 3 = v ∧ t' 4 = .int .i64 (i : Nat) ∧ loc 5 = some [mvv, .int .i64 (s.z i)] ∧ t' 7 = .int .i64 (m : Nat) ∧ m ≤ ps.length ∧ placeG s ps i m = placeG s ps i ps.length) ⟨rfl, rfl, rfl, rfl, by rw [← l5]; rfl, rfl, Nat.le_refl _, rfl⟩ ?_
      clear t0 t3 t4 t6 l5
      clear t' loc u
      rintro m t' loc hx ⟨ehx, t0, t3, t4, l5, t7, hm, hpl⟩
      rw [ehx]
      clear ehx hx
      cases m with
      | zero =>
        have n0 : ¬ (((0 : Nat) : Int) > 0) := by omega
        obtain ⟨v1, v8, h4, v9, h5, v10, v11, h6, e1, e2, e3, e4, e5, e6, ⟨c', q', r', e7⟩, mv', e8⟩ := tail 0 (Nat.zero_le _) (by rw [← hpl]; rfl)
        simp only [t0, t3, t4, t7, l5, n0, zeros, fillAt, List.cons_append, List.nil_append, e1, e2, e3, e4, e5, hw, go_sem]
        exact ⟨by omega, by rw [hi'], e6, v11, mv', c', q', r', rfl, e7, e8⟩
      | succ q =>
        have hq : q < ps.length := by omega
        have n0 : (((q + 1 : Nat) : Int) > 0) := by omega
        have hw2 : IntKind.i64.wrap (((q + 1 : Nat) : Int) - 1) = (q : Nat) := by rw [w64 (by omega) (by omega)]; omega
        have el := G2.out.rows.el (f := fun p => [mv p, Value.int .i64 (s.z p)]) 0 hq
        have c0 := G2.out.rows.cell (f := fun p => [mv p, Value.int .i64 (s.z p)]) 0 hq (o := 0) (by omega)
        have c0' : ldC h2 (elemP v 2 q 0) 1 = some [mv (ps.getD q 0)] := c0
        have rb := (G2.ins _ (getD_mem (d := 0) hq)).rows
        have ca := k_l10Ahead (X := X) o.rows rb (mlen _) (mlen _)
        cases hb : aheadB (memL s i) (memL s (ps.getD q 0)) with
        | true =>
          rw [hb] at ca
          simp only [t0, t3, t4, t7, l5, n0, hw2, el.1, el.2.1, c0', ca, Nat.zero_add, go_sem]
          refine ⟨q, by omega, by omega, by omega, ?_⟩
          rw [← hpl]
          show _ = if aheadB (memL s i) (memL s (ps.getD q 0)) = true then placeG s ps i q else q + 1
          rw [if_pos hb]
        | false =>
          rw [hb] at ca
          obtain ⟨v1, v8, h4, v9, h5, v10, v11, h6, e1, e2, e3, e4, e5, e6, ⟨c', q', r', e7⟩, mv', e8⟩ := tail (q + 1) hm (by
            rw [← hpl]
            show (if aheadB (memL s i) (memL s (ps.getD q 0)) = true then placeG s ps i q else q + 1) = q + 1
            rw [if_neg (by rw [hb]; simp)])
          simp only [t0, t3, t4, t7, l5, n0, hw2, el.1, el.2.1, c0', ca, zeros, fillAt, List.cons_append, List.nil_append, e1, e2, e3, e4, e5, hw, Nat.zero_add, go_sem]
          exact ⟨by omega, by rw [hi'], e6, v11, mv', c', q', r', rfl, e7, e8⟩
  · have hjN : s.n + j = s.N := by omega
    rw [hjN] at G
    simp only [t0, t3, t4, go_sem]
    rw [finish_deep (by rw [hv]; rfl)]
    exact ⟨by rw [hv]; rfl, mv, hp, by rw [hv]; rfl, G⟩
end
end Go.Proofs.Ytafhipglhnfgnaa.Ab
