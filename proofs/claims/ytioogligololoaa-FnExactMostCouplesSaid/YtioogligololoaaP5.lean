/- Plain: sets of vertices as bits of a number. No conditions. -/
import Derived.Test.YtioogligololoaaP4
set_option linter.unusedSimpArgs false
set_option linter.unusedVariables false
set_option linter.unnecessarySimpa false
set_option maxHeartbeats 4000000
namespace Go.Proofs.Ytioogligololoaa.Ab
open Go.RowKit

theorem andN {x y : Nat} (hx : x < 4611686018427387904) (hy : y < 4611686018427387904) : andI .i64 (x : Int) (y : Int) = ((x &&& y : Nat) : Int) := by
  have h1 : (BitVec.ofInt 64 (x : Int)).toNat = x := by rw [BitVec.toNat_ofInt]; omega
  have h2 : (BitVec.ofInt 64 (y : Int)).toNat = y := by rw [BitVec.toNat_ofInt]; omega
  unfold andI
  show IntKind.i64.wrap (((BitVec.ofInt 64 (x : Int) &&& BitVec.ofInt 64 (y : Int)).toNat : Nat) : Int) = _
  rw [BitVec.toNat_and, h1, h2]
  have := Nat.and_le_left (n := x) (m := y)
  exact w64 (by omega) (by omega)
theorem orN {x y : Nat} (hx : x < 512) (hy : y < 512) : orI .i64 (x : Int) (y : Int) = ((x ||| y : Nat) : Int) := by
  have h1 : (BitVec.ofInt 64 (x : Int)).toNat = x := by rw [BitVec.toNat_ofInt]; omega
  have h2 : (BitVec.ofInt 64 (y : Int)).toNat = y := by rw [BitVec.toNat_ofInt]; omega
  unfold orI
  show IntKind.i64.wrap (((BitVec.ofInt 64 (x : Int) ||| BitVec.ofInt 64 (y : Int)).toNat : Nat) : Int) = _
  rw [BitVec.toNat_or, h1, h2]
  have : x ||| y < 2 ^ 9 := Nat.or_lt_two_pow (by omega) (by omega)
  exact w64 (by omega) (by omega)

/-- The number's bits tell who is taken. -/
def Tk (x : Nat) (u : List Int) : Prop := x < 512 ∧ ∀ v : Nat, v < 9 → (x.testBit v = true ↔ (v : Int) ∈ u)
theorem tk_nil : Tk 0 [] := ⟨by omega, fun v _ => by simp⟩
theorem two_lt {a : Nat} (ha : a < 9) : 2 ^ a < 512 := Nat.pow_lt_pow_right (by omega) ha
theorem both_lt {a b : Nat} (ha : a < 9) (hb : b < 9) : 2 ^ a ||| 2 ^ b < 512 := Nat.or_lt_two_pow (n := 9) (two_lt ha) (two_lt hb)
theorem tk_free {x a b : Nat} {u : List Int} (h : Tk x u) (ha : a < 9) (hb : b < 9) : (x &&& (2 ^ a ||| 2 ^ b)) = 0 ↔ ¬ ((a : Int) ∈ u ∨ (b : Int) ∈ u) := by
  rw [← h.2 a ha, ← h.2 b hb]
  constructor
  · intro e q
    have key : ∀ i, (x &&& (2 ^ a ||| 2 ^ b)).testBit i = false := fun i => by rw [e]; simp
    rcases q with q | q
    · have := key a
      simp [Nat.testBit_and, Nat.testBit_or, Nat.testBit_two_pow_self, q] at this
    · have := key b
      simp [Nat.testBit_and, Nat.testBit_or, Nat.testBit_two_pow_self, q] at this
  · intro q
    apply Nat.eq_of_testBit_eq
    intro i
    rw [Nat.testBit_and, Nat.testBit_or, Nat.testBit_two_pow, Nat.testBit_two_pow, Nat.zero_testBit]
    by_cases h1 : a = i
    · subst h1
      have : x.testBit a = false := by simpa using fun e => q (.inl e)
      simp [this]
    · by_cases h2 : b = i
      · subst h2
        have : x.testBit b = false := by simpa using fun e => q (.inr e)
        simp [this]
      · simp [h1, h2]
theorem tk_take {x a b : Nat} {u : List Int} (h : Tk x u) (ha : a < 9) (hb : b < 9) : Tk (x ||| (2 ^ a ||| 2 ^ b)) ((a : Int) :: (b : Int) :: u) := by
  refine ⟨Nat.or_lt_two_pow (n := 9) h.1 (both_lt ha hb), fun v hv => ?_⟩
  rw [Nat.testBit_or, Nat.testBit_or, Nat.testBit_two_pow, Nat.testBit_two_pow]
  simp only [Bool.or_eq_true, decide_eq_true_eq, List.mem_cons, h.2 v hv]
  constructor
  · rintro (q | q | q)
    · exact .inr (.inr q)
    · exact .inl (by omega)
    · exact .inr (.inl (by omega))
  · rintro (q | q | q)
    · exact .inr (.inl (by omega))
    · exact .inr (.inr (by omega))
    · exact .inl q

/-- Edges with one worth, one. -/
def oneE (e : E) : E := ⟨e.a, e.b, 1, 0, 0⟩
theorem mm_one : ∀ (es : List E) (u : List Int), mm (es.map oneE) u = mm es u
  | [], _ => rfl
  | e :: es, u => by
    rw [List.map_cons]
    have h3 : mm (es.map oneE) ((oneE e).a :: (oneE e).b :: u) = mm es (e.a :: e.b :: u) := mm_one es _
    unfold mm
    rw [mm_one es u, h3]
    rfl
theorem most_first {es : List E} {n : Int} {w : Nat} (hE : ∀ e ∈ es, EOk n e) (h : Most (es.map oneE) (Fr 0 []) w) : w = mm es [] := by
  have h2 := mm_most (es.map oneE) []
  rw [mm_one] at h2
  refine h.eq (h2.congr (fun e he _ _ => ?_) fun e he _ _ => ⟨he, List.not_mem_nil, List.not_mem_nil⟩)
  obtain ⟨e', he', rfl⟩ := List.mem_map.1 he
  have := hE e' he'
  unfold EOk at this
  have h1 : (oneE e').a = e'.a := rfl
  have h3 : (oneE e').b = e'.b := rfl
  exact ⟨he, ⟨by omega, List.not_mem_nil⟩, ⟨by omega, List.not_mem_nil⟩⟩
end Go.Proofs.Ytioogligololoaa.Ab
