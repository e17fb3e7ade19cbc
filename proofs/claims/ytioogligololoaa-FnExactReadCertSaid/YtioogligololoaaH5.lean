/- The laws' helpers, in one form: copies, sizes, marks. No conditions. -/
import Derived.Test.YtioogligololoaaH1
set_option linter.unusedSimpArgs false
set_option linter.unusedVariables false
set_option linter.unnecessarySimpa false
set_option maxHeartbeats 4000000
namespace Go.Proofs.Ytioogligololoaa.Ab
open Go.RowKit
section
variable {X : CallF} {h : Heap} {v : Value} {es : List E} {il : List Int} {cl : List Cp} {size n : Int}

theorem Own.all {rws : List (List Value)} {sz : Nat} {ty : TypeId} (hl : ∀ r ∈ rws, r.length = sz) : Own (h ++ [⟨rws.flatten, sz, ty, true⟩]) h.length (List.length (h ++ [(⟨rws.flatten, sz, ty, true⟩ : Blk)])) sz ty (.slice (some ⟨h.length, 0, none⟩) rws.length rws.length) rws := (Own.made hl).wide (Nat.le_refl _) (by simp)
theorem x_toGraph (he : Rows h 5 v (edges es)) (hl : es.length ≤ lim) : ∃ w hh, C T X n_laws_toGraph [graphV size v] h = some (graphV size w, hh) ∧ h <+: hh ∧ Own hh h.length hh.length 5 y_Edge w (edges es) :=
  ⟨_, _, k_toGraph he hl, List.prefix_append _ _, by have := Own.all (h := h) (ty := y_Edge) (map_row (l := es) edgeR_len); rw [List.length_map] at this; exact this⟩
theorem x_toIntS (he : Rows h 1 v (ints il)) (hl : il.length ≤ lim) : ∃ w hh, C T X n_laws_toIntS [v] h = some (w, hh) ∧ h <+: hh ∧ Own hh h.length hh.length 1 y_int w (ints il) :=
  ⟨_, _, k_toIntS he hl, List.prefix_append _ _, by have := Own.all (h := h) (ty := y_int) (ints_row (l := il)); rw [ints_len] at this; exact this⟩
theorem x_toCoupleS (he : Rows h 2 v (cps cl)) (hl : cl.length ≤ lim) : ∃ w hh, C T X n_laws_toCoupleS [v] h = some (w, hh) ∧ h <+: hh ∧ Own hh h.length hh.length 2 y_Couple w (cps cl) :=
  ⟨_, _, k_toCoupleS he hl, List.prefix_append _ _, by have := Own.all (h := h) (ty := y_Couple) (map_row (l := cl) cpR_len); rw [List.length_map] at this; exact this⟩
theorem szL_le {len : Nat} (h0 : 0 ≤ n) : szL len n ≤ n ∧ (0 ≤ szL len n → (len : Int) ≤ n) := by unfold szL; split <;> omega
theorem z_szGraph (he : Rows h 5 v (edges es)) (hm : es.length ≤ maxLen) (h0 : 0 ≤ n) (h1 : n ≤ 1048576) : ∃ m, C T X n_laws_szGraph [graphV size v, .int .i64 n] h = some (.int .i64 m, h) ∧ m ≤ 1048576 ∧ (0 ≤ m → es.length ≤ 1048576) :=
  ⟨_, k_szGraph he hm h0 h1, by have := szL_le (len := es.length) h0; omega, fun hk => by have := (szL_le (len := es.length) h0).2 hk; omega⟩
theorem z_szCoupleS (he : Rows h 2 v (cps cl)) (hm : cl.length ≤ maxLen) (h0 : 0 ≤ n) (h1 : n ≤ 1048576) : ∃ m, C T X n_laws_szCoupleS [v, .int .i64 n] h = some (.int .i64 m, h) ∧ m ≤ 1048576 ∧ (0 ≤ m → cl.length ≤ 1048576) :=
  ⟨_, k_szCoupleS he hm h0 h1, by have := szL_le (len := cl.length) h0; omega, fun hk => by have := (szL_le (len := cl.length) h0).2 hk; omega⟩
theorem m_markIntS {lo hi : Nat} (o : Own h lo hi 1 y_int v (ints il)) (hl : il.length ≤ lim) {k : Nat} (hk : k ≤ 2305843009213693952) : ∃ h', C T X n_laws_markIntS [v, .int .i64 (k : Int)] h = some (.int .i64 ((k + il.length : Nat) : Int), h') ∧ Same lo hi h h' := by
  obtain ⟨h', c, s, _⟩ := k_markIntS (X := X) o (by rw [ints_len]; exact hl) hk
  rw [ints_len, Nat.mul_one] at c
  exact ⟨h', c, s⟩
theorem m_markCoupleS {lo hi : Nat} (o : Own h lo hi 2 y_Couple v (cps cl)) (hl : cl.length ≤ lim) {k : Nat} (hk : k ≤ 2305843009213693952) : ∃ h', C T X n_laws_markCoupleS [v, .int .i64 (k : Int)] h = some (.int .i64 ((k + cl.length * 2 : Nat) : Int), h') ∧ Same lo hi h h' := by
  obtain ⟨h', c, s, _⟩ := k_markCoupleS (X := X) o (by rw [List.length_map]; exact hl) hk
  rw [List.length_map] at c
  exact ⟨h', c, s⟩
end
end Go.Proofs.Ytioogligololoaa.Ab
