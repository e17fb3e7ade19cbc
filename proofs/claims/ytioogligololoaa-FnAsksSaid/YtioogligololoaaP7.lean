/- Plain: numbers in bytes are read as they were written. No conditions. -/
import Derived.Test.YtioogligololoaaP6
set_option linter.unusedSimpArgs false
set_option linter.unusedVariables false
set_option linter.unnecessarySimpa false
set_option maxHeartbeats 4000000
namespace Go.Proofs.Ytioogligololoaa.Ab
open Go.RowKit

/-- The text's bytes. -/
structure Bts (s : ByteArray) (L : List Int) : Prop where
  size : s.size = L.length
  at_ : ∀ i, i < L.length → ((byt s i : Nat) : Int) = L.getD i 0
theorem bts_of {L : List Int} (h : ∀ x ∈ L, 0 ≤ x ∧ x < 256) : Bts (strOfNums L) L := by
  refine ⟨strOfNums_size _, fun i hi => ?_⟩
  unfold byt
  rw [strOfNums_data]
  have hx := h _ (getD_mem (d := 0) hi)
  have e : (L.map fun n => UInt8.ofNat n.toNat).getD i 0 = UInt8.ofNat (L.getD i 0).toNat := by simp [hi]
  rw [e]
  generalize L.getD i 0 = x at hx
  have e2 : (UInt8.ofNat x.toNat).toNat = x.toNat % 256 := by simp
  rw [e2]
  omega
theorem bysOf_rng {l : List Int} : ∀ x ∈ bysOf l, 0 ≤ x ∧ x < 256 := by
  intro x hx
  unfold bysOf at hx
  obtain ⟨n, _, hn⟩ := List.mem_flatMap.1 hx
  exact varL_rng _ _ (Nat.lt_succ_self _) x hn

section
variable {s : ByteArray} {L : List Int}
theorem rvGo_enc (hB : Bts s L) {a0 : Nat} : ∀ (k r : Nat), r < k → ∀ (f : Nat) (pre suf : List Int) (n u : Nat), L = pre ++ (varL r ++ suf) → (r = 0 → pre.length = a0) → n + r * u ≤ 1000000000 → (varL r).length ≤ f → rvGo s a0 f pre.length n u = some (n + r * u, pre.length + (varL r).length)
  | 0, r, h, _, _, _, _, _, _, _, _, _ => by omega
  | k + 1, r, hk, f, pre, suf, n, u, hL, h0, hn, hf => by
    have hlen : L.length = pre.length + ((varL r).length + suf.length) := by rw [hL]; simp
    have hp := varL_pos r
    have hi : pre.length < s.size := by rw [hB.size]; omega
    have hb := hB.at_ pre.length (by omega)
    cases f with
    | zero => omega
    | succ f =>
      by_cases hr : 127 < r
      · have hv : varL r = ((r % 128 + 128 : Nat) : Int) :: varL (r / 128) := by rw [varL]; rw [if_pos hr]
        have hg : L.getD pre.length 0 = ((r % 128 + 128 : Nat) : Int) := by
          rw [hL, hv]
          simp
        rw [hg] at hb
        have hb' : byt s pre.length = r % 128 + 128 := by omega
        rw [rvGo_more hi (by omega), hb']
        have hmod : (r % 128 + 128) % 128 = r % 128 := by omega
        rw [hmod]
        have ih := rvGo_enc hB (a0 := a0) k (r / 128) (by omega) f (pre ++ [((r % 128 + 128 : Nat) : Int)]) suf (n + r % 128 * u) (u * 128) (by rw [hL, hv]; simp) (fun h => by omega) ?_ (by rw [hv] at hf; simp at hf; omega)
        · rw [List.length_append, List.length_singleton] at ih
          rw [ih, hv, List.length_cons]
          have e : n + r % 128 * u + r / 128 * (u * 128) = n + r * u := by
            have : r * u = (r % 128) * u + (r / 128) * (u * 128) := by
              conv => lhs; rw [← Nat.mod_add_div r 128, Nat.add_mul]
              congr 1
              rw [Nat.mul_comm 128 (r / 128), Nat.mul_assoc, Nat.mul_comm 128 u]
            omega
          rw [e]
          congr 2
          omega
        · have : r * u = (r % 128) * u + (r / 128) * (u * 128) := by
            conv => lhs; rw [← Nat.mod_add_div r 128, Nat.add_mul]
            congr 1
            rw [Nat.mul_comm 128 (r / 128), Nat.mul_assoc, Nat.mul_comm 128 u]
          omega
      · have hv : varL r = [(r : Int)] := by rw [varL]; rw [if_neg hr]
        have hg : L.getD pre.length 0 = (r : Int) := by
          rw [hL, hv]
          simp
        rw [hg] at hb
        have hb' : byt s pre.length = r := by omega
        have hmod : r % 128 = r := Nat.mod_eq_of_lt (by omega)
        rw [rvGo_yes hi (by omega) (by rw [hb', hmod]; rintro (⟨q1, q2⟩ | q); · have := h0 q1; omega
                                       · omega), hb', hmod, hv]
        rfl
theorem rvAt_enc (hB : Bts s L) {r : Nat} (hr : r ≤ 1000000000) {pre suf : List Int} (hL : L = pre ++ (varL r ++ suf)) : rvAt s (pre.length : Int) = some (r, pre.length + (varL r).length) := by
  have hlen : L.length = pre.length + ((varL r).length + suf.length) := by rw [hL]; simp
  unfold rvAt
  rw [if_pos ⟨by omega, by rw [hB.size]; omega⟩, Int.toNat_natCast]
  unfold rdVar
  have := rvGo_enc hB (a0 := pre.length) (r + 1) r (Nat.lt_succ_self _) 5 pre suf 0 1 hL (fun _ => rfl) (by omega) (varL_len r hr)
  rw [this, Nat.mul_one, Nat.zero_add]
theorem num_enc (hB : Bts s L) {n : Int} (hn : 0 ≤ n ∧ n ≤ 1000000000) {pre suf : List Int} (hL : L = pre ++ (varL n.toNat ++ suf)) : numStep s (pre.length, false) = (n, (pre.length + (varL n.toNat).length, false)) := by
  unfold numStep
  simp only
  rw [rvAt_enc hB (by omega) hL]
  simp only
  congr 1
  omega
/-- A list of numbers is read as it was written. -/
theorem nums_enc (hB : Bts s L) {ns : List Int} (hns : ∀ n ∈ ns, 0 ≤ n ∧ n ≤ 1000000000) {pre suf : List Int} (hL : L = pre ++ (bysOf ns ++ suf)) : ∀ i, i ≤ ns.length → sS s (pre.length, false) i = (pre.length + (bysOf (ns.take i)).length, false) ∧ ∀ j, j < i → sV s (pre.length, false) j = ns.getD j 0
  | 0, _ => ⟨by simp [sS, bysOf], fun j hj => by omega⟩
  | i + 1, hi => by
    obtain ⟨ih1, ih2⟩ := nums_enc hB hns hL i (by omega)
    have hlt : i < ns.length := by omega
    have hn := hns _ (getD_mem (d := 0) hlt)
    have e1 : ns.take (i + 1) = ns.take i ++ [ns.getD i 0] := take_snocD hlt
    have hstep : numStep s (pre.length + (bysOf (ns.take i)).length, false) = (ns.getD i 0, (pre.length + (bysOf (ns.take i)).length + (varL (ns.getD i 0).toNat).length, false)) := by
      have hL2 : L = (pre ++ bysOf (ns.take i)) ++ (varL (ns.getD i 0).toNat ++ (bysOf (ns.drop (i + 1)) ++ suf)) := by
        rw [hL]
        have : ns = ns.take i ++ (ns.getD i 0 :: ns.drop (i + 1)) := by
          rw [List.getD_eq_getElem?_getD, List.getElem?_eq_getElem hlt, Option.getD_some, ← List.drop_eq_getElem_cons hlt, List.take_append_drop]
        conv => lhs; rw [this, bysOf_append]
        simp [bysOf]
      have := num_enc hB hn hL2
      rw [List.length_append] at this
      exact this
    have hs1 : sS s (pre.length, false) (i + 1) = (numStep s (sS s (pre.length, false) i)).2 := rfl
    have hv : sV s (pre.length, false) i = (numStep s (sS s (pre.length, false) i)).1 := rfl
    rw [ih1, hstep] at hs1 hv
    refine ⟨?_, below_succ ih2 hv⟩
    rw [hs1, e1, bysOf_append, List.length_append]
    simp [bysOf, Nat.add_assoc]
end

/-- An ask comes back from its bytes. -/
theorem ask_back {op : Int} {l : List Int} (hl : l.length = 5) (h : AskOk op l) : AskIs (askText op l) ∧ rdOp (askText op l) = op ∧ ∀ i, i < 5 → rdL (askText op l) (numK op) i = l.getD i 0 := by
  obtain ⟨hop, hj⟩ := h
  have hK : numK op ≤ 5 := by rcases numK_cases op with e | e | e <;> omega
  obtain ⟨ns, hns⟩ : ∃ ns, ns = l.take (numK op) := ⟨_, rfl⟩
  have hnl : ns.length = numK op := by rw [hns, List.length_take]; omega
  have hnr : ∀ n ∈ ns, 0 ≤ n ∧ n ≤ 1000000000 := fun n hn => by
    rw [hns] at hn
    obtain ⟨i, hi, rfl⟩ := mem_getD (d := 0) (List.mem_of_mem_take hn)
    exact (hj i (by omega)).1
  have ht : askText op l = strOfNums (op :: bysOf ns) := by
    unfold askText
    rw [← hns]
    have h1 := catV_bys hnr
    have e : catV (strOfNums [op]) ns = strOfNums [op] ++ catV noT ns := (catV_from).symm
    rw [e, h1]
    apply ByteArray.ext
    apply Array.toList_inj.1
    rw [ByteArray.data_append, Array.toList_append, strOfNums_data, strOfNums_data, strOfNums_data, ← List.map_append]
    rfl
  obtain ⟨s, hs⟩ : ∃ s, s = askText op l := ⟨_, rfl⟩
  rw [← hs] at ht ⊢
  have hB : Bts s (op :: bysOf ns) := by
    rw [ht]
    refine bts_of fun x hx => ?_
    cases List.mem_cons.1 hx with
    | inl e => rw [e]; omega
    | inr e => exact bysOf_rng x e
  have hop0 : rdOp s = op := by
    have := hB.at_ 0 (by simp)
    exact this
  have hn := nums_enc hB hnr (pre := [op]) (suf := []) (by simp)
  have hrd : ∀ i, i < 5 → rdL s (numK op) i = l.getD i 0 := fun i hi => by
    unfold rdL
    by_cases hik : i < numK op
    · rw [if_pos hik]
      have h1 := (hn (numK op) (by omega)).2 i hik
      rw [hns] at h1
      have e : (l.take (numK op)).getD i 0 = l.getD i 0 := by
        rw [List.getD_eq_getElem?_getD, List.getElem?_take, if_pos hik, ← List.getD_eq_getElem?_getD]
      rw [e] at h1
      exact h1
    · rw [if_neg hik]
      exact ((hj i hi).2 (by omega)).symm
  have hal : rdAL s (numK op) = l := by
    unfold rdAL
    rw [hrd 0 (by omega), hrd 1 (by omega), hrd 2 (by omega), hrd 3 (by omega), hrd 4 (by omega)]
    match l, hl with
    | [a, b, c, d, e], _ => rfl
  refine ⟨⟨by rw [hB.size]; simp, ?_, ?_, ?_⟩, hop0, hrd⟩
  · rw [hop0]
    have h1 := (hn (numK op) (by omega)).1
    have : sS s (1, false) (numK op) = (1 + (bysOf (ns.take (numK op))).length, false) := h1
    rw [this]
  · rw [hop0, hal]
    exact ⟨hop, hj⟩
  · rw [hop0, hal, hs]
end Go.Proofs.Ytioogligololoaa.Ab
