/- Contracts: readers. No conditions. -/
import Derived.Test.YtioogligololoaaK7
set_option linter.unusedSimpArgs false
set_option linter.unusedVariables false
set_option linter.unnecessarySimpa false
set_option maxHeartbeats 4000000
namespace Go.Proofs.Ytioogligololoaa.Ab
open Go.RowKit
/-- A reader's place, and the places of its fields. -/
def pk (b k : Nat) : Value := .pointer (some ⟨b, k, some 3⟩)
def rdB (ty : TypeId) (s : ByteArray) (p : Nat × Bool) : Blk := ⟨[.string s, .int .i64 (p.1 : Nat), .bool p.2], 3, ty, true⟩
/-- The next number, and the reader behind it. -/
def numStep (s : ByteArray) (p : Nat × Bool) : Int × (Nat × Bool) := match p.2 with
  | true => (0, (p.1, true))
  | false => match rvAt s p.1 with
    | some (n, k) => (n, (k, false))
    | none => (0, (p.1, true))
section
variable {X : CallF} {h : Heap} {b : Nat} {ty : TypeId} {s : ByteArray} {p : Nat × Bool}
theorem rd_fa (hb : h[b]? = some (rdB ty s p)) {k : Nat} : faV h (pk b 0) k = some (pk b k) := by simp [faV, pk, hb, rdB]
theorem rd_chk (hb : h[b]? = some (rdB ty s p)) : chkV h (pk b 0) = some (pk b 0) := by simp [chkV, ldC, pk, hb, rdB]
theorem rd_ld0 (hb : h[b]? = some (rdB ty s p)) : ldC h (pk b 0) 1 = some [.string s] := by simp [ldC, pk, hb, rdB]
theorem rd_ld1 (hb : h[b]? = some (rdB ty s p)) : ldC h (pk b 1) 1 = some [.int .i64 (p.1 : Nat)] := by simp [ldC, pk, hb, rdB]
theorem rd_ld2 (hb : h[b]? = some (rdB ty s p)) : ldC h (pk b 2) 1 = some [.bool p.2] := by simp [ldC, pk, hb, rdB]
theorem rd_st1 (hb : h[b]? = some (rdB ty s p)) {n : Nat} : stC h (pk b 1) [.int .i64 (n : Int)] = some (h.set b (rdB ty s (n, p.2))) := by simp [stC, pk, hb, rdB, putAt]
theorem rd_st2 (hb : h[b]? = some (rdB ty s p)) {c : Bool} : stC h (pk b 2) [.bool c] = some (h.set b (rdB ty s (p.1, c))) := by simp [stC, pk, hb, rdB, putAt]
theorem rd_set {q : Nat × Bool} (hb : h[b]? = some (rdB ty s p)) : (h.set b (rdB ty s q))[b]? = some (rdB ty s q) := List.getElem?_set_self (lt_of_get hb)
theorem set_len {x : Blk} : (h.set b x).length = h.length := List.length_set ..
theorem rv_ext0 {o : Option (Nat × Nat)} : rvT o = .tuple ⟨[.int .i64 ((o.map (·.1)).getD 0 : Nat), .int .i64 ((o.map (·.2)).getD 0 : Nat), .bool o.isSome]⟩ := by cases o <;> rfl

theorem k_impl_num (hb : h[b]? = some (rdB ty s p)) (hs : s.size ≤ lim) (hp : p.1 ≤ s.size) : C T X n_impl_reader_num [pk b 0] h = some (.int .i64 (numStep s p).1, h.set b (rdB ty s (numStep s p).2)) := by
  have hs' := hs
  unfold lim at hs'
  have cv := k_impl_ReadVar (X := X) (h := h) hs (a := (p.1 : Int)) ⟨by omega, by omega⟩
  refine C_go t_impl_reader_num rfl ?_
  unfold F_impl_reader_num
  obtain ⟨a, bad⟩ := p
  cases hr : rvAt s (a : Int) with
  | none =>
    rw [hr] at cv
    unfold rvT at cv
    cases bad with
    | true =>
      have hn : numStep s (a, true) = (0, (a, true)) := rfl
      rw [hn]
      simp only [rd_fa hb, rd_chk hb, rd_ld0 hb, rd_ld1 hb, rd_ld2 hb, rd_st2 hb, cv, List.prefix_refl, go_sem, reduceIte, Nat.reduceEqDiff, Nat.reduceAdd, Nat.reduceMul, Nat.reduceLT, Nat.reduceLeDiff, reduceCtorEq, ne_eq, Int.reduceEq, Int.reduceLT, Int.reduceLE, Int.reduceNeg, Int.reduceToNat]
      exact finish_room set_len
    | false =>
      have hn : numStep s (a, false) = (0, (a, true)) := by simp only [numStep, hr]
      rw [hn]
      simp only [rd_fa hb, rd_chk hb, rd_ld0 hb, rd_ld1 hb, rd_ld2 hb, rd_st2 hb, cv, List.prefix_refl, go_sem, reduceIte, Nat.reduceEqDiff, Nat.reduceAdd, Nat.reduceMul, Nat.reduceLT, Nat.reduceLeDiff, reduceCtorEq, ne_eq, Int.reduceEq, Int.reduceLT, Int.reduceLE, Int.reduceNeg, Int.reduceToNat]
      exact finish_room set_len
  | some q =>
    obtain ⟨n, k⟩ := q
    rw [hr] at cv
    unfold rvT at cv
    cases bad with
    | true =>
      have hn : numStep s (a, true) = (0, (a, true)) := rfl
      rw [hn]
      simp only [rd_fa hb, rd_chk hb, rd_ld0 hb, rd_ld1 hb, rd_ld2 hb, rd_st2 hb, cv, List.prefix_refl, go_sem, reduceIte, Nat.reduceEqDiff, Nat.reduceAdd, Nat.reduceMul, Nat.reduceLT, Nat.reduceLeDiff, reduceCtorEq, ne_eq, Int.reduceEq, Int.reduceLT, Int.reduceLE, Int.reduceNeg, Int.reduceToNat]
      exact finish_room set_len
    | false =>
      have hn : numStep s (a, false) = ((n : Int), (k, false)) := by simp only [numStep, hr]
      rw [hn]
      simp only [rd_fa hb, rd_chk hb, rd_ld0 hb, rd_ld1 hb, rd_ld2 hb, rd_st1 hb, cv, List.prefix_refl, go_sem, reduceIte, Nat.reduceEqDiff, Nat.reduceAdd, Nat.reduceMul, Nat.reduceLT, Nat.reduceLeDiff, reduceCtorEq, ne_eq, Int.reduceEq, Int.reduceLT, Int.reduceLE, Int.reduceNeg, Int.reduceToNat]
      exact finish_room set_len

theorem k_spec_l12Var (hb : h[b]? = some (rdB ty s p)) (hs : s.size ≤ lim) (hp : p.1 ≤ s.size) : C T X n_spec_l12Var [pk b 0] h = some (.int .i64 (numStep s p).1, h.set b (rdB ty s (numStep s p).2)) := by
  have hs' := hs
  unfold lim at hs'
  have cv := k_spec_ReadVar (X := X) (h := h) hs (a := (p.1 : Int)) ⟨by omega, by omega⟩
  refine C_go t_spec_l12Var rfl ?_
  unfold F_spec_l12Var
  obtain ⟨a, bad⟩ := p
  cases hr : rvAt s (a : Int) with
  | none =>
    rw [hr] at cv
    unfold rvT at cv
    cases bad with
    | true =>
      have hn : numStep s (a, true) = (0, (a, true)) := rfl
      rw [hn]
      simp only [rd_fa hb, rd_chk hb, rd_ld0 hb, rd_ld1 hb, rd_ld2 hb, rd_st2 hb, cv, List.prefix_refl, go_sem, reduceIte, Nat.reduceEqDiff, Nat.reduceAdd, Nat.reduceMul, Nat.reduceLT, Nat.reduceLeDiff, reduceCtorEq, ne_eq, Int.reduceEq, Int.reduceLT, Int.reduceLE, Int.reduceNeg, Int.reduceToNat]
      exact finish_room set_len
    | false =>
      have hn : numStep s (a, false) = (0, (a, true)) := by simp only [numStep, hr]
      rw [hn]
      simp only [rd_fa hb, rd_chk hb, rd_ld0 hb, rd_ld1 hb, rd_ld2 hb, rd_st2 hb, cv, List.prefix_refl, go_sem, reduceIte, Nat.reduceEqDiff, Nat.reduceAdd, Nat.reduceMul, Nat.reduceLT, Nat.reduceLeDiff, reduceCtorEq, ne_eq, Int.reduceEq, Int.reduceLT, Int.reduceLE, Int.reduceNeg, Int.reduceToNat]
      exact finish_room set_len
  | some q =>
    obtain ⟨n, k⟩ := q
    rw [hr] at cv
    unfold rvT at cv
    cases bad with
    | true =>
      have hn : numStep s (a, true) = (0, (a, true)) := rfl
      rw [hn]
      simp only [rd_fa hb, rd_chk hb, rd_ld0 hb, rd_ld1 hb, rd_ld2 hb, rd_st2 hb, cv, List.prefix_refl, go_sem, reduceIte, Nat.reduceEqDiff, Nat.reduceAdd, Nat.reduceMul, Nat.reduceLT, Nat.reduceLeDiff, reduceCtorEq, ne_eq, Int.reduceEq, Int.reduceLT, Int.reduceLE, Int.reduceNeg, Int.reduceToNat]
      exact finish_room set_len
    | false =>
      have hn : numStep s (a, false) = ((n : Int), (k, false)) := by simp only [numStep, hr]
      rw [hn]
      simp only [rd_fa hb, rd_chk hb, rd_ld0 hb, rd_ld1 hb, rd_ld2 hb, rd_st1 hb, cv, List.prefix_refl, go_sem, reduceIte, Nat.reduceEqDiff, Nat.reduceAdd, Nat.reduceMul, Nat.reduceLT, Nat.reduceLeDiff, reduceCtorEq, ne_eq, Int.reduceEq, Int.reduceLT, Int.reduceLE, Int.reduceNeg, Int.reduceToNat]
      exact finish_room set_len

/-- The next byte, and the reader behind it. -/
def oneStep (s : ByteArray) (p : Nat × Bool) : Int × (Nat × Bool) := if p.2 = true ∨ s.size ≤ p.1 then (0, (p.1, true)) else (byt s p.1, (p.1 + 1, false))
theorem k_impl_one (hb : h[b]? = some (rdB ty s p)) (hs : s.size ≤ lim) : C T X n_impl_reader_one [pk b 0] h = some (.int .i64 (oneStep s p).1, h.set b (rdB ty s (oneStep s p).2)) := by
  unfold lim at hs
  refine C_go t_impl_reader_one rfl ?_
  unfold F_impl_reader_one oneStep
  obtain ⟨a, bad⟩ := p
  cases bad with
  | true =>
    rw [if_pos (.inl rfl)]
    simp only [rd_fa hb, rd_chk hb, rd_ld0 hb, rd_ld1 hb, rd_ld2 hb, rd_st2 hb, List.prefix_refl, go_sem, reduceIte, Nat.reduceEqDiff, Nat.reduceAdd, Nat.reduceMul, Nat.reduceLT, Nat.reduceLeDiff, reduceCtorEq, ne_eq, Int.reduceEq, Int.reduceLT, Int.reduceLE, Int.reduceNeg, Int.reduceToNat]
    exact finish_room set_len
  | false =>
    by_cases hc : s.size ≤ a
    · have hc' : (s.size : Int) ≤ (a : Int) := by omega
      rw [if_pos (.inr hc)]
      simp only [rd_fa hb, rd_chk hb, rd_ld0 hb, rd_ld1 hb, rd_ld2 hb, rd_st2 hb, hc', List.prefix_refl, go_sem, reduceIte, Nat.reduceEqDiff, Nat.reduceAdd, Nat.reduceMul, Nat.reduceLT, Nat.reduceLeDiff, reduceCtorEq, ne_eq, Int.reduceEq, Int.reduceLT, Int.reduceLE, Int.reduceNeg, Int.reduceToNat]
      exact finish_room set_len
    · have hc' : ¬ (s.size : Int) ≤ (a : Int) := by omega
      rw [if_neg (by rintro (h | h); cases h; exact hc h)]
      have hw : IntKind.i64.wrap ((a : Int) + 1) = ((a + 1 : Nat) : Int) := w64 (by omega) (by omega)
      have hw2 : IntKind.i64.wrap (((a + 1 : Nat) : Int) - 1) = (a : Int) := by rw [w64 (by omega) (by omega)]; omega
      have hb2 := rd_set (q := (a + 1, false)) hb
      have hbt := byt_lt (s := s) (i := a)
      have hw3 : IntKind.i64.wrap ((byt s a : Nat) : Int) = (byt s a : Nat) := w64 (by omega) (by omega)
      have hst := rd_st1 hb (n := a + 1)
      simp only [rd_fa hb, rd_chk hb, rd_ld0 hb, rd_ld1 hb, rd_ld2 hb, hc', hw, hst, rd_fa hb2, rd_chk hb2, rd_ld0 hb2, rd_ld1 hb2, hw2, ix_byt (show a < s.size by omega), hw3, List.prefix_refl, go_sem, reduceIte, Nat.reduceEqDiff, Nat.reduceAdd, Nat.reduceMul, Nat.reduceLT, Nat.reduceLeDiff, reduceCtorEq, ne_eq, Int.reduceEq, Int.reduceLT, Int.reduceLE, Int.reduceNeg, Int.reduceToNat]
      exact finish_room set_len
theorem k_impl_ends (hb : h[b]? = some (rdB ty s p)) : C T X n_impl_reader_ends [pk b 0] h = some (.bool (!p.2 && decide (p.1 = s.size)), h) := by
  refine C_go t_impl_reader_ends rfl ?_
  unfold F_impl_reader_ends
  obtain ⟨a, bad⟩ := p
  cases bad with
  | true => simp only [rd_fa hb, rd_chk hb, rd_ld0 hb, rd_ld1 hb, rd_ld2 hb, List.prefix_refl, go_sem, reduceIte, Nat.reduceEqDiff, Nat.reduceAdd, Nat.reduceMul, Nat.reduceLT, Nat.reduceLeDiff, reduceCtorEq, ne_eq, Int.reduceEq, Int.reduceLT, Int.reduceLE, Int.reduceNeg, Int.reduceToNat]
  | false =>
    by_cases e : a = s.size
    · simp only [rd_fa hb, rd_chk hb, rd_ld0 hb, rd_ld1 hb, rd_ld2 hb, decide_eq_true (show ((a : Nat) : Int) = (s.size : Int) by omega), decide_eq_true e, List.prefix_refl, go_sem, reduceIte, Nat.reduceEqDiff, Nat.reduceAdd, Nat.reduceMul, Nat.reduceLT, Nat.reduceLeDiff, reduceCtorEq, ne_eq, Int.reduceEq, Int.reduceLT, Int.reduceLE, Int.reduceNeg, Int.reduceToNat]
    · have e' : ¬ ((a : Nat) : Int) = (s.size : Int) := by omega
      simp only [rd_fa hb, rd_chk hb, rd_ld0 hb, rd_ld1 hb, rd_ld2 hb, e', e, List.prefix_refl, go_sem, reduceIte, Nat.reduceEqDiff, Nat.reduceAdd, Nat.reduceMul, Nat.reduceLT, Nat.reduceLeDiff, reduceCtorEq, ne_eq, Int.reduceEq, Int.reduceLT, Int.reduceLE, Int.reduceNeg, Int.reduceToNat]

/-- The readers and the numbers, one behind the other. -/
def sS (s : ByteArray) (p : Nat × Bool) : Nat → Nat × Bool
  | 0 => p
  | i + 1 => (numStep s (sS s p i)).2
def sV (s : ByteArray) (p : Nat × Bool) (i : Nat) : Int := (numStep s (sS s p i)).1
theorem numStep_le {q : Nat × Bool} (h : q.1 ≤ s.size) : (numStep s q).2.1 ≤ s.size := by
  unfold numStep
  split
  · exact h
  · split
    · rename_i n k hr; exact (rvAt_bnd hr).2.2
    · exact h
theorem sS_le (h : p.1 ≤ s.size) : ∀ i, (sS s p i).1 ≤ s.size
  | 0 => h
  | i + 1 => numStep_le (sS_le h i)
theorem rvGo_seg {a : Nat} : ∀ {f i n u m k : Nat}, rvGo s a f i n u = some (m, k) → a ≤ i → (∀ x ∈ segN s a i, 128 ≤ x ∧ x < 256) → n = valB (segN s a i) → u = 128 ^ (segN s a i).length → (segN s a i).length = i - a → segN s a k = varL m
  | 0, _, _, _, _, _, h, _, _, _, _, _ => by cases h
  | f + 1, i, n, u, m, k, h, ha, hall, hn, hu, hl => by
    unfold rvGo at h
    split at h
    · rename_i h1
      have hsg := segN_succ (s := s) ha h1
      have hvs : valB (segN s a (i + 1)) = n + byt s i % 128 * u := by rw [hsg, valB_snoc, ← hn, ← hu, Int.toNat_natCast]
      split at h
      · rename_i h2
        split at h
        · cases h
        · rename_i h3
          simp only [Option.some.injEq, Prod.mk.injEq] at h
          obtain ⟨rfl, rfl⟩ := h
          have hform := varL_form (l := segN s a i) (b := (byt s i : Int)) hall ⟨by omega, by omega⟩
          rw [← hsg, hvs] at hform
          rw [hform.2 ?_]
          by_cases h5 : a < i
          · exact .inr (by omega)
          · exact .inl (List.length_eq_zero_iff.1 (by omega))
      · rename_i h2
        have hbt := byt_lt (s := s) (i := i)
        refine rvGo_seg h (by omega) ?_ hvs.symm ?_ ?_
        · intro x hx
          rw [hsg] at hx
          rcases List.mem_append.1 hx with hx | hx
          · exact hall x hx
          · rw [List.mem_singleton.1 hx]; omega
        · rw [hsg, List.length_append, hu]; simp [Nat.pow_succ]
        · rw [hsg, List.length_append, hl]; simp; omega
    · cases h
theorem segN_len {a k : Nat} (h : k ≤ s.size) : (segN s a k).length = k - a := by
  unfold segN
  rw [List.length_map, List.length_take, List.length_drop, size_list]
  omega
/-- What is read stands there in its own form. -/
theorem rvAt_seg {a n k : Nat} (h : rvAt s (a : Int) = some (n, k)) : segN s a k = varL n ∧ (varL n).length = k - a := by
  have hb := rvAt_bnd h
  have h1 : segN s a k = varL n := by
    unfold rvAt at h
    split at h
    · rw [Int.toNat_natCast] at h
      refine rvGo_seg h (Nat.le_refl _) ?_ ?_ ?_ ?_ <;> rw [segN_nil]
      · intro x hx; cases hx
      · rfl
      · rfl
      · simp
    · cases h
  exact ⟨h1, by rw [← h1]; exact segN_len hb.2.2⟩
/-- As long as all is well, the place goes on by the numbers' lengths. -/
theorem sS_len (hp : p.2 = false) : ∀ i, (sS s p i).2 = false → (sS s p i).1 = p.1 + ((List.range i).map fun j => (varL (sV s p j).toNat).length).sum ∧ ∀ j, j < i → 0 ≤ sV s p j ∧ sV s p j ≤ 1000000000
  | 0, _ => ⟨by simp [sS], fun j hj => by omega⟩
  | i + 1, h => by
    have hn : sS s p (i + 1) = (numStep s (sS s p i)).2 := rfl
    have hv : sV s p i = (numStep s (sS s p i)).1 := rfl
    rw [hn] at h ⊢
    have hf : (sS s p i).2 = false := by
      cases hb : (sS s p i).2 with
      | false => rfl
      | true =>
        unfold numStep at h
        rw [hb] at h
        simp at h
    obtain ⟨ih1, ih2⟩ := sS_len hp i hf
    unfold numStep at h hv ⊢
    rw [hf] at h hv ⊢
    simp only at h hv ⊢
    cases hr : rvAt s ((sS s p i).1 : Int) with
    | none => rw [hr] at h; simp at h
    | some q =>
      obtain ⟨n, k⟩ := q
      rw [hr] at hv
      simp only at hv ⊢
      have hb := rvAt_bnd hr
      have hsg := (rvAt_seg hr).2
      refine ⟨?_, below_succ ih2 (by rw [hv]; omega)⟩
      rw [List.range_succ, List.map_append, List.sum_append]
      simp only [List.map_cons, List.map_nil, List.sum_cons, List.sum_nil, hv, Int.toNat_natCast]
      omega
end
end Go.Proofs.Ytioogligololoaa.Ab
