/- Contracts: draws. What is drawn is only told to lie in its range. No conditions. -/
import Derived.Test.YtioogligololoaaK8
import Derived.Test.YtioogligololoaaK18
import Derived.Test.YtioogligololoaaR10
set_option linter.unusedSimpArgs false
set_option linter.unusedVariables false
set_option linter.unnecessarySimpa false
set_option maxHeartbeats 4000000
namespace Go.Proofs.Ytioogligololoaa.Ab
open Go.RowKit

/-- A drawer's block: the code, the place, a number. -/
def curB (cv : Value) (i : Nat) (x : Int) : Blk := ⟨[cv, .int .i64 (i : Nat), .int .i64 x], 3, y_l01Cur, true⟩
section
variable {h : Heap} {b i : Nat} {cv : Value} {x : Int}
theorem ck_fa (hb : h[b]? = some (curB cv i x)) {k : Nat} : faV h (pk b 0) k = some (pk b k) := by simp [faV, pk, hb, curB]
theorem ck_chk (hb : h[b]? = some (curB cv i x)) : chkV h (pk b 0) = some (pk b 0) := by simp [chkV, ldC, pk, hb, curB]
theorem ck_ld0 (hb : h[b]? = some (curB cv i x)) : ldC h (pk b 0) 1 = some [cv] := by simp [ldC, pk, hb, curB]
theorem ck_ld1 (hb : h[b]? = some (curB cv i x)) : ldC h (pk b 1) 1 = some [.int .i64 (i : Nat)] := by simp [ldC, pk, hb, curB]
theorem ck_ld2 (hb : h[b]? = some (curB cv i x)) : ldC h (pk b 2) 1 = some [.int .i64 x] := by simp [ldC, pk, hb, curB]
theorem ck_st1 (hb : h[b]? = some (curB cv i x)) {n : Nat} : stC h (pk b 1) [.int .i64 (n : Int)] = some (h.set b (curB cv n x)) := by simp [stC, pk, hb, curB, putAt]
theorem ck_st2 (hb : h[b]? = some (curB cv i x)) {y : Int} : stC h (pk b 2) [.int .i64 y] = some (h.set b (curB cv i y)) := by simp [stC, pk, hb, curB, putAt]
theorem ck_set (hb : h[b]? = some (curB cv i x)) {j : Nat} {y : Int} : (h.set b (curB cv j y))[b]? = some (curB cv j y) := List.getElem?_set_self (lt_of_get hb)
theorem set_same {y : Blk} : Same b (b + 1) h (h.set b y) := ⟨List.length_set .., fun c hc => List.getElem?_set_ne (by omega)⟩
end

/-- A drawer stands at b, above a memory that shows its code. -/
structure Dr (B : Heap) (b : Nat) (cv : Value) (l : List Int) (h : Heap) : Prop where
  base : B <+: h
  code : Rows B 1 cv (bys l)
  below : B.length ≤ b
  len : l.length ≤ lim
  cur : ∃ (i : Nat) (x : Int), i ≤ l.length ∧ h[b]? = some (curB cv i x)
/-- Only the drawer was moved; more may stand above. -/
structure Fr' (b : Nat) (h hh : Heap) : Prop where
  len : h.length ≤ hh.length
  old : ∀ c, c < h.length → c ≠ b → hh[c]? = h[c]?
section
variable {B h h1 h2 h3 : Heap} {b lo hi sz : Nat} {cv v : Value} {l : List Int} {ty : TypeId} {rws : List (List Value)}
theorem Dr.lt (d : Dr B b cv l h) : b < h.length := by obtain ⟨i, x, _, q⟩ := d.cur; exact lt_of_get q
theorem Fr'.refl : Fr' b h h := ⟨Nat.le_refl _, fun _ _ _ => rfl⟩
theorem Fr'.trans (a : Fr' b h h1) (c : Fr' b h1 h2) : Fr' b h h2 := ⟨Nat.le_trans a.len c.len, fun i hi hb => by rw [c.old i (by have := a.len; omega) hb, a.old i hi hb]⟩
theorem Fr'.same (s : Same b (b + 1) h h1) : Fr' b h h1 := ⟨by rw [s.len]; exact Nat.le_refl _, fun c _ hb => s.blk c (by omega)⟩
theorem Fr'.pre (hp : h <+: h1) : Fr' b h h1 := ⟨pre_len hp, fun c hc _ => get_of_pre hp hc⟩
theorem Fr'.push (hl : h.length ≤ h1.length) (hk : ∀ c, c < h.length → h1[c]? = h[c]?) : Fr' b h h1 := ⟨hl, fun c hc _ => hk c hc⟩
theorem Own.fr (o : Own h lo hi sz ty v rws) (a : Fr' b h h1) (hb : b < lo) (hh : hi ≤ h.length) : Own h1 lo hi sz ty v rws := by
  refine ⟨o.len, ?_⟩
  rcases o.is with hn | ⟨c, l1, l2, rfl, hc⟩
  · exact .inl hn
  · exact .inr ⟨c, l1, l2, rfl, by rw [a.old c (by omega) (by omega)]; exact hc⟩
theorem Fr'.up (a : Fr' b h h1) {g : Heap} (hp : g <+: h) (hb : g.length ≤ b) : g <+: h1 :=
  pre_of_get (Nat.le_trans (pre_len hp) a.len) fun c hc => by rw [a.old c (by have := pre_len hp; omega) (by omega), get_of_pre hp hc]
/-- What a function that draws leaves, behind its end. -/
theorem fin_fr (d0 : Dr B b cv l h) (d : Dr B b cv l h1) (a : Fr' b h h1) : Dr B b cv l (finish h (v, h1)).2 ∧ Fr' b h (finish h (v, h1)).2 := by
  unfold finish
  split
  · exact ⟨d0, .refl⟩
  · exact ⟨d, a⟩
end

theorem and255 (a : Int) : 0 ≤ andI .i64 a 255 ∧ andI .i64 a 255 ≤ 255 := by
  unfold andI
  have h2 : (BitVec.ofInt 64 255).toNat = 255 := by rfl
  have h1 : (BitVec.ofInt 64 a &&& BitVec.ofInt 64 255).toNat ≤ 255 := by
    rw [BitVec.toNat_and, h2]
    exact Nat.and_le_right
  have e : andI .i64 a 255 = IntKind.i64.wrap (((BitVec.ofInt 64 a &&& BitVec.ofInt 64 255).toNat : Nat) : Int) := rfl
  have w := w64 (n := (((BitVec.ofInt 64 a &&& BitVec.ofInt 64 255).toNat : Nat) : Int)) (by omega) (by omega)
  show 0 ≤ IntKind.i64.wrap (((BitVec.ofInt 64 a &&& BitVec.ofInt 64 255).toNat : Nat) : Int) ∧ IntKind.i64.wrap (((BitVec.ofInt 64 a &&& BitVec.ofInt 64 255).toNat : Nat) : Int) ≤ 255
  rw [w]
  omega

section
variable {X : CallF} {B h : Heap} {b : Nat} {cv : Value} {l : List Int}
theorem byt_el (d : Dr B b cv l h) {i : Nat} (hi : i < l.length) : iaV h 1 cv (.int .i64 (i : Int)) = some (elemP cv 1 i 0) ∧ ldC h (elemP cv 1 i 0) 1 = some [.int .u8 (l.getD i 0)] :=
  ⟨(Rows.el (f := fun n => [Value.int .u8 n]) (d.code.up d.base) 0 hi).1, (Rows.el (f := fun n => [Value.int .u8 n]) (d.code.up d.base) 0 hi).2.2⟩

theorem k_l01Byte (d : Dr B b cv l h) : ∃ x hh, C T X n_spec_l01Byte [pk b 0] h = some (.int .i64 x, hh) ∧ Dr B b cv l hh ∧ Same b (b + 1) h hh ∧ 0 ≤ x ∧ x ≤ 255 := by
  suffices hx : ∃ w hh, C T X n_spec_l01Byte [pk b 0] h = some (w, hh) ∧ ∃ x, w = .int .i64 x ∧ Dr B b cv l hh ∧ Same b (b + 1) h hh ∧ 0 ≤ x ∧ x ≤ 255 by
    obtain ⟨w, hh, c, x, rfl, r⟩ := hx
    exact ⟨x, hh, c, r⟩
  refine C_ex t_spec_l01Byte rfl ?_
  obtain ⟨i, x, hi, hb⟩ := d.cur
  have hlen : lnV h cv = some (.int .i64 (l.length : Int)) := by rw [(d.code.up d.base).ln, bys_len]
  have hbl := lt_of_get hb
  unfold F_spec_l01Byte
  obtain ⟨y, hy⟩ : ∃ y, y = IntKind.i64.wrap (IntKind.i64.wrap (x * 6364136223846793005) + 1442695040888963407) := ⟨_, rfl⟩
  have hb1 := ck_set (j := i) (y := y) hb
  obtain ⟨h1, hh1⟩ : ∃ h1, h1 = h.set b (curB cv i y) := ⟨_, rfl⟩
  have s1 : Same b (b + 1) h h1 := by rw [hh1]; exact set_same
  have st1 : stC h (pk b 2) [.int .i64 y] = some h1 := by rw [hh1]; exact ck_st2 hb
  rw [← hh1] at hb1
  have d1 : Dr B b cv l h1 := ⟨s1.pre d.base d.below, d.code, d.below, d.len, i, y, hi, hb1⟩
  have hlen1 : lnV h1 cv = some (.int .i64 (l.length : Int)) := by rw [(d1.code.up d1.base).ln, bys_len]
  simp only [ck_chk hb, ck_fa hb, ck_ld2 hb, ← hy, st1, ck_chk hb1, ck_fa hb1, ck_ld0 hb1, ck_ld1 hb1, ck_ld2 hb1, hlen1, go_sem, reduceIte, Nat.reduceEqDiff, Nat.reduceAdd, Nat.reduceMul, Nat.reduceLT, Nat.reduceLeDiff, reduceCtorEq, ne_eq, Int.reduceEq, Int.reduceLT, Int.reduceLE, Int.reduceNeg, Int.reduceToNat]
  refine w_open (by simp only [go_sem, reduceIte, Nat.reduceEqDiff, Nat.reduceAdd, Nat.reduceMul, Nat.reduceLT, Nat.reduceLeDiff, reduceCtorEq, ne_eq, Int.reduceEq, Int.reduceLT, Int.reduceLE, Int.reduceNeg, Int.reduceToNat]; rfl) ?_ ?_ <;> intro hc
  · have hi1 : i < l.length := by omega
    have el := byt_el d1 hi1
    have hlm := d.len
    unfold lim at hlm
    have hw : IntKind.i64.wrap ((i : Int) + 1) = ((i + 1 : Nat) : Int) := w64 (by omega) (by omega)
    have hb2 := ck_set (j := i + 1) (y := y) hb1
    obtain ⟨h2, hh2⟩ : ∃ h2, h2 = h1.set b (curB cv (i + 1) y) := ⟨_, rfl⟩
    have s2 : Same b (b + 1) h1 h2 := by rw [hh2]; exact set_same
    have st2 : stC h1 (pk b 1) [.int .i64 ((i + 1 : Nat) : Int)] = some h2 := by rw [hh2]; exact ck_st1 hb1
    rw [← hh2] at hb2
    have d2 : Dr B b cv l h2 := ⟨s2.pre d1.base d.below, d.code, d.below, d.len, i + 1, y, by omega, hb2⟩
    simp only [ck_chk hb1, ck_fa hb1, ck_ld0 hb1, ck_ld1 hb1, el.1, el.2, hw, st2, go_sem, reduceIte, Nat.reduceEqDiff, Nat.reduceAdd, Nat.reduceMul, Nat.reduceLT, Nat.reduceLeDiff, reduceCtorEq, ne_eq, Int.reduceEq, Int.reduceLT, Int.reduceLE, Int.reduceNeg, Int.reduceToNat]
    rw [finish_room (by rw [s2.len, s1.len])]
    exact ⟨_, rfl, d2, s1.trans s2, and255 _⟩
  · simp only [go_sem, reduceIte, Nat.reduceEqDiff, Nat.reduceAdd, Nat.reduceMul, Nat.reduceLT, Nat.reduceLeDiff, reduceCtorEq, ne_eq, Int.reduceEq, Int.reduceLT, Int.reduceLE, Int.reduceNeg, Int.reduceToNat]
    rw [finish_room s1.len]
    exact ⟨_, rfl, d1, s1, and255 _⟩

theorem tmod_rng {a n : Int} (h0 : 0 ≤ a) (hn : 0 < n) : 0 ≤ a.tmod n ∧ a.tmod n < n := by
  rw [Int.tmod_eq_emod_of_nonneg h0]
  exact ⟨Int.emod_nonneg _ (by omega), Int.emod_lt_of_pos _ hn⟩

theorem k_l01Below (d : Dr B b cv l h) (n : Int) : ∃ x hh, C T X n_spec_l01Below [pk b 0, .int .i64 n] h = some (.int .i64 x, hh) ∧ Dr B b cv l hh ∧ Same b (b + 1) h hh ∧ 0 ≤ x ∧ (0 < n → x < n) ∧ (n ≤ 0 → x = 0) := by
  suffices hx : ∃ w hh, C T X n_spec_l01Below [pk b 0, .int .i64 n] h = some (w, hh) ∧ ∃ x, w = .int .i64 x ∧ Dr B b cv l hh ∧ Same b (b + 1) h hh ∧ 0 ≤ x ∧ (0 < n → x < n) ∧ (n ≤ 0 → x = 0) by
    obtain ⟨w, hh, c, x, rfl, r⟩ := hx
    exact ⟨x, hh, c, r⟩
  refine C_ex t_spec_l01Below rfl ?_
  unfold F_spec_l01Below
  by_cases h0 : n ≤ 0
  · simp only [h0, go_sem, reduceIte, Nat.reduceEqDiff, Nat.reduceAdd, Nat.reduceMul, Nat.reduceLT, Nat.reduceLeDiff, reduceCtorEq, ne_eq, Int.reduceEq, Int.reduceLT, Int.reduceLE, Int.reduceNeg, Int.reduceToNat]
    exact ⟨0, rfl, d, Same.refl, by omega, fun q => by omega, fun _ => rfl⟩
  by_cases h1 : n ≤ 256
  · obtain ⟨x, h1', c1, d1, s1, x0, x1⟩ := k_l01Byte (X := X) d
    have hne : n ≠ 0 := by omega
    have r := tmod_rng (a := x) (n := n) x0 (by omega)
    simp only [h0, h1, c1, hne, go_sem, reduceIte, Nat.reduceEqDiff, Nat.reduceAdd, Nat.reduceMul, Nat.reduceLT, Nat.reduceLeDiff, reduceCtorEq, ne_eq, Int.reduceEq, Int.reduceLT, Int.reduceLE, Int.reduceNeg, Int.reduceToNat]
    rw [finish_room s1.len]
    exact ⟨_, rfl, d1, s1, r.1, fun _ => r.2, fun q => by first | exact q.elim | omega⟩
  obtain ⟨x, h1', c1, d1, s1, x0, x1⟩ := k_l01Byte (X := X) d
  obtain ⟨y, h2', c2, d2, s2, y0, y1⟩ := k_l01Byte (X := X) d1
  obtain ⟨z, h3', c3, d3, s3, z0, z1⟩ := k_l01Byte (X := X) d2
  obtain ⟨w, h4', c4, d4, s4, w0, w1⟩ := k_l01Byte (X := X) d3
  have hne : n ≠ 0 := by omega
  have e1 : IntKind.i64.wrap (x * 16777216) = x * 16777216 := w64 (by omega) (by omega)
  have e2 : IntKind.i64.wrap (y * 65536) = y * 65536 := w64 (by omega) (by omega)
  have e3 : IntKind.i64.wrap (z * 256) = z * 256 := w64 (by omega) (by omega)
  have e4 : IntKind.i64.wrap (x * 16777216 + y * 65536) = x * 16777216 + y * 65536 := w64 (by omega) (by omega)
  have e5 : IntKind.i64.wrap (x * 16777216 + y * 65536 + z * 256) = x * 16777216 + y * 65536 + z * 256 := w64 (by omega) (by omega)
  have e6 : IntKind.i64.wrap (x * 16777216 + y * 65536 + z * 256 + w) = x * 16777216 + y * 65536 + z * 256 + w := w64 (by omega) (by omega)
  have r := tmod_rng (a := x * 16777216 + y * 65536 + z * 256 + w) (n := n) (by omega) (by omega)
  simp only [h0, h1, c1, c2, c3, c4, e1, e2, e3, e4, e5, e6, hne, go_sem, reduceIte, Nat.reduceEqDiff, Nat.reduceAdd, Nat.reduceMul, Nat.reduceLT, Nat.reduceLeDiff, reduceCtorEq, ne_eq, Int.reduceEq, Int.reduceLT, Int.reduceLE, Int.reduceNeg, Int.reduceToNat]
  rw [finish_room (by rw [s4.len, s3.len, s2.len, s1.len])]
  exact ⟨_, rfl, d4, ((s1.trans s2).trans s3).trans s4, r.1, fun _ => r.2, fun q => by first | exact q.elim | omega⟩

theorem k_l01Once (d : Dr B b cv l h) (n : Int) : ∃ (x : Bool) (hh : Heap), C T X n_spec_l01Once [pk b 0, .int .i64 n] h = some (.bool x, hh) ∧ Dr B b cv l hh ∧ Same b (b + 1) h hh := by
  suffices hx : ∃ w hh, C T X n_spec_l01Once [pk b 0, .int .i64 n] h = some (w, hh) ∧ ∃ x : Bool, w = .bool x ∧ Dr B b cv l hh ∧ Same b (b + 1) h hh by
    obtain ⟨w, hh, c, x, rfl, r⟩ := hx
    exact ⟨x, hh, c, r⟩
  refine C_ex t_spec_l01Once rfl ?_
  unfold F_spec_l01Once
  obtain ⟨x, h1, c1, d1, s1, _⟩ := k_l01Below (X := X) d n
  simp only [c1, go_sem, reduceIte, Nat.reduceEqDiff, Nat.reduceAdd, Nat.reduceMul, Nat.reduceLT, Nat.reduceLeDiff, reduceCtorEq, ne_eq, Int.reduceEq, Int.reduceLT, Int.reduceLE, Int.reduceNeg, Int.reduceToNat]
  rw [finish_room s1.len]
  exact ⟨_, rfl, d1, s1⟩

theorem k_l01PickInt (d : Dr B b cv l h) {lv : Value} {L : List Int} {lo hi : Nat} {ty : TypeId} (o : Own h lo hi 1 ty lv (ints L)) (hb : b < lo) (hL : 0 < L.length) (hl : L.length ≤ lim) : ∃ x hh, C T X n_spec_l01PickInt [pk b 0, lv] h = some (.int .i64 x, hh) ∧ Dr B b cv l hh ∧ Same b (b + 1) h hh ∧ x ∈ L := by
  suffices hx : ∃ w hh, C T X n_spec_l01PickInt [pk b 0, lv] h = some (w, hh) ∧ ∃ x, w = .int .i64 x ∧ Dr B b cv l hh ∧ Same b (b + 1) h hh ∧ x ∈ L by
    obtain ⟨w, hh, c, x, rfl, r⟩ := hx
    exact ⟨x, hh, c, r⟩
  refine C_ex t_spec_l01PickInt rfl ?_
  unfold F_spec_l01PickInt
  obtain ⟨x, h1, c1, d1, s1, x0, x1, _⟩ := k_l01Below (X := X) d (L.length : Int)
  obtain ⟨k, rfl⟩ := Int.eq_ofNat_of_zero_le x0
  have hk : k < L.length := by have := x1 (by omega); omega
  have o1 := o.same s1 (.inr (by omega))
  have el := int_el o1.rows hk
  simp only [ints_ln o.rows, c1, el.1, el.2, go_sem, reduceIte, Nat.reduceEqDiff, Nat.reduceAdd, Nat.reduceMul, Nat.reduceLT, Nat.reduceLeDiff, reduceCtorEq, ne_eq, Int.reduceEq, Int.reduceLT, Int.reduceLE, Int.reduceNeg, Int.reduceToNat]
  rw [finish_room s1.len]
  exact ⟨_, rfl, d1, s1, getD_mem hk⟩

theorem k_l01New (hc : Rows h 1 cv (bys l)) (hl : l.length ≤ 1048576) : ∃ x : Int, C T X n_spec_l01New [cv] h = some (pk h.length 0, h ++ [curB cv 0 x]) := by
  suffices hx : ∃ w hh, C T X n_spec_l01New [cv] h = some (w, hh) ∧ w = pk h.length 0 ∧ ∃ x : Int, hh = h ++ [curB cv 0 x] by
    obtain ⟨w, hh, c, rfl, x, rfl⟩ := hx
    exact ⟨x, c⟩
  refine C_ex t_spec_l01New rfl ?_
  unfold F_spec_l01New
  have hln : lnV h cv = some (.int .i64 (l.length : Int)) := by rw [hc.ln, bys_len]
  simp only [hln, go_sem, reduceIte, Nat.reduceEqDiff, Nat.reduceAdd, Nat.reduceMul, Nat.reduceLT, Nat.reduceLeDiff, reduceCtorEq, ne_eq, Int.reduceEq, Int.reduceLT, Int.reduceLE, Int.reduceNeg, Int.reduceToNat]
  refine w_measX 0 l.length (fun m t loc h' => h' = h ∧ t 0 = cv ∧ ∃ (i : Nat), ∃ x : Int, m + i = l.length ∧ t 4 = .int .i64 (i : Nat) ∧ t 3 = .int .i64 x) (fun t loc h' => h' = h ∧ t 0 = cv ∧ ∃ x : Int, t 3 = .int .i64 x) ⟨rfl, rfl, 0, _, rfl, rfl, rfl⟩ ?_ ?_
  · rintro m t loc h' ⟨rfl, t0, i, x, hm, t4, t3⟩
    by_cases h1 : (i : Int) < (l.length : Int)
    · have hi1 : i < l.length := by omega
      have el1 := (Rows.el (f := fun n => [Value.int .u8 n]) hc 0 hi1).1
      have el2 := (Rows.el (f := fun n => [Value.int .u8 n]) hc 0 hi1).2.2
      have hw : IntKind.i64.wrap ((i : Int) + 1) = ((i + 1 : Nat) : Int) := w64 (by omega) (by omega)
      by_cases h2 : (i : Int) < 4000
      · simp only [t0, t3, t4, hln, h1, h2, el1, el2, hw, go_sem, reduceIte, Nat.reduceEqDiff, Nat.reduceAdd, Nat.reduceMul, Nat.reduceLT, Nat.reduceLeDiff, reduceCtorEq, ne_eq, Int.reduceEq, Int.reduceLT, Int.reduceLE, Int.reduceNeg, Int.reduceToNat]
        exact ⟨m - 1, by omega, i + 1, _, by omega, rfl, rfl⟩
      · simp only [t0, t3, t4, hln, h1, h2, go_sem, reduceIte, Nat.reduceEqDiff, Nat.reduceAdd, Nat.reduceMul, Nat.reduceLT, Nat.reduceLeDiff, reduceCtorEq, ne_eq, Int.reduceEq, Int.reduceLT, Int.reduceLE, Int.reduceNeg, Int.reduceToNat]
        exact ⟨_, rfl⟩
    · simp only [t0, t3, t4, hln, h1, go_sem, reduceIte, Nat.reduceEqDiff, Nat.reduceAdd, Nat.reduceMul, Nat.reduceLT, Nat.reduceLeDiff, reduceCtorEq, ne_eq, Int.reduceEq, Int.reduceLT, Int.reduceLE, Int.reduceNeg, Int.reduceToNat]
      exact ⟨_, rfl⟩
  · rintro t loc h' ⟨rfl, t0, x, t3⟩
    have hb : bxW h' y_l01Cur 3 (.agg ⟨[cv, .int .i64 0, .int .i64 x]⟩) = some (pk h'.length 0, h' ++ [curB cv 0 x]) := rfl
    simp only [t0, t3, hc.cells, hb, go_sem, reduceIte, Nat.reduceEqDiff, Nat.reduceAdd, Nat.reduceMul, Nat.reduceLT, Nat.reduceLeDiff, reduceCtorEq, ne_eq, Int.reduceEq, Int.reduceLT, Int.reduceLE, Int.reduceNeg, Int.reduceToNat]
    rw [finish_deep rfl]
    exact ⟨rfl, rfl, x, rfl⟩
end
end Go.Proofs.Ytioogligololoaa.Ab
