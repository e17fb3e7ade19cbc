/- Joined: R10, K50, K52, K130, K131, K132, K133, K134, K135, K136. No conditions. -/
import Derived.Test.YthfeahanmbmjhaaGreatDoorM12
import Derived.Test.YthfeahanmbmjhaaGreatDoorM10
set_option linter.unusedSimpArgs false
set_option linter.unusedVariables false
set_option linter.unnecessarySimpa false
set_option maxHeartbeats 4000000
namespace Go.Proofs.YthfeahanmbmjhaaGreatDoor.Ab
open Go.RowKit
/-- A loop that is left in one state, wherever it is left. -/
def ExJ (id : Nat) (J : (Nat → Value) → (Nat → Option (List Value)) → Heap → Prop) (e : Exit) (s : St) : Prop := e = .exit id ∧ s.al = (fun _ => none) ∧ J s.t s.loc s.h
section
variable {T : FuncId → Option Fun} {X : CallF} {t : Nat → Value} {loc : Nat → Option (List Value)} {h : Heap} {Q : Exit → St → Prop}
theorem exj_exit {id : Nat} {J : (Nat → Value) → (Nat → Option (List Value)) → Heap → Prop} : ExJ id J (.exit id) ⟨t, loc, fun _ => none, h⟩ ↔ J t loc h := ⟨fun h => h.2.2, fun h => ⟨rfl, rfl, h⟩⟩
end
attribute [go_sem ↓] exj_exit
/-- Since a memory only the reader was moved, and what stands above it. -/
structure Rdr (b : Nat) (ty : TypeId) (s : ByteArray) (h0 h' : Heap) (p : Nat × Bool) : Prop where
  len : h0.length ≤ h'.length
  old : ∀ c, c < h0.length → c ≠ b → h'[c]? = h0[c]?
  at_ : h'[b]? = some (rdB ty s p)
  le : p.1 ≤ s.size
section
variable {b lo hi sz : Nat} {ty ty' : TypeId} {s : ByteArray} {h0 h1 h2 h' : Heap} {p q : Nat × Bool} {v : Value} {rws : List (List Value)} {gs : List Gp}
theorem Rdr.refl (hb : h0[b]? = some (rdB ty s p)) (hp : p.1 ≤ s.size) : Rdr b ty s h0 h0 p := ⟨Nat.le_refl _, fun _ _ _ => rfl, hb, hp⟩
theorem Rdr.trans (a : Rdr b ty s h0 h1 p) (c : Rdr b ty s h1 h2 q) : Rdr b ty s h0 h2 q :=
  ⟨Nat.le_trans a.len c.len, fun i hi hb => by rw [c.old i (by have := a.len; omega) hb, a.old i hi hb], c.at_, c.le⟩
theorem Rdr.push (a : Rdr b ty s h0 h' p) (hb : b < h0.length) (hl : h'.length ≤ h1.length) (hk : ∀ c, c < h0.length → h1[c]? = h'[c]?) : Rdr b ty s h0 h1 p :=
  ⟨Nat.le_trans a.len hl, fun i hi hne => by rw [hk i hi]; exact a.old i hi hne, by rw [hk b hb]; exact a.at_, a.le⟩
end
section
variable {X : CallF} {b : Nat} {s : ByteArray} {h0 h' : Heap} {p : Nat × Bool}
end
section
variable {h hh : Heap} {sz : Nat} {ty : TypeId} {v : Value} {gs : List Gp}
theorem Own.flatP {lo hi : Nat} {rws : List (List Value)} (o : Own h lo hi sz ty v rws) (hf : prim v = true) {h2 : Heap} {lo2 hi2 : Nat} : Own h2 lo2 hi2 sz ty v rws := by
  rcases o.is with ⟨rfl, rfl⟩ | ⟨b, _, _, rfl, _⟩
  · exact Own.nil
  · simp [prim] at hf
end
end Go.Proofs.YthfeahanmbmjhaaGreatDoor.Ab
set_option linter.unusedSimpArgs false
set_option linter.unusedVariables false
set_option linter.unnecessarySimpa false
set_option maxHeartbeats 4000000
namespace Go.Proofs.YthfeahanmbmjhaaGreatDoor.Ab
open Go.RowKit
theorem strOfNums_app {l m : List Int} : strOfNums l ++ strOfNums m = strOfNums (l ++ m) := by
  apply ByteArray.ext
  apply Array.toList_inj.1
  rw [ByteArray.data_append, Array.toList_append, strOfNums_data, strOfNums_data, strOfNums_data, List.map_append]
theorem mkD_dec : ∀ (k n : Nat) (s : ByteArray), n < k → 0 < n → mkD n s = strOfNums (decL n) ++ s
  | 0, n, s, h, _ => by omega
  | k + 1, n, s, h, hp => by
    rw [mkD_pos hp, decL]
    by_cases h1 : n < 10
    · rw [if_pos h1, show n / 10 = 0 by omega, mkD_zero, show n % 10 = n by omega]
    · rw [if_neg h1, mkD_dec k (n / 10) _ (by omega) (by omega), ← ByteArray.append_assoc, strOfNums_app]
theorem decT_size {n k : Nat} (h : n < 10 ^ k) (hk : 0 < k) : (decT n).size ≤ k := by
  unfold decT
  rw [strOfNums_size]
  exact decL_len k n h hk
section
variable {X : CallF} {h : Heap} {m : List Pr} {mv : Value}
theorem k_spec_l01Figure {d : Nat} (hd : d < 10) : C T X n_spec_l01Figure [.int .i64 (d : Int)] h = some (.int .u8 ((48 + d : Nat) : Int), h) := by
  refine C_go t_spec_l01Figure rfl ?_
  unfold F_spec_l01Figure
  have h1 : (d : Int) < 10 := by omega
  have e : IntKind.u8.wrap (IntKind.i64.wrap (48 + (d : Int))) = ((48 + d : Nat) : Int) := by rw [w64 (by omega) (by omega), wu8 (by omega) (by omega)]; omega
  simp only [h1, e, go_sem]
theorem k_spec_Decimal {n : Nat} (hn : n ≤ 4611686018427387904) : C T X n_spec_Decimal [.int .i64 (n : Int)] h = some (.string (decT n), h) := by
  refine C_go t_spec_Decimal rfl ?_
  unfold F_spec_Decimal
  simp only [go_sem]
  refine w_open (by simp only [go_sem]; rfl) ?_ ?_ <;> intro hc
  · have : n = 0 := by omega
    subst this
    simp only [go_sem]
    unfold decT decL
    rfl
  have hneg : decide ((n : Int) < 0) = false := decide_eq_false (by omega)
  simp only [hneg, go_sem]
  refine w_meas n (fun m t loc h' => h' = h ∧ ∃ s : ByteArray, t 0 = .int .i64 (m : Nat) ∧ t 3 = .bool false ∧ t 4 = .string s ∧ m ≤ n ∧ mkD m s = mkD n noT ∧ (∃ c, m < 10 ^ c ∧ s.size + c ≤ 19)) ⟨rfl, noT, rfl, rfl, rfl, Nat.le_refl _, rfl, 19, by omega, by decide⟩ ?_
  rintro m t loc h' ⟨rfl, s, t0, t3, t4, hm, hd, c, hc1, hc2⟩
  simp only [t0, t3, t4, go_sem]
  refine w_open (by simp only [t0, t3, t4, go_sem]; rfl) ?_ ?_ <;> intro hc'
  · have hf := k_spec_l01Figure (X := X) (h := h') (d := m % 10) (Nat.mod_lt _ (by omega))
    have hq : IntKind.i64.wrap ((m / 10 : Nat) : Int) = ((m / 10 : Nat) : Int) := w64 (by omega) (by omega)
    have hr : ((m : Int).tmod 10) = ((m % 10 : Nat) : Int) := rfl
    have hv : ((m : Int).tdiv 10) = ((m / 10 : Nat) : Int) := rfl
    have hnn : ¬ ((m % 10 : Nat) : Int) < 0 := by omega
    have hcp : 0 < c := by
      cases c with
      | zero => simp at hc1; omega
      | succ c => omega
    have hm1 : 0 < m := by omega
    have hsz : (strOfNums [((48 + m % 10 : Nat) : Int)]).size + s.size ≤ 9223372036854775807 := by rw [strOfNums_size]; simp only [List.length_cons, List.length_nil]; omega
    simp only [t0, t3, t4, hr, hv, hf, hq, hnn, strLV, ints8, isInt8, Option.map_some, hsz, go_sem]
    refine ⟨m / 10, by omega, _, rfl, rfl, by omega, ?_, c - 1, ?_, ?_⟩
    · rw [← hd, mkD_pos (n := m) hm1]
    · have : 10 ^ c = 10 ^ (c - 1) * 10 := by rw [← Nat.pow_succ]; congr 1; omega
      omega
    · rw [ByteArray.size_append, strOfNums_size]; simp only [List.length_cons, List.length_nil]; omega
  · have : m = 0 := by omega
    subst this
    have hs : s = decT n := by
      rw [mkD_zero] at hd
      rw [hd, mkD_dec (n + 1) n noT (by omega) (by omega)]
      unfold decT noT
      exact ByteArray.append_empty
    simp only [t3, t4, hs, go_sem]
end
end Go.Proofs.YthfeahanmbmjhaaGreatDoor.Ab
set_option linter.unusedSimpArgs false
set_option linter.unusedVariables false
set_option linter.unnecessarySimpa false
set_option maxHeartbeats 4000000
namespace Go.Proofs.YthfeahanmbmjhaaGreatDoor.Ab
open Go.RowKit
theorem sl_from {s : ByteArray} {a : Nat} (h : a ≤ s.size) : slSV (.string s) (some (.int .i64 (a : Int))) none = some (.string (s.extract a s.size)) := by
  simp only [slSV, bnd]
  rw [if_pos ⟨by omega, by omega, by omega⟩]
  rfl
theorem sl_to {s : ByteArray} {b : Nat} (h : b ≤ s.size) : slSV (.string s) none (some (.int .i64 (b : Int))) = some (.string (s.extract 0 b)) := by
  simp only [slSV, bnd]
  rw [if_pos ⟨by omega, by omega, by omega⟩]
  rfl
theorem sl_mid {s : ByteArray} {a b : Nat} (h : a ≤ b) (hb : b ≤ s.size) : slSV (.string s) (some (.int .i64 (a : Int))) (some (.int .i64 (b : Int))) = some (.string (s.extract a b)) := by
  simp only [slSV, bnd]
  rw [if_pos ⟨by omega, by omega, by omega⟩]
  rfl
theorem take_snocD' {α : Type} {d : α} {l : List α} {i : Nat} (hi : i < l.length) : l.take (i + 1) = l.take i ++ [l.getD i d] := by
  rw [List.take_add_one, List.getElem?_eq_getElem hi, List.getD_eq_getElem?_getD, List.getElem?_eq_getElem hi]
  rfl
def valN (s : ByteArray) : Nat → Nat
  | 0 => 0
  | i + 1 => 10 * valN s i + (byt s i - 48)
theorem valN_lt {s : ByteArray} : ∀ i, (∀ j, j < i → byt s j ≤ 57) → valN s i < 10 ^ i
  | 0, _ => by simp [valN]
  | i + 1, h => by
    have h1 := valN_lt i fun j hj => h j (by omega)
    have h2 := h i (by omega)
    rw [valN, Nat.pow_succ]
    omega
theorem valN_dec {n : Nat} : ∀ i, i ≤ (decL n).length → ((valN (decT n) i : Nat) : Int) = valD ((decL n).take i)
  | 0, _ => by simp [valN, valD]
  | i + 1, h => by
    have h1 := valN_dec (n := n) i (by omega)
    have h2 := byt_nums (L := decL n) (fun x hx => by have := decL_rng (n + 1) n (by omega) x hx; omega) (i := i) (by omega)
    have h3 := decL_rng (n + 1) n (by omega) ((decL n).getD i 0) (getD_mem (l := decL n) (by omega))
    rw [take_snocD' (l := decL n) (d := (0 : Int)) (by omega), valD_snoc, ← h1, valN]
    unfold decT
    omega
section
variable {X : CallF} {h : Heap} {m : List Pr} {mv : Value}
theorem dec_bad {s : ByteArray} {i : Nat} (hi : i < s.size) (hb : byt s i < 48 ∨ 57 < byt s i) : rdDec s = none := by
  refine rdDec_none.2 fun n hn e => ?_
  subst e
  unfold decT at hi hb
  rw [strOfNums_size] at hi
  have h2 := byt_nums (L := decL n) (fun x hx => by have := decL_rng (n + 1) n (by omega) x hx; omega) hi
  have h3 := decL_rng (n + 1) n (by omega) ((decL n).getD i 0) (getD_mem hi)
  omega
theorem dec_val {s : ByteArray} {n : Nat} (h : rdDec s = some n) : valN s s.size = n := by
  obtain ⟨h1, h2⟩ := rdDec_some.1 h
  subst h2
  have e : (decT n).size = (decL n).length := by unfold decT; rw [strOfNums_size]
  have := valN_dec (n := n) (decL n).length (Nat.le_refl _)
  rw [List.take_length, decL_val (n + 1) n (by omega)] at this
  rw [e]
  omega
theorem k_spec_ReadDecimal {s : ByteArray} : C T X n_spec_ReadDecimal [.string s] h = some (.tuple #[.int .i64 (dcN s), .bool (dcB s)], h) := by
  have no : rdDec s = none → (Value.tuple ⟨[.int .i64 0, .bool false]⟩) = .tuple #[.int .i64 (dcN s), .bool (dcB s)] := fun e => by
    unfold dcN dcB
    rw [e]
    rfl
  refine C_go t_spec_ReadDecimal rfl ?_
  unfold F_spec_ReadDecimal
  by_cases c0 : (s.size : Int) > 10
  · simp only [c0, go_sem]
    refine no (rdDec_none.2 fun n hn e => ?_)
    subst e
    have := decT_size (n := n) (k := 10) (by omega) (by omega)
    omega
  simp only [c0, go_sem]
  refine w_for s.size (fun i t loc h' => h' = h ∧ t 0 = .string s ∧ t 4 = .int .i64 ((valN s i : Nat) : Int) ∧ t 5 = .int .i64 (i : Int) ∧ ∀ j, j < i → 48 ≤ byt s j ∧ byt s j ≤ 57) ⟨rfl, rfl, rfl, rfl, fun j hj => by omega⟩ ?_
  rintro i t loc h' hi ⟨rfl, t0, t4, t5, hj⟩
  simp only [t0, t5, go_sem]
  refine w_open (by simp only [go_sem]; rfl) ?_ ?_ <;> intro hc
  · have hi1 : i < s.size := by omega
    have hw : IntKind.i64.wrap ((i : Int) + 1) = ((i + 1 : Nat) : Int) := w64 (by omega) (by omega)
    have e0 : ixV (.string s) (.int .i64 i) = some (.int .u8 (byt s i : Nat)) := ix_byt hi1
    have b0 := byt_lt (s := s) (i := i)
    have hv := valN_lt (s := s) i fun j hj' => (hj j hj').2
    have h10 : 10 ^ i ≤ 10 ^ 10 := Nat.pow_le_pow_right (by omega) (by omega)
    by_cases c1 : ((byt s i : Nat) : Int) < 48
    · simp only [t0, t4, t5, e0, c1, go_sem]
      exact no (dec_bad hi1 (.inl (by omega)))
    by_cases c2 : ((byt s i : Nat) : Int) > 57
    · simp only [t0, t4, t5, e0, c1, c2, go_sem]
      exact no (dec_bad hi1 (.inr (by omega)))
    have w0 : IntKind.i64.wrap ((byt s i : Nat) : Int) = ((byt s i : Nat) : Int) := w64 (by omega) (by omega)
    have w1 : IntKind.i64.wrap (10 * ((valN s i : Nat) : Int)) = 10 * ((valN s i : Nat) : Int) := w64 (by omega) (by omega)
    have w2 : IntKind.i64.wrap (10 * ((valN s i : Nat) : Int) + ((byt s i : Nat) : Int)) = 10 * ((valN s i : Nat) : Int) + ((byt s i : Nat) : Int) := w64 (by omega) (by omega)
    have w3 : IntKind.i64.wrap (10 * ((valN s i : Nat) : Int) + ((byt s i : Nat) : Int) - 48) = ((valN s (i + 1) : Nat) : Int) := by rw [w64 (by omega) (by omega), valN]; omega
    simp only [t0, t4, t5, e0, c1, c2, w0, w1, w2, w3, hw, go_sem]
    refine ⟨hi1, fun j hj' => ?_⟩
    by_cases e : j = i
    · subst e; omega
    · exact hj j (by omega)
  · have hin : i = s.size := by omega
    subst hin
    have hv := valN_lt (s := s) s.size fun j hj' => (hj j hj').2
    have h10 : 10 ^ s.size ≤ 10 ^ 10 := Nat.pow_le_pow_right (by omega) (by omega)
    by_cases c1 : ((valN s s.size : Nat) : Int) > 1000000000
    · simp only [t0, t4, c1, go_sem]
      refine no ?_
      cases e : rdDec s with
      | none => rfl
      | some n => have h1 := dec_val e; have h2 := (rdDec_some.1 e).1; omega
    have hd := k_spec_Decimal (X := X) (h := h') (n := valN s s.size) (by omega)
    by_cases c2 : decT (valN s s.size) = s
    · have c2' : ((decT (valN s s.size)).toList == s.toList) = true := by rw [str_eq]; exact decide_eq_true c2
      have e : rdDec s = some (valN s s.size) := rdDec_some.2 ⟨by omega, c2.symm⟩
      simp only [t0, t4, c1, hd, c2', go_sem]
      unfold dcN dcB
      rw [e]
      rfl
    · have c2' : ((decT (valN s s.size)).toList == s.toList) = false := by rw [str_eq]; exact decide_eq_false c2
      simp only [t0, t4, c1, hd, c2', go_sem]
      refine no ?_
      cases e : rdDec s with
      | none => rfl
      | some n => have h1 := dec_val e; have h2 := (rdDec_some.1 e).2; rw [h1] at c2; exact absurd h2.symm c2
end
end Go.Proofs.YthfeahanmbmjhaaGreatDoor.Ab
set_option linter.unusedSimpArgs false
set_option linter.unusedVariables false
set_option linter.unnecessarySimpa false
set_option maxHeartbeats 4000000
namespace Go.Proofs.YthfeahanmbmjhaaGreatDoor.Ab
open Go.RowKit
theorem zeros_texts : ∀ n : Nat, zeros [.string ⟨⟨[]⟩⟩] n = (texts (List.replicate n noT)).flatten
  | 0 => rfl
  | n + 1 => by rw [List.replicate_succ]; show [Value.string noT] ++ zeros [.string ⟨⟨[]⟩⟩] n = [Value.string noT] ++ (texts (List.replicate n noT)).flatten; rw [zeros_texts n]
theorem tx_el {h : Heap} {v : Value} {l : List ByteArray} {i : Nat} (r : Rows h 1 v (texts l)) (hi : i < l.length) : iaV h 1 v (.int .i64 (i : Int)) = some (elemP v 1 i 0) ∧ ldC h (elemP v 1 i 0) 1 = some [.string (l.getD i noT)] :=
  ⟨(Rows.el (f := txR) r noT hi).1, (Rows.el (f := txR) r noT hi).2.2⟩
theorem Own.stx {h : Heap} {lo hi : Nat} {ty : TypeId} {v : Value} {l : List ByteArray} (o : Own h lo hi 1 ty v (texts l)) {i : Nat} (hi' : i < l.length) (s : ByteArray) :
    ∃ h', stC h (elemP v 1 i 0) [.string s] = some h' ∧ Same lo hi h h' ∧ Own h' lo hi 1 ty v (texts (l.set i s)) := by
  have hil : i < (texts l).length := by rw [List.length_map]; exact hi'
  obtain ⟨h', h1, h2, h3⟩ := o.st (i := i) hil (k := 0) (vs := [.string s]) (Nat.le_refl _)
  refine ⟨h', h1, h2, ?_⟩
  have : putAt ((texts l)[i]'hil) 0 [.string s] = [.string s] := by rw [List.getElem_map]; rfl
  rw [this] at h3
  have e : (texts l).set i [.string s] = texts (l.set i s) := by rw [texts, texts, List.map_set]; rfl
  rw [e] at h3
  exact h3
theorem pcs_mono {s : ByteArray} {c j : Nat} : ∀ m, (pcs s c j).1.length ≤ (pcs s c (j + m)).1.length
  | 0 => Nat.le_refl _
  | m + 1 => by
    have ih := pcs_mono (s := s) (c := c) (j := j) m
    rw [← Nat.add_assoc]
    by_cases h : byt s (j + m) = c
    · rw [pcs_yes h, List.length_append]; omega
    · rw [pcs_no h]; exact ih
theorem pcs_same {s : ByteArray} {c j : Nat} : ∀ m, (pcs s c (j + m)).1.length = (pcs s c j).1.length → pcs s c (j + m) = pcs s c j
  | 0, _ => rfl
  | m + 1, h => by
    rw [← Nat.add_assoc] at h ⊢
    have := pcs_mono (s := s) (c := c) (j := j) m
    by_cases q : byt s (j + m) = c
    · rw [pcs_yes q, List.length_append] at h
      simp only [List.length_cons, List.length_nil] at h
      omega
    · rw [pcs_no q] at h ⊢
      exact pcs_same m h
theorem set_app {A : List ByteArray} {m : Nat} {x : ByteArray} : (A ++ List.replicate (m + 1) noT).set A.length x = A ++ [x] ++ List.replicate m noT := by
  rw [List.set_append_right _ _ (Nat.le_refl _), Nat.sub_self, List.replicate_succ, List.set_cons_zero, List.append_assoc]
  rfl
section
variable {X : CallF} [LibS X] {h : Heap} {s : ByteArray} {c : Nat} {c8 : UInt8}
theorem k_genSplit (hs : s.size ≤ 1048576) (hc8 : c8 = UInt8.ofNat c) (h256 : c < 256) : ∃ v hh, C T X n_strings_genSplit [.string s, .string ⟨⟨[c8]⟩⟩, .int .i64 0, .int .i64 (-1)] h = some (v, hh) ∧ h <+: hh ∧ Own hh h.length hh.length 1 y_string v (texts (splitC s c)) := by
  refine C_ex t_strings_genSplit rfl ?_
  unfold F_strings_genSplit
  have cc := k_Count (X := X) (h := h) (s := s) (c := c8)
  rw [hc8, count_pcs h256, ← hc8] at cc
  obtain ⟨K, hK⟩ : ∃ K, K = (pcs s c s.size).1.length := ⟨_, rfl⟩
  rw [← hK] at cc
  have hKs : K ≤ s.size := by rw [hK]; exact pcs_few _
  have ne : ¬ (⟨⟨[c8]⟩⟩ : ByteArray) = ⟨⟨[]⟩⟩ := fun e => by
    have := congrArg (fun b => b.data.toList.length) e
    simp at this
  have w1 : IntKind.i64.wrap ((K : Int) + 1) = ((K + 1 : Nat) : Int) := w64 (by omega) (by omega)
  have w2 : IntKind.i64.wrap ((s.size : Int) + 1) = ((s.size + 1 : Nat) : Int) := w64 (by omega) (by omega)
  have w3 : IntKind.i64.wrap (((K + 1 : Nat) : Int) - 1) = (K : Int) := by rw [w64 (by omega) (by omega)]; omega
  have nm : ¬ ((s.size + 1 : Nat) : Int) < ((K + 1 : Nat) : Int) := by omega
  have mk1 : (0 : Int) ≤ ((K + 1 : Nat) : Int) ∧ ((K + 1 : Nat) : Int) ≤ (lim : Nat) := ⟨by omega, by unfold lim; omega⟩
  obtain ⟨h1, e1⟩ : ∃ h1 : Heap, h1 = h ++ [⟨(texts (List.replicate (K + 1) noT)).flatten, 1, y_string, true⟩] := ⟨_, rfl⟩
  have p1 : h <+: h1 := by rw [e1]; exact List.prefix_append _ _
  have o1 : Own h1 h.length h1.length 1 y_string (.slice (some ⟨h.length, 0, none⟩) (K + 1) (K + 1)) (texts (List.replicate (K + 1) noT)) := by
    have := Own.made (h := h) (sz := 1) (ty := y_string) (rws := texts (List.replicate (K + 1) noT)) (by intro r hr; obtain ⟨z, _, rfl⟩ := List.mem_map.1 hr; rfl)
    rw [← e1, List.length_map, List.length_replicate] at this
    rw [e1] at this ⊢
    simpa using this
  have lnc : (⟨⟨[c8]⟩⟩ : ByteArray).size = 1 := rfl
  have mkF : mkW h 1 y_string [.string ⟨⟨[]⟩⟩] (.int .i64 ((K + 1 : Nat) : Int)) = some (.slice (some ⟨h.length, 0, none⟩) (K + 1) (K + 1), h1) := by
    unfold mkW
    simp only
    rw [if_pos mk1, Int.toNat_natCast, zeros_texts, ← e1]
  simp only [str_eq, ne, cc, w1, w2, nm, mkF, w3, go_sem]
  refine w_for K (fun i t loc h' => t 1 = .string ⟨⟨[c8]⟩⟩ ∧ t 2 = .int .i64 0 ∧ t 3 = .int .i64 (K : Nat) ∧ t 9 = .slice (some ⟨h.length, 0, none⟩) (K + 1) (K + 1) ∧ t 10 = .int .i64 (i : Nat) ∧ ∃ j : Nat, j ≤ s.size ∧ t 0 = .string (s.extract j s.size) ∧ (pcs s c j).2 = j ∧ (pcs s c j).1.length = i ∧ h <+: h' ∧ Own h' h.length h'.length 1 y_string (.slice (some ⟨h.length, 0, none⟩) (K + 1) (K + 1)) (texts ((pcs s c j).1 ++ List.replicate (K + 1 - i) noT))) ⟨rfl, rfl, rfl, rfl, rfl, 0, Nat.zero_le _, ?_, rfl, rfl, p1, by rw [Nat.sub_zero]; exact o1⟩ ?_
  · have : s.extract 0 s.size = s := by
      apply ByteArray.ext
      apply Array.toList_inj.1
      rw [ext_list, List.drop_zero, List.take_of_length_le (by rw [size_list]; omega)]
    rw [this]
    rfl
  rintro i t loc h2 hi ⟨t1, t2, t3, t9, t10, j, hj, t0, hb, hl, p2, o2⟩
  simp only [t3, t10, go_sem]
  refine w_open (by simp only [go_sem]; rfl) ?_ ?_ <;> intro hc
  · have hi1 : i < K := by omega
    have hw : IntKind.i64.wrap ((i : Int) + 1) = ((i + 1 : Nat) : Int) := w64 (by omega) (by omega)
    have ci := k_Index (X := X) (h := h2) (s := s.extract j s.size) (c := c8)
    obtain ⟨m, hm⟩ : ∃ m : Nat, Lib.indexByte (s.extract j s.size).data.toList c8 = (m : Int) := by
      have hg := Lib.indexByte_ge (s.extract j s.size).data.toList c8
      by_cases q : Lib.indexByte (s.extract j s.size).data.toList c8 < 0
      · have e : Lib.indexByte (s.extract j s.size).data.toList (UInt8.ofNat c) = -1 := by rw [← hc8]; omega
        have := pc_none h256 hj e
        rw [this] at hK
        omega
      · exact ⟨_, (Int.toNat_of_nonneg (by omega)).symm⟩
    rw [hm] at ci
    obtain ⟨n1, n2⟩ := pc_some h256 (by rw [← hc8]; exact hm) hb
    have hm0 : ¬ (m : Int) < 0 := by omega
    have wm : IntKind.i64.wrap ((m : Int) + 0) = (m : Int) := by rw [w64 (by omega) (by omega)]; omega
    have wm1 : IntKind.i64.wrap ((m : Int) + ((1 : Nat) : Int)) = ((m + 1 : Nat) : Int) := by rw [w64 (by omega) (by omega)]; omega
    have hsz : (s.extract j s.size).size = s.size - j := by rw [ByteArray.size_extract]; omega
    have s1 := sl_to (s := s.extract j s.size) (b := m) (by omega)
    have s2 := sl_from (s := s.extract j s.size) (a := m + 1) (by omega)
    rw [ext_ext (by omega)] at s1
    rw [pc_tail (by omega)] at s2
    have hlen : ((pcs s c j).1 ++ List.replicate (K + 1 - i) noT).length = K + 1 := by rw [List.length_append, List.length_replicate]; omega
    have el := tx_el o2.rows (i := i) (by omega)
    obtain ⟨h3, e3, s3, o3⟩ := o2.stx (i := i) (by omega) (s.extract j (j + m))
    have hset : ((pcs s c j).1 ++ List.replicate (K + 1 - i) noT).set i (s.extract j (j + m)) = (pcs s c (j + m + 1)).1 ++ List.replicate (K + 1 - (i + 1)) noT := by
      have e : K + 1 - i = (K - i) + 1 := by omega
      rw [e, ← hl, set_app, n2, hl, show K + 1 - (i + 1) = K - i by omega]
    rw [hset] at o3
    simp only [t0, t1, t2, t3, t9, t10, ci, hm0, wm, lnc, wm1, s1, s2, el.1, e3, hw, go_sem]
    refine ⟨hi1, j + m + 1, by omega, ?_, by rw [n2], by rw [n2, List.length_append, hl]; rfl, s3.pre p2 (Nat.le_refl _), by rw [s3.len]; exact o3⟩
    rw [Nat.add_assoc]
  · have hiK : i = K := by omega
    subst hiK
    have hpe : pcs s c s.size = pcs s c j := by
      have := pcs_same (s := s) (c := c) (j := j) (s.size - j)
      rw [show j + (s.size - j) = s.size by omega] at this
      exact this (by omega)
    have e1' : i + 1 - i = 0 + 1 := by omega
    rw [e1'] at o2
    have el := tx_el o2.rows (i := i) (by rw [List.length_append, List.length_replicate]; omega)
    obtain ⟨h3, e3, s3, o3⟩ := o2.stx (i := i) (by rw [List.length_append, List.length_replicate]; omega) (s.extract j s.size)
    have hset : ((pcs s c j).1 ++ List.replicate (0 + 1) noT).set i (s.extract j s.size) = splitC s c := by
      rw [← hl, set_app]
      unfold splitC
      rw [hpe, hb]
      simp
    rw [hset] at o3
    have hw : IntKind.i64.wrap ((i : Int) + 1) = ((i + 1 : Nat) : Int) := w64 (by omega) (by omega)
    have lnS : (texts (splitC s c)).length = i + 1 := by rw [List.length_map, split_len]; omega
    have hsl : slLV 1 (.slice (some ⟨h.length, 0, none⟩) (i + 1) (i + 1)) none (some (.int .i64 ((i + 1 : Nat) : Int))) h3 = some (.slice (some ⟨h.length, 0, none⟩) (i + 1) (i + 1)) := by
      rcases o3.is with ⟨q, _⟩ | ⟨b, b1, b2, q, b3⟩
      · cases q
      · have hb2 : h.length = b := congrArg (fun v => match v with | Value.slice (some a) _ _ => a.block | _ => 0) q
        subst hb2
        unfold slLV
        simp only [b3, bnd]
        rw [if_pos ⟨by omega, by omega, by omega, trivial, by rw [flatten_len o3.len, lnS]; omega⟩]
        simp
    simp only [t0, t9, t10, el.1, e3, hw, hsl, go_sem]
    have o4 : Own h3 h.length h3.length 1 y_string (.slice (some ⟨h.length, 0, none⟩) (i + 1) (i + 1)) (texts (splitC s c)) := by rw [s3.len]; exact o3
    exact o4.fin (s3.pre p2 (Nat.le_refl _))
theorem k_Split (hs : s.size ≤ 1048576) (hc8 : c8 = UInt8.ofNat c) (h256 : c < 256) : ∃ v hh, C T X n_strings_Split [.string s, .string ⟨⟨[c8]⟩⟩] h = some (v, hh) ∧ h <+: hh ∧ Own hh h.length hh.length 1 y_string v (texts (splitC s c)) := by
  obtain ⟨v, h1, c1, p1, o1⟩ := k_genSplit (X := X) (h := h) hs hc8 h256
  refine C_ex t_strings_Split rfl ?_
  unfold F_strings_Split
  simp only [c1, go_sem]
  exact ⟨o1.live, o1.fin p1⟩
end
end Go.Proofs.YthfeahanmbmjhaaGreatDoor.Ab
set_option linter.unusedSimpArgs false
set_option linter.unusedVariables false
set_option linter.unnecessarySimpa false
set_option maxHeartbeats 4000000
namespace Go.Proofs.YthfeahanmbmjhaaGreatDoor.Ab
open Go.RowKit
theorem rows_flat {h h2 : Heap} {sz : Nat} {v : Value} {rws : List (List Value)} (r : Rows h sz v rws) (hf : prim v = true) : Rows h2 sz v rws := by
  refine ⟨r.len, ?_⟩
  rcases r.is with q | ⟨b, off, cap, blk, q, _⟩
  · exact .inl q
  · rw [q] at hf
    simp [prim] at hf
theorem fin_rows {h hh : Heap} {sz : Nat} {v : Value} {rws : List (List Value)} (p : h <+: hh) (r : Rows hh sz v rws) : h <+: (finish h (v, hh)).2 ∧ Rows (finish h (v, hh)).2 sz (finish h (v, hh)).1 rws := by
  have hsl : flat v = true → prim v = true := fun hf => by
    rcases r.is with ⟨q, _⟩ | ⟨b, off, cap, blk, q, _⟩
    · rw [q]; rfl
    · rw [q] at hf ⊢; exact hf
  unfold finish
  split
  · rename_i q
    exact ⟨List.prefix_refl _, rows_flat r (hsl q.1)⟩
  · exact ⟨p, r⟩
theorem ext_none {s : ByteArray} {a : Nat} (h : a ≤ s.size) : s.extract a s.size = noT ↔ ¬ a < s.size := by
  have hz : (s.extract a s.size).size = s.size - a := by rw [ByteArray.size_extract]; omega
  constructor
  · intro e
    rw [e] at hz
    have : noT.size = 0 := rfl
    omega
  · intro e
    refine ByteArray.ext (Array.eq_empty_of_size_eq_zero ?_)
    show (s.extract a s.size).size = 0
    omega
/-- What a line may hold. -/
def LineOk (s : ByteArray) : Prop := s.size ≤ 400 ∧ (∀ i, i < s.size → 32 ≤ byt s i ∧ byt s i ≤ 126) ∧ (wordsL s).length ≤ 8
section
variable {X : CallF} {h : Heap} {s : ByteArray}
theorem k_impl_linesOf [LibS X] (hs : s.size ≤ 1048576) : ∃ v hh, C T X n_impl_linesOf [.string s] h = some (v, hh) ∧ h <+: hh ∧ Rows hh 1 v (texts (linesL s)) := by
  obtain ⟨v, h1, c1, p1, o1⟩ := k_Split (X := X) (h := h) (s := s) (c := 10) (c8 := 10) hs rfl (by omega)
  have hle := pcs_le (s := s) (c := 10) s.size
  obtain ⟨K, hK⟩ : ∃ K, K = (pcs s 10 s.size).1.length := ⟨_, rfl⟩
  have hKs : K ≤ s.size := by rw [hK]; exact pcs_few _
  have hl : (splitC s 10).length = K + 1 := by rw [split_len, hK]
  have ln : lnV h1 v = some (.int .i64 ((K + 1 : Nat) : Int)) := by rw [o1.ln, List.length_map, hl]
  have w1 : IntKind.i64.wrap (((K + 1 : Nat) : Int) - 1) = (K : Int) := by rw [w64 (by omega) (by omega)]; omega
  have el := tx_el o1.rows (i := K) (by omega)
  have hlast : (splitC s 10).getD K noT = s.extract (pcs s 10 s.size).2 s.size := by unfold splitC; rw [hK]; simp
  rw [hlast] at el
  refine C_ex t_impl_linesOf rfl ?_
  unfold F_impl_linesOf
  by_cases q : (pcs s 10 s.size).2 < s.size
  · have hne : ¬ s.extract (pcs s 10 s.size).2 s.size = ⟨⟨[]⟩⟩ := fun e => (ext_none hle).1 e q
    have e : linesL s = splitC s 10 := if_pos q
    simp only [c1, ln, w1, el.1, el.2, str_eq, hne, go_sem]
    rw [e]
    exact ⟨o1.live, fin_rows p1 o1.rows⟩
  · have hne : s.extract (pcs s 10 s.size).2 s.size = ⟨⟨[]⟩⟩ := (ext_none hle).2 q
    have e : linesL s = (pcs s 10 s.size).1 := if_neg q
    obtain ⟨v', e2, r2⟩ := o1.rows.sub (i := 0) (k := K) (Nat.zero_le _) (by rw [List.length_map]; omega) (by omega) (lo := none) (hi := some (.int .i64 (K : Int))) rfl rfl
    have er : ((texts (splitC s 10)).drop 0).take (K - 0) = texts (linesL s) := by
      rw [e, List.drop_zero, Nat.sub_zero, texts, ← List.map_take]
      unfold splitC
      rw [hK, List.take_left']
      rfl
    rw [er] at r2
    have lv : live v' = true := by
      rcases r2.is with ⟨k, _⟩ | ⟨b, off, cap, blk, k, _⟩ <;> rw [k] <;> rfl
    simp only [c1, ln, w1, el.1, el.2, str_eq, hne, e2, decide_true, go_sem]
    exact ⟨lv, fin_rows p1 r2⟩
theorem k_spec_l16Lines (hs : s.size ≤ 1048576) : ∃ v hh, C T X n_spec_l16Lines [.string s] h = some (v, hh) ∧ h <+: hh ∧ Rows hh 1 v (texts (linesL s)) := by
  suffices hx : ∃ v hh, C T X n_spec_l16Lines [.string s] h = some (v, hh) ∧ h <+: hh ∧ Own hh h.length hh.length 1 y_string v (texts (linesL s)) by
    obtain ⟨v, hh, c, p, o⟩ := hx
    exact ⟨v, hh, c, p, o.rows⟩
  refine C_ex t_spec_l16Lines rfl ?_
  unfold F_spec_l16Lines
  simp only [zeros, fillAt, go_sem]
  refine w_for s.size (fun i t loc h' => t 0 = .string s ∧ t 4 = .int .i64 ((pcs s 10 i).2 : Nat) ∧ t 5 = .int .i64 (i : Nat) ∧ h <+: h' ∧ ∃ v, t 3 = v ∧ Own h' h.length h'.length 1 y_string v (texts (pcs s 10 i).1)) ⟨rfl, rfl, rfl, List.prefix_append _ _, _, rfl, Acc.new.own⟩ ?_
  rintro i t loc h1 hi ⟨t0, t4, t5, p1, v, t3, o⟩
  have hle := pcs_le (s := s) (c := 10) i
  have hfw := pcs_few (s := s) (c := 10) i
  simp only [t0, t5, go_sem]
  refine w_open (by simp only [go_sem]; rfl) ?_ ?_ <;> intro hc
  · have hi1 : i < s.size := by omega
    have hw : IntKind.i64.wrap ((i : Int) + 1) = ((i + 1 : Nat) : Int) := w64 (by omega) (by omega)
    have ix := ix_byt (s := s) (i := i) hi1
    by_cases q : byt s i = 10
    · have q' : ((byt s i : Nat) : Int) = 10 := by omega
      have sm := sl_mid (s := s) (a := (pcs s 10 i).2) (b := i) hle (by omega)
      obtain ⟨v2, h2, c2, q1, q2, o2⟩ := o.push1 (pre_len p1) [.string (s.extract (pcs s 10 i).2 i)] rfl (by rw [List.length_map]; unfold lim; omega)
      rw [Nat.max_eq_right q1] at o2
      simp only [t0, t3, t4, t5, ix, q', sm, zeros, fillAt, c2, hw, go_sem]
      refine ⟨hi1, by rw [pcs_yes q], pre_push p1 (Nat.le_refl _) q1 q2, v2, rfl, ?_⟩
      rw [pcs_yes q, texts, List.map_append]
      exact o2
    · have q' : ¬ ((byt s i : Nat) : Int) = 10 := by omega
      simp only [t0, t3, t4, t5, ix, q', hw, go_sem]
      exact ⟨hi1, by rw [pcs_no q], p1, v, rfl, by rw [pcs_no q]; exact o⟩
  · have hin : i = s.size := by omega
    subst hin
    by_cases q : (pcs s 10 s.size).2 < s.size
    · have q' : (((pcs s 10 s.size).2 : Nat) : Int) < (s.size : Int) := by omega
      have e : linesL s = splitC s 10 := if_pos q
      have sf := sl_from (s := s) (a := (pcs s 10 s.size).2) hle
      obtain ⟨v2, h2, c2, q1, q2, o2⟩ := o.push1 (pre_len p1) [.string (s.extract (pcs s 10 s.size).2 s.size)] rfl (by rw [List.length_map]; unfold lim; omega)
      rw [Nat.max_eq_right q1] at o2
      have o3 : Own h2 h.length h2.length 1 y_string v2 (texts (linesL s)) := by rw [e]; unfold splitC; rw [texts, List.map_append]; exact o2
      simp only [t0, t3, t4, q', sf, zeros, fillAt, c2, go_sem]
      exact ⟨o3.live, o3.fin (pre_push p1 (Nat.le_refl _) q1 q2)⟩
    · have q' : ¬ (((pcs s 10 s.size).2 : Nat) : Int) < (s.size : Int) := by omega
      have e : linesL s = (pcs s 10 s.size).1 := if_neg q
      rw [← e] at o
      simp only [t0, t3, t4, q', go_sem]
      exact ⟨o.live, o.fin p1⟩
/-- The words so far. -/
def wrdTo (s : ByteArray) (i : Nat) : List ByteArray := (pcs s 32 i).1.filter fun x => decide (0 < x.size)
theorem words_end : wordsL s = wrdTo s s.size ++ if (pcs s 32 s.size).2 < s.size then [s.extract (pcs s 32 s.size).2 s.size] else [] := by
  have hle := pcs_le (s := s) (c := 32) s.size
  have hz : (s.extract (pcs s 32 s.size).2 s.size).size = s.size - (pcs s 32 s.size).2 := by rw [ByteArray.size_extract]; omega
  unfold wordsL wrdTo splitC
  rw [List.filter_append]
  congr 1
  rw [List.filter_cons, hz]
  by_cases q : (pcs s 32 s.size).2 < s.size
  · rw [if_pos q, if_pos (decide_eq_true (by omega))]; rfl
  · rw [if_neg q, if_neg (by simp; omega)]; rfl
theorem wrd_yes {i : Nat} (h : byt s i = 32) (hi : i < s.size) : wrdTo s (i + 1) = wrdTo s i ++ if (pcs s 32 i).2 < i then [s.extract (pcs s 32 i).2 i] else [] := by
  have hle := pcs_le (s := s) (c := 32) i
  have hz : (s.extract (pcs s 32 i).2 i).size = i - (pcs s 32 i).2 := by rw [ByteArray.size_extract]; omega
  unfold wrdTo
  rw [pcs_yes h, List.filter_append]
  congr 1
  rw [List.filter_cons, hz]
  by_cases q : (pcs s 32 i).2 < i
  · rw [if_pos q, if_pos (decide_eq_true (by omega))]; rfl
  · rw [if_neg q, if_neg (by simp; omega)]; rfl
theorem wrd_no {i : Nat} (h : ¬ byt s i = 32) : wrdTo s (i + 1) = wrdTo s i := by unfold wrdTo; rw [pcs_no h]
theorem wrd_few {i : Nat} : (wrdTo s i).length ≤ i := Nat.le_trans (List.length_filter_le _ _) (pcs_few i)
theorem line_bad {i : Nat} (hi : i < s.size) (h : byt s i < 32 ∨ 126 < byt s i) : ¬ LineOk s := fun k => by have := k.2.1 i hi; omega
end
end Go.Proofs.YthfeahanmbmjhaaGreatDoor.Ab
set_option linter.unusedSimpArgs false
set_option linter.unusedVariables false
set_option linter.unnecessarySimpa false
set_option maxHeartbeats 4000000
namespace Go.Proofs.YthfeahanmbmjhaaGreatDoor.Ab
open Go.RowKit
theorem fin_rowsB {h hh : Heap} {sz : Nat} {v : Value} {b : Bool} {rws : List (List Value)} (p : h <+: hh) (r : Rows hh sz v rws) : ∃ h2, finish h (.tuple ⟨[v, .bool b]⟩, hh) = (.tuple ⟨[v, .bool b]⟩, h2) ∧ h <+: h2 ∧ Rows h2 sz v rws := by
  obtain ⟨h2, e, p2, hc⟩ := finish_cases (v := .tuple ⟨[v, .bool b]⟩) p
  refine ⟨h2, e, p2, ?_⟩
  rcases hc with rfl | ⟨hf, rfl⟩
  · exact r
  · refine rows_flat r ?_
    rcases r.is with ⟨q, _⟩ | ⟨b, off, cap, blk, q, _⟩
    · rw [q]; rfl
    · rw [q] at hf ⊢
      simp [flat, flat1, prim] at hf
theorem fin_fail {h hh : Heap} {v : Value} {b : Bool} (p : h <+: hh) : ∃ h2, finish h (.tuple ⟨[v, .bool b]⟩, hh) = (.tuple ⟨[v, .bool b]⟩, h2) ∧ h <+: h2 := by
  obtain ⟨h2, e, p2, _⟩ := finish_cases (v := .tuple ⟨[v, .bool b]⟩) p
  exact ⟨h2, e, p2⟩
/-- What a look for words tells. -/
def WordsR (h : Heap) (s : ByteArray) (w : Value) (hh : Heap) : Prop := ∃ (v : Value) (b : Bool), w = .tuple ⟨[v, .bool b]⟩ ∧ h <+: hh ∧ (b = true ↔ LineOk s) ∧ (LineOk s → Rows hh 1 v (texts (wordsL s)))
theorem wordsR_no {h hh : Heap} {s : ByteArray} {v : Value} (p : h <+: hh) (hb : ¬ LineOk s) : WordsR h s (finish h (.tuple ⟨[v, .bool false]⟩, hh)).1 (finish h (.tuple ⟨[v, .bool false]⟩, hh)).2 := by
  obtain ⟨h2, e, p2⟩ := fin_fail (v := v) (b := false) p
  rw [e]
  exact ⟨v, false, rfl, p2, ⟨fun k => (by cases k), fun k => absurd k hb⟩, fun k => absurd k hb⟩
theorem wordsR_yes {h hh : Heap} {s : ByteArray} {v : Value} (p : h <+: hh) (hb : LineOk s) (r : Rows hh 1 v (texts (wordsL s))) : WordsR h s (finish h (.tuple ⟨[v, .bool true]⟩, hh)).1 (finish h (.tuple ⟨[v, .bool true]⟩, hh)).2 := by
  obtain ⟨h2, e, p2, r2⟩ := fin_rowsB (b := true) p r
  rw [e]
  exact ⟨v, true, rfl, p2, ⟨fun _ => hb, fun _ => rfl⟩, fun _ => r2⟩
theorem wordsR_no0 {h : Heap} {s : ByteArray} {v : Value} (hb : ¬ LineOk s) : WordsR h s (.tuple ⟨[v, .bool false]⟩) h := ⟨v, false, rfl, List.prefix_refl _, ⟨fun k => (by cases k), fun k => absurd k hb⟩, fun k => absurd k hb⟩
section
variable {X : CallF} {h : Heap} {s : ByteArray}
theorem k_impl_PartsOf [LibS X] (hs : s.size ≤ 1048576) : ∃ w hh, C T X n_impl_PartsOf [.string s] h = some (w, hh) ∧ WordsR h s w hh := by
  refine C_ex t_impl_PartsOf rfl ?_
  unfold F_impl_PartsOf
  by_cases h4 : (s.size : Int) > 400
  · simp only [h4, go_sem]
    exact wordsR_no0 fun (k : LineOk s) => by have := k.1; omega
  simp only [h4, go_sem]
  refine w_for s.size (fun i t loc h' => h' = h ∧ t 0 = .string s ∧ t 4 = nilV ∧ t 12 = .int .i64 (s.size : Nat) ∧ t 13 = .int .i64 (i : Nat) ∧ ∀ j, j < i → 32 ≤ byt s j ∧ byt s j ≤ 126) ⟨rfl, rfl, rfl, rfl, rfl, fun j hj => by omega⟩ ?_
  rintro i t loc h' hi ⟨hh, t0, t4, t12, t13, hall⟩
  rw [hh]
  simp only [t12, t13, go_sem]
  refine w_open (by simp only [go_sem]; rfl) ?_ ?_ <;> intro hc
  · have hi1 : i < s.size := by omega
    have hw : IntKind.i64.wrap ((i : Int) + 1) = ((i + 1 : Nat) : Int) := w64 (by omega) (by omega)
    have ix := ix_byt (s := s) (i := i) hi1
    by_cases q1 : byt s i < 32
    · have q1' : ((byt s i : Nat) : Int) < 32 := by omega
      simp only [t0, t4, t12, t13, ix, q1', go_sem]
      exact wordsR_no0 (line_bad hi1 (.inl q1))
    have q1' : ¬ ((byt s i : Nat) : Int) < 32 := by omega
    by_cases q2 : 126 < byt s i
    · have q2' : ((byt s i : Nat) : Int) > 126 := by omega
      simp only [t0, t4, t12, t13, ix, q1', q2', go_sem]
      exact wordsR_no0 (line_bad hi1 (.inr q2))
    have q2' : ¬ ((byt s i : Nat) : Int) > 126 := by omega
    simp only [t0, t4, t12, t13, ix, q1', q2', hw, go_sem]
    exact ⟨hi1, below_succ hall ⟨by omega, by omega⟩⟩
  · have hin : i = s.size := by omega
    obtain ⟨v, h1, c1, p1, o1⟩ := k_Split (X := X) (h := h) (s := s) (c := 32) (c8 := 32) hs rfl (by omega)
    have hsl : (splitC s 32).length ≤ 401 := by rw [split_len]; have := pcs_few (s := s) (c := 32) s.size; omega
    have ln : lnV h1 v = some (.int .i64 ((splitC s 32).length : Nat)) := by rw [o1.ln, List.length_map]
    simp only [t0, t4, c1, ln, go_sem]
    refine w_for (splitC s 32).length (fun k t loc h' => h1 <+: h' ∧ t 28 = v ∧ t 29 = .int .i64 ((splitC s 32).length : Nat) ∧ t 30 = .int .i64 (k : Nat) ∧ ∃ w, t 4 = w ∧ Own h' h1.length h'.length 1 y_string w (texts (((splitC s 32).take k).filter fun x => decide (0 < x.size)))) ⟨List.prefix_refl _, rfl, rfl, rfl, _, rfl, Own.nil⟩ ?_
    rintro k t loc h2 hk ⟨p2, t28, t29, t30, w, t4, o2⟩
    simp only [t29, t30, go_sem]
    refine w_open (by simp only [go_sem]; rfl) ?_ ?_ <;> intro hc
    · have hk1 : k < (splitC s 32).length := by omega
      have hw : IntKind.i64.wrap ((k : Int) + 1) = ((k + 1 : Nat) : Int) := w64 (by omega) (by omega)
      have el := tx_el (o1.rows.up p2) hk1
      have ht : (splitC s 32).take (k + 1) = (splitC s 32).take k ++ [(splitC s 32).getD k noT] := take_getD hk1
      obtain ⟨x, hx⟩ : ∃ x, x = (splitC s 32).getD k noT := ⟨_, rfl⟩
      rw [← hx] at el ht
      have hfl : ((((splitC s 32).take k).filter fun x => decide (0 < x.size))).length ≤ k := Nat.le_trans (List.length_filter_le _ _) (List.length_take_le _ _)
      by_cases q : x = ⟨⟨[]⟩⟩
      · have hf : ((splitC s 32).take (k + 1)).filter (fun x => decide (0 < x.size)) = ((splitC s 32).take k).filter (fun x => decide (0 < x.size)) := by
          rw [ht, List.filter_append, q]; simp; rfl
        simp only [t4, t28, t29, t30, el.1, el.2, str_eq, q, hw, decide_true, go_sem]
        exact ⟨hk1, p2, w, rfl, by rw [hf]; exact o2⟩
      · have hpos : 0 < x.size := by
          rcases Nat.eq_zero_or_pos x.size with z | z
          · exact absurd (ByteArray.ext (Array.eq_empty_of_size_eq_zero z)) q
          · exact z
        have hf : ((splitC s 32).take (k + 1)).filter (fun x => decide (0 < x.size)) = ((splitC s 32).take k).filter (fun x => decide (0 < x.size)) ++ [x] := by
          rw [ht, List.filter_append, List.filter_cons, if_pos (decide_eq_true hpos)]; rfl
        obtain ⟨v2, h3, c2, q1, q2, o3⟩ := o2.push1 (pre_len p2) [.string x] rfl (by rw [List.length_map]; unfold lim; omega)
        rw [Nat.max_eq_right q1] at o3
        simp only [t4, t28, t29, t30, el.1, el.2, str_eq, q, zeros, fillAt, c2, hw, go_sem]
        refine ⟨hk1, pre_push p2 (Nat.le_refl _) q1 q2, v2, rfl, ?_⟩
        rw [hf, texts, List.map_append]
        exact o3
    · have hkn : k = (splitC s 32).length := by omega
      rw [hkn, List.take_length] at o2
      have ow : Own h2 h1.length h2.length 1 y_string w (texts (wordsL s)) := o2
      have lnw : lnV h2 w = some (.int .i64 ((wordsL s).length : Nat)) := by rw [ow.ln, List.length_map]
      by_cases q8 : ((wordsL s).length : Int) > 8
      · simp only [t4, lnw, q8, go_sem]
        exact wordsR_no (p1.trans p2) fun k => by have := k.2.2; omega
      · simp only [t4, lnw, q8, go_sem]
        exact ⟨ow.live, wordsR_yes (p1.trans p2) ⟨by omega, by rw [← hin]; exact hall, by omega⟩ ow.rows⟩
theorem k_spec_PartsOf (hs : s.size ≤ 1048576) : ∃ w hh, C T X n_spec_PartsOf [.string s] h = some (w, hh) ∧ WordsR h s w hh := by
  refine C_ex t_spec_PartsOf rfl ?_
  unfold F_spec_PartsOf
  obtain ⟨h1, e1⟩ : ∃ h1 : Heap, h1 = h ++ [⟨[], 1, y_string, true⟩] := ⟨_, rfl⟩
  have p1 : h <+: h1 := by rw [e1]; exact List.prefix_append _ _
  have o1 : Own h1 h.length h1.length 1 y_string (.slice (some ⟨h.length, 0, none⟩) 0 0) (texts []) := by
    rw [e1]; exact Acc.new.own
  by_cases h4 : (s.size : Int) > 400
  · simp only [h4, zeros, fillAt, ← e1, go_sem]
    exact wordsR_no p1 fun k => by have := k.1; omega
  simp only [h4, zeros, fillAt, ← e1, go_sem]
  refine w_for (s.size + 1) (fun i t loc h' => h <+: h' ∧ t 0 = .string s ∧ t 6 = .int .i64 (i : Nat) ∧ (∀ j, j < i → j < s.size → 32 ≤ byt s j ∧ byt s j ≤ 126) ∧ ∃ (v : Value) (L : List ByteArray), t 4 = v ∧ Own h' h.length h'.length 1 y_string v (texts L) ∧ (i ≤ s.size → L = wrdTo s i ∧ t 5 = .int .i64 ((pcs s 32 i).2 : Nat)) ∧ (s.size < i → L = wordsL s)) ⟨p1, rfl, rfl, fun j hj => by omega, _, [], rfl, o1, fun _ => ⟨rfl, rfl⟩, fun k => by omega⟩ ?_
  rintro i t loc h2 hi ⟨p2, t0, t6, hall, v, L, t4, o2, lo, hi2⟩
  simp only [t0, t6, go_sem]
  refine w_open (by simp only [go_sem]; rfl) ?_ ?_ <;> intro hc
  · have hi1 : i ≤ s.size := by omega
    have hw : IntKind.i64.wrap ((i : Int) + 1) = ((i + 1 : Nat) : Int) := w64 (by omega) (by omega)
    obtain ⟨rfl, t5⟩ := lo hi1
    have hle := pcs_le (s := s) (c := 32) i
    have hfw := wrd_few (s := s) (i := i)
    have sm := sl_mid (s := s) (a := (pcs s 32 i).2) (b := i) hle hi1
    have pushed : (pcs s 32 i).2 < i → ∃ v2 h3, appLW h2 1 y_string 1 v (some [.string (s.extract (pcs s 32 i).2 i)]) = some (v2, h3) ∧ h <+: h3 ∧ Own h3 h.length h3.length 1 y_string v2 (texts (wrdTo s i ++ [s.extract (pcs s 32 i).2 i])) := fun _ => by
      obtain ⟨v2, h3, c2, q1, q2, o3⟩ := o2.push1 (pre_len p2) [.string (s.extract (pcs s 32 i).2 i)] rfl (by rw [List.length_map]; unfold lim; omega)
      rw [Nat.max_eq_right q1] at o3
      exact ⟨v2, h3, c2, pre_push p2 (Nat.le_refl _) q1 q2, by rw [texts, List.map_append]; exact o3⟩
    have wp : IntKind.i64.wrap (((i : Nat) : Int) + 1) = ((i + 1 : Nat) : Int) := hw
    by_cases hlt : i < s.size
    · have hlt' : (i : Int) < (s.size : Int) := by omega
      have ix := ix_byt (s := s) (i := i) hlt
      by_cases b1 : byt s i < 32
      · have b1' : ((byt s i : Nat) : Int) < 32 := by omega
        simp only [t0, t4, t5, t6, hlt', ix, b1', zeros, fillAt, go_sem]
        exact wordsR_no (p2.trans (List.prefix_append _ _)) (line_bad hlt (.inl b1))
      have b1' : ¬ ((byt s i : Nat) : Int) < 32 := by omega
      by_cases b2 : 126 < byt s i
      · have b2' : ((byt s i : Nat) : Int) > 126 := by omega
        simp only [t0, t4, t5, t6, hlt', ix, b1', b2', zeros, fillAt, go_sem]
        exact wordsR_no (p2.trans (List.prefix_append _ _)) (line_bad hlt (.inr b2))
      have b2' : ¬ ((byt s i : Nat) : Int) > 126 := by omega
      have hall2 : ∀ j, j < i + 1 → j < s.size → 32 ≤ byt s j ∧ byt s j ≤ 126 := fun j h1 h2 => by
        by_cases e : j = i
        · subst e; omega
        · exact hall j (by omega) h2
      by_cases b3 : byt s i = 32
      · have b3' : ((byt s i : Nat) : Int) = 32 := by omega
        have n1 : ¬ (32 : Int) < 32 := by omega
        have n2 : ¬ (32 : Int) > 126 := by omega
        have hy := wrd_yes b3 hlt
        by_cases q : (pcs s 32 i).2 < i
        · have q' : (((pcs s 32 i).2 : Nat) : Int) < (i : Int) := by omega
          obtain ⟨v2, h3, c2, p3, o3⟩ := pushed q
          rw [if_pos q] at hy
          simp only [t0, t4, t5, t6, hlt', ix, b3', n1, n2, q', sm, zeros, fillAt, c2, wp, go_sem]
          exact ⟨by omega, p3, hall2, v2, _, rfl, o3, fun _ => ⟨hy.symm, by rw [pcs_yes b3]⟩, fun k => by omega⟩
        · have q' : ¬ (((pcs s 32 i).2 : Nat) : Int) < (i : Int) := by omega
          rw [if_neg q, List.append_nil] at hy
          simp only [t0, t4, t5, t6, hlt', ix, b3', n1, n2, q', wp, go_sem]
          exact ⟨by omega, p2, hall2, v, _, rfl, o2, fun _ => ⟨hy.symm, by rw [pcs_yes b3]⟩, fun k => by omega⟩
      · have b3' : ¬ ((byt s i : Nat) : Int) = 32 := by omega
        have hn := wrd_no b3
        simp only [t0, t4, t5, t6, hlt', ix, b1', b2', b3', wp, go_sem]
        exact ⟨by omega, p2, hall2, v, _, rfl, o2, fun _ => ⟨hn.symm, by rw [pcs_no b3]⟩, fun k => by omega⟩
    · have hlt' : ¬ (i : Int) < (s.size : Int) := by omega
      obtain rfl : i = s.size := by omega
      have we := words_end (s := s)
      by_cases q : (pcs s 32 s.size).2 < s.size
      · have q' : (((pcs s 32 s.size).2 : Nat) : Int) < (s.size : Int) := by omega
        obtain ⟨v2, h3, c2, p3, o3⟩ := pushed q
        rw [if_pos q] at we
        simp only [t0, t4, t5, t6, hlt', q', sm, zeros, fillAt, c2, wp, go_sem]
        exact ⟨by omega, p3, fun j _ h2 => hall j h2 h2, v2, _, rfl, o3, fun k => by omega, fun _ => we.symm⟩
      · have q' : ¬ (((pcs s 32 s.size).2 : Nat) : Int) < (s.size : Int) := by omega
        rw [if_neg q, List.append_nil] at we
        simp only [t0, t4, t5, t6, hlt', q', wp, go_sem]
        exact ⟨by omega, p2, fun j _ h2 => hall j h2 h2, v, _, rfl, o2, fun k => by omega, fun _ => we.symm⟩
  · have hin : s.size < i := by omega
    obtain rfl := hi2 hin
    have lnw : lnV h2 v = some (.int .i64 ((wordsL s).length : Nat)) := by rw [o2.ln, List.length_map]
    by_cases q8 : ((wordsL s).length : Int) > 8
    · simp only [t4, lnw, q8, zeros, fillAt, go_sem]
      exact wordsR_no (p2.trans (List.prefix_append _ _)) fun k => by have := k.2.2; omega
    · simp only [t4, lnw, q8, go_sem]
      exact ⟨o2.live, wordsR_yes p2 ⟨by omega, fun j hj => hall j (by omega) hj, by omega⟩ o2.rows⟩
end
end Go.Proofs.YthfeahanmbmjhaaGreatDoor.Ab
set_option linter.unusedSimpArgs false
set_option linter.unusedVariables false
set_option linter.unnecessarySimpa false
set_option maxHeartbeats 4000000
namespace Go.Proofs.YthfeahanmbmjhaaGreatDoor.Ab
open Go.RowKit
abbrev kJoin : ByteArray := ⟨⟨[106, 111, 105, 110]⟩⟩
abbrev kLink : ByteArray := ⟨⟨[108, 105, 110, 107]⟩⟩
abbrev kLeave : ByteArray := ⟨⟨[108, 101, 97, 118, 101]⟩⟩
abbrev kClear : ByteArray := ⟨⟨[99, 108, 101, 97, 114]⟩⟩
abbrev kAudit : ByteArray := ⟨⟨[97, 117, 100, 105, 116]⟩⟩
abbrev kShow : ByteArray := ⟨⟨[115, 104, 111, 119]⟩⟩
/-- A word's ask, and how many numbers it has. -/
def opW (w : ByteArray) : Int := if w = kJoin then 1 else if w = kLink then 2 else if w = kLeave then 3 else if w = kClear then 4 else if w = kAudit then 5 else if w = kShow then 6 else 0
def manyW (w : ByteArray) : Int := if w = kJoin then 1 else if w = kLink then 5 else if w = kLeave then 1 else if w = kClear then 0 else if w = kAudit then 1 else if w = kShow then 0 else 0
noncomputable def dcI (x : ByteArray) : Int := (dcN x : Nat)
/-- The numbers of texts. -/
def NumsR (h : Heap) (ws : List ByteArray) (w : Value) (hh : Heap) : Prop := ∃ (v : Value) (b : Bool), w = .tuple ⟨[v, .bool b]⟩ ∧ h <+: hh ∧ (b = true ↔ ∀ x ∈ ws, dcB x = true) ∧ (b = true → Own hh h.length hh.length 1 y_int v (ints (ws.map dcI)))
theorem numsR_no {h hh : Heap} {ws : List ByteArray} {v : Value} (p : h <+: hh) (hb : ¬ ∀ x ∈ ws, dcB x = true) : NumsR h ws (finish h (.tuple ⟨[v, .bool false]⟩, hh)).1 (finish h (.tuple ⟨[v, .bool false]⟩, hh)).2 := by
  obtain ⟨h2, e, p2⟩ := fin_fail (v := v) (b := false) p
  rw [e]
  exact ⟨v, false, rfl, p2, ⟨fun k => (by cases k), fun k => absurd k hb⟩, fun k => (by cases k)⟩
theorem numsR_yes {h hh : Heap} {ws : List ByteArray} {v : Value} (p : h <+: hh) (hb : ∀ x ∈ ws, dcB x = true) (o : Own hh h.length hh.length 1 y_int v (ints (ws.map dcI))) : NumsR h ws (finish h (.tuple ⟨[v, .bool true]⟩, hh)).1 (finish h (.tuple ⟨[v, .bool true]⟩, hh)).2 := by
  obtain ⟨h2, e, p2, hc⟩ := finish_cases (v := .tuple ⟨[v, .bool true]⟩) p
  rw [e]
  refine ⟨v, true, rfl, p2, ⟨fun _ => hb, fun _ => rfl⟩, fun _ => ?_⟩
  rcases hc with rfl | ⟨hf, rfl⟩
  · exact o
  · refine o.flatP ?_
    rcases o.is with ⟨q, _⟩ | ⟨b, _, _, q, _⟩
    · rw [q]; rfl
    · rw [q] at hf ⊢
      simp [flat, flat1, prim] at hf
/-- A figure's value. -/
def hexV (b : Nat) : Int := if 48 ≤ b ∧ b ≤ 57 then (b : Int) - 48 else if 97 ≤ b ∧ b ≤ 102 then (b : Int) - 87 else -1
theorem hexV_bnd {b : Nat} : -1 ≤ hexV b ∧ hexV b ≤ 15 := by unfold hexV; split <;> (try split) <;> omega
theorem hex_ix {b : Nat} (h : b < 256) : Lib.indexByte [48, 49, 50, 51, 52, 53, 54, 55, 56, 57, 97, 98, 99, 100, 101, 102] b.toUInt8 = hexV b := by
  have key : ∀ b : Fin 256, Lib.indexByte [48, 49, 50, 51, 52, 53, 54, 55, 56, 57, 97, 98, 99, 100, 101, 102] b.val.toUInt8 = hexV b.val := by decide +kernel
  exact key ⟨b, h⟩
def hxTo (s : ByteArray) : Nat → List Int
  | 0 => []
  | k + 1 => hxTo s k ++ [IntKind.u8.wrap (16 * hexV (byt s (2 * k)) + hexV (byt s (2 * k + 1)))]
def HexOk (s : ByteArray) : Prop := s.size % 2 = 0 ∧ s.size ≤ 16000 ∧ ∀ i, i < s.size → 0 ≤ hexV (byt s i)
open Classical in
noncomputable def unhT (s : ByteArray) : ByteArray := if HexOk s then strOfNums (hxTo s (s.size / 2)) else noT
theorem hxTo_len {s : ByteArray} : ∀ k, (hxTo s k).length = k
  | 0 => rfl
  | k + 1 => by rw [hxTo, List.length_append, hxTo_len k]; rfl
section
variable {X : CallF} {h : Heap} {s w : ByteArray} {ws : List ByteArray} {v : Value}
theorem k_impl_opOf : C T X n_impl_opOf [.string w] h = some (.tuple ⟨[.int .i64 (opW w), .int .i64 (manyW w)]⟩, h) := by
  refine C_go t_impl_opOf rfl ?_
  unfold F_impl_opOf opW manyW
  by_cases e1 : w = kJoin
  · simp only [str_eq, e1, decide_true, go_sem]
  by_cases e2 : w = kLink
  · have n1 : ¬ kLink = kJoin := by decide
    simp only [str_eq, e2, n1, decide_true, go_sem]
  by_cases e3 : w = kLeave
  · have n1 : ¬ kLeave = kJoin := by decide
    have n2 : ¬ kLeave = kLink := by decide
    simp only [str_eq, e3, n1, n2, decide_true, go_sem]
  by_cases e4 : w = kClear
  · have n1 : ¬ kClear = kJoin := by decide
    have n2 : ¬ kClear = kLink := by decide
    have n3 : ¬ kClear = kLeave := by decide
    simp only [str_eq, e4, n1, n2, n3, decide_true, go_sem]
  by_cases e5 : w = kAudit
  · have n1 : ¬ kAudit = kJoin := by decide
    have n2 : ¬ kAudit = kLink := by decide
    have n3 : ¬ kAudit = kLeave := by decide
    have n4 : ¬ kAudit = kClear := by decide
    simp only [str_eq, e5, n1, n2, n3, n4, decide_true, go_sem]
  by_cases e6 : w = kShow
  · have n1 : ¬ kShow = kJoin := by decide
    have n2 : ¬ kShow = kLink := by decide
    have n3 : ¬ kShow = kLeave := by decide
    have n4 : ¬ kShow = kClear := by decide
    have n5 : ¬ kShow = kAudit := by decide
    simp only [str_eq, e6, n1, n2, n3, n4, n5, decide_true, go_sem]
  · simp only [str_eq, e1, e2, e3, e4, e5, e6, go_sem]
theorem k_spec_l16Word : C T X n_spec_l16Word [.string w] h = some (.tuple ⟨[.int .i64 (opW w), .int .i64 (if opW w = 0 then -1 else manyW w)]⟩, h) := by
  refine C_go t_spec_l16Word rfl ?_
  unfold F_spec_l16Word opW manyW
  by_cases e1 : w = kJoin
  · simp only [str_eq, e1, decide_true, go_sem]
  by_cases e2 : w = kLink
  · have n1 : ¬ kLink = kJoin := by decide
    simp only [str_eq, e2, n1, decide_true, go_sem]
  by_cases e3 : w = kLeave
  · have n1 : ¬ kLeave = kJoin := by decide
    have n2 : ¬ kLeave = kLink := by decide
    simp only [str_eq, e3, n1, n2, decide_true, go_sem]
  by_cases e4 : w = kClear
  · have n1 : ¬ kClear = kJoin := by decide
    have n2 : ¬ kClear = kLink := by decide
    have n3 : ¬ kClear = kLeave := by decide
    simp only [str_eq, e4, n1, n2, n3, decide_true, go_sem]
  by_cases e5 : w = kAudit
  · have n1 : ¬ kAudit = kJoin := by decide
    have n2 : ¬ kAudit = kLink := by decide
    have n3 : ¬ kAudit = kLeave := by decide
    have n4 : ¬ kAudit = kClear := by decide
    simp only [str_eq, e5, n1, n2, n3, n4, decide_true, go_sem]
  by_cases e6 : w = kShow
  · have n1 : ¬ kShow = kJoin := by decide
    have n2 : ¬ kShow = kLink := by decide
    have n3 : ¬ kShow = kLeave := by decide
    have n4 : ¬ kShow = kClear := by decide
    have n5 : ¬ kShow = kAudit := by decide
    simp only [str_eq, e6, n1, n2, n3, n4, n5, decide_true, go_sem]
  · simp only [str_eq, e1, e2, e3, e4, e5, e6, go_sem]
theorem k_impl_numbers [LibS X] (r : Rows h 1 v (texts ws)) (hl : ws.length ≤ 1048576) (hz : ∀ x ∈ ws, x.size ≤ 1048576) : ∃ w hh, C T X n_impl_numbers [v] h = some (w, hh) ∧ NumsR h ws w hh := by
  refine C_ex t_impl_numbers rfl ?_
  unfold F_impl_numbers
  have ln : lnV h v = some (.int .i64 (ws.length : Nat)) := r.lnm
  simp only [ln, go_sem]
  refine w_for ws.length (fun i t loc h' => h <+: h' ∧ t 9 = v ∧ t 10 = .int .i64 (ws.length : Nat) ∧ t 11 = .int .i64 (i : Nat) ∧ (∀ j, j < i → dcB (ws.getD j noT) = true) ∧ ∃ w, t 4 = w ∧ Own h' h.length h'.length 1 y_int w (ints ((ws.take i).map dcI))) ⟨List.prefix_refl _, rfl, rfl, rfl, fun j hj => by omega, _, rfl, Own.nil⟩ ?_
  rintro i t loc h1 hi ⟨p1, t9, t10, t11, hall, w, t4, o⟩
  simp only [t10, t11, go_sem]
  refine w_open (by simp only [go_sem]; rfl) ?_ ?_ <;> intro hc
  · have hi1 : i < ws.length := by omega
    have hw : IntKind.i64.wrap ((i : Int) + 1) = ((i + 1 : Nat) : Int) := w64 (by omega) (by omega)
    have el := tx_el (r.up p1) hi1
    obtain ⟨x, hx⟩ : ∃ x, x = ws.getD i noT := ⟨_, rfl⟩
    have hxm : x ∈ ws := by rw [hx]; exact getD_mem hi1
    have cr := k_impl_ReadDecimal (X := X) (h := h1) (s := x) (by have := hz x hxm; omega)
    rw [← hx] at el
    have ht : ws.take (i + 1) = ws.take i ++ [x] := by rw [hx]; exact take_getD hi1
    cases hb : dcB x with
    | false =>
      rw [hb] at cr
      simp only [t4, t9, t10, t11, el.1, el.2, cr, go_sem]
      exact numsR_no p1 fun k => by have := k x hxm; rw [hb] at this; cases this
    | true =>
      rw [hb] at cr
      obtain ⟨v2, h3, c2, q1, q2, o3⟩ := o.push1 (pre_len p1) [.int .i64 (dcN x : Nat)] rfl (by rw [ints_len, List.length_map, List.length_take]; unfold lim; omega)
      rw [Nat.max_eq_right q1] at o3
      simp only [t4, t9, t10, t11, el.1, el.2, cr, zeros, fillAt, c2, hw, go_sem]
      refine ⟨hi1, pre_push p1 (Nat.le_refl _) q1 q2, below_succ hall (by rw [← hx]; exact hb), v2, rfl, ?_⟩
      rw [ht, List.map_append]
      have e : ints (List.map dcI (ws.take i) ++ List.map dcI [x]) = ints (List.map dcI (ws.take i)) ++ [[.int .i64 (dcN x : Nat)]] := by simp [ints, dcI]
      rw [e]
      exact o3
  · have hin : i = ws.length := by omega
    rw [hin, List.take_length] at o
    simp only [t4, go_sem]
    refine ⟨o.live, numsR_yes p1 (fun x hx => ?_) o⟩
    obtain ⟨j, hj, rfl⟩ := mem_getD (d := noT) hx
    exact hall j (by omega)
theorem k_spec_l01Value {b : Nat} (hb : b < 256) : C T X n_spec_l01Value [.int .u8 (b : Int)] h = some (.int .i64 (hexV b), h) := by
  refine C_go t_spec_l01Value rfl ?_
  unfold F_spec_l01Value hexV
  have w0 : IntKind.i64.wrap (b : Int) = (b : Int) := w64 (by omega) (by omega)
  by_cases a1 : 48 ≤ b
  · have a1' : (b : Int) ≥ 48 := by omega
    by_cases a2 : b ≤ 57
    · have a2' : (b : Int) ≤ 57 := by omega
      have w1 : IntKind.i64.wrap ((b : Int) - 48) = (b : Int) - 48 := w64 (by omega) (by omega)
      rw [if_pos ⟨a1, a2⟩]
      simp only [a1', a2', w0, w1, go_sem]
    · have a2' : ¬ (b : Int) ≤ 57 := by omega
      rw [if_neg (fun q => a2 q.2)]
      by_cases a3 : 97 ≤ b
      · have a3' : (b : Int) ≥ 97 := by omega
        by_cases a4 : b ≤ 102
        · have a4' : (b : Int) ≤ 102 := by omega
          have w1 : IntKind.i64.wrap ((b : Int) - 97) = (b : Int) - 97 := w64 (by omega) (by omega)
          have w2 : IntKind.i64.wrap ((b : Int) - 97 + 10) = (b : Int) - 87 := by rw [w64 (by omega) (by omega)]; omega
          rw [if_pos ⟨a3, a4⟩]
          simp only [a1', a2', a3', a4', w0, w1, w2, go_sem]
        · have a4' : ¬ (b : Int) ≤ 102 := by omega
          rw [if_neg (fun q => a4 q.2)]
          simp only [a1', a2', a3', a4', go_sem]
      · have a3' : ¬ (b : Int) ≥ 97 := by omega
        rw [if_neg (fun q => a3 q.1)]
        simp only [a1', a2', a3', go_sem]
  · have a1' : ¬ (b : Int) ≥ 48 := by omega
    have a3' : ¬ (b : Int) ≥ 97 := by omega
    rw [if_neg (fun q => a1 q.1), if_neg (fun q => by omega)]
    simp only [a1', a3', go_sem]
end
end Go.Proofs.YthfeahanmbmjhaaGreatDoor.Ab
set_option linter.unusedSimpArgs false
set_option linter.unusedVariables false
set_option linter.unnecessarySimpa false
set_option maxHeartbeats 4000000
namespace Go.Proofs.YthfeahanmbmjhaaGreatDoor.Ab
open Go.RowKit
noncomputable section
open Classical
def unhV (s : ByteArray) : Value := .tuple ⟨[.string (unhT s), .bool (decide (HexOk s))]⟩
end
theorem unhV_no {s : ByteArray} (h : ¬ HexOk s) : unhV s = .tuple ⟨[.string noT, .bool false]⟩ := by unfold unhV unhT; simp only [h, if_false, decide_false]
theorem unhV_yes {s : ByteArray} (h : HexOk s) : unhV s = .tuple ⟨[.string (strOfNums (hxTo s (s.size / 2))), .bool true]⟩ := by unfold unhV unhT; simp only [h, if_true, decide_true]
section
variable {X : CallF} {h : Heap} {s : ByteArray}
theorem k_impl_Unhex [LibS X] (hs : s.size ≤ 1048576) : C T X n_impl_Unhex [.string s] h = some (unhV s, h) := by
  refine C_go t_impl_Unhex rfl ?_
  unfold F_impl_Unhex
  have hm2 : (s.size : Int).tmod 2 = ((s.size % 2 : Nat) : Int) := rfl
  by_cases e : s.size % 2 = 0
  rotate_left
  · have e' : ¬ ((s.size % 2 : Nat) : Int) = 0 := by omega
    rw [unhV_no fun k => e k.1]
    simp only [hm2, e', go_sem]
  have e' : ((s.size % 2 : Nat) : Int) = 0 := by omega
  by_cases z : 16000 < s.size
  · have z' : (s.size : Int) > 16000 := by omega
    rw [unhV_no fun k => by have := k.2.1; omega]
    simp only [hm2, e', z', go_sem]
  have z' : ¬ (s.size : Int) > 16000 := by omega
  simp only [hm2, e', z', go_sem]
  refine w_for (s.size / 2) (fun i t loc h' => h <+: h' ∧ t 0 = .string s ∧ t 5 = .int .i64 ((2 * i : Nat) : Int) ∧ (∀ j, j < 2 * i → 0 ≤ hexV (byt s j)) ∧ ∃ w, t 4 = w ∧ Own h' h.length h'.length 1 y_byte w (bys (hxTo s i))) ⟨List.prefix_refl _, rfl, rfl, fun j hj => by omega, _, rfl, Own.nil⟩ ?_
  rintro i t loc h1 hi ⟨p1, t0, t5, hall, w, t4, o⟩
  simp only [t0, t5, go_sem]
  refine w_open (by simp only [go_sem]; rfl) ?_ ?_ <;> intro hc
  · have hi1 : 2 * i + 1 < s.size := by omega
    have hw : IntKind.i64.wrap (((2 * i : Nat) : Int) + 2) = ((2 * (i + 1) : Nat) : Int) := by rw [w64 (by omega) (by omega)]; omega
    have hw1 : IntKind.i64.wrap (((2 * i : Nat) : Int) + 1) = ((2 * i + 1 : Nat) : Int) := by rw [w64 (by omega) (by omega)]; omega
    have ix := ix_byt (s := s) (i := 2 * i) (by omega)
    have ix2 := ix_byt (s := s) (i := 2 * i + 1) hi1
    have b1 := byt_lt (s := s) (i := 2 * i)
    have b2 := byt_lt (s := s) (i := 2 * i + 1)
    have c1 := k_IndexByte (X := X) (h := h1) (s := ⟨⟨[48, 49, 50, 51, 52, 53, 54, 55, 56, 57, 97, 98, 99, 100, 101, 102]⟩⟩) (c := (byt s (2 * i) : Nat))
    have c2 := k_IndexByte (X := X) (h := h1) (s := ⟨⟨[48, 49, 50, 51, 52, 53, 54, 55, 56, 57, 97, 98, 99, 100, 101, 102]⟩⟩) (c := (byt s (2 * i + 1) : Nat))
    rw [Int.toNat_natCast, hex_ix b1] at c1
    rw [Int.toNat_natCast, hex_ix b2] at c2
    have r1 := hexV_bnd (b := byt s (2 * i))
    have r2 := hexV_bnd (b := byt s (2 * i + 1))
    obtain ⟨x, hx⟩ : ∃ x, x = hexV (byt s (2 * i)) := ⟨_, rfl⟩
    obtain ⟨y, hy⟩ : ∃ y, y = hexV (byt s (2 * i + 1)) := ⟨_, rfl⟩
    rw [← hx] at c1 r1
    rw [← hy] at c2 r2
    have w1 : IntKind.i64.wrap (16 * x) = 16 * x := w64 (by omega) (by omega)
    have w2 : IntKind.i64.wrap (16 * x + y) = 16 * x + y := w64 (by omega) (by omega)
    by_cases q1 : x < 0
    · rw [unhV_no fun k => by have := k.2.2 (2 * i) (by omega); omega]
      simp only [t0, t5, hw1, ix, ix2, c1, c2, q1, go_sem]
      exact finish_flat rfl p1
    by_cases q2 : y < 0
    · rw [unhV_no fun k => by have := k.2.2 (2 * i + 1) (by omega); omega]
      simp only [t0, t5, hw1, ix, ix2, c1, c2, q1, q2, go_sem]
      exact finish_flat rfl p1
    obtain ⟨v2, h3, c3, k1, k2, o3⟩ := o.push1 (pre_len p1) [.int .u8 (IntKind.u8.wrap (16 * x + y))] rfl (by rw [bys_len, hxTo_len]; unfold lim; omega)
    rw [Nat.max_eq_right k1] at o3
    simp only [t0, t4, t5, hw, hw1, ix, ix2, c1, c2, q1, q2, w1, w2, zeros, fillAt, c3, go_sem]
    refine ⟨by omega, pre_push p1 (Nat.le_refl _) k1 k2, fun j hj => ?_, v2, rfl, ?_⟩
    · by_cases j1 : j = 2 * i
      · rw [j1]; omega
      by_cases j2 : j = 2 * i + 1
      · rw [j2]; omega
      exact hall j (by omega)
    · rw [hxTo, ← hx, ← hy]
      unfold bys
      rw [List.map_append]
      exact o3
  · have hin : i = s.size / 2 := by omega
    have hok : HexOk s := ⟨e, by omega, fun j hj => hall j (by omega)⟩
    rw [unhV_yes hok, ← hin]
    have st := o.rows.str
    simp only [t4, st, go_sem]
    exact finish_flat rfl p1
theorem k_spec_Unhex (hs : s.size ≤ 1048576) : C T X n_spec_Unhex [.string s] h = some (unhV s, h) := by
  refine C_go t_spec_Unhex rfl ?_
  unfold F_spec_Unhex
  have hm2 : (s.size : Int).tmod 2 = ((s.size % 2 : Nat) : Int) := rfl
  by_cases z : 16000 < s.size
  · have z' : (s.size : Int) > 16000 := by omega
    rw [unhV_no fun k => by have := k.2.1; omega]
    simp only [z', go_sem]
  have z' : ¬ (s.size : Int) > 16000 := by omega
  by_cases e : s.size % 2 = 0
  rotate_left
  · have e' : ¬ ((s.size % 2 : Nat) : Int) = 0 := by omega
    rw [unhV_no fun k => e k.1]
    simp only [hm2, e', z', go_sem]
  have e' : ((s.size % 2 : Nat) : Int) = 0 := by omega
  obtain ⟨h0, e0⟩ : ∃ h0 : Heap, h0 = h ++ [⟨[], 1, y_byte, true⟩] := ⟨_, rfl⟩
  have p0 : h <+: h0 := by rw [e0]; exact List.prefix_append _ _
  have o0 : Own h0 h.length h0.length 1 y_byte (.slice (some ⟨h.length, 0, none⟩) 0 0) (bys (hxTo s 0)) := by
    rw [e0]; exact Acc.new.own
  simp only [hm2, e', z', zeros, fillAt, ← e0, go_sem]
  refine w_for (s.size / 2) (fun i t loc h' => h <+: h' ∧ t 0 = .string s ∧ t 5 = .int .i64 ((2 * i : Nat) : Int) ∧ (∀ j, j < 2 * i → 0 ≤ hexV (byt s j)) ∧ ∃ w, t 4 = w ∧ Own h' h.length h'.length 1 y_byte w (bys (hxTo s i))) ⟨p0, rfl, rfl, fun j hj => by omega, _, rfl, o0⟩ ?_
  rintro i t loc h1 hi ⟨p1, t0, t5, hall, w, t4, o⟩
  simp only [t0, t5, go_sem]
  refine w_open (by simp only [go_sem]; rfl) ?_ ?_ <;> intro hc
  · have hi1 : 2 * i + 1 < s.size := by omega
    have hw : IntKind.i64.wrap (((2 * i : Nat) : Int) + 2) = ((2 * (i + 1) : Nat) : Int) := by rw [w64 (by omega) (by omega)]; omega
    have hw1 : IntKind.i64.wrap (((2 * i : Nat) : Int) + 1) = ((2 * i + 1 : Nat) : Int) := by rw [w64 (by omega) (by omega)]; omega
    have ix := ix_byt (s := s) (i := 2 * i) (by omega)
    have ix2 := ix_byt (s := s) (i := 2 * i + 1) hi1
    have b1 := byt_lt (s := s) (i := 2 * i)
    have b2 := byt_lt (s := s) (i := 2 * i + 1)
    have c1 := k_spec_l01Value (X := X) (h := h1) b1
    have c2 := k_spec_l01Value (X := X) (h := h1) b2
    have r1 := hexV_bnd (b := byt s (2 * i))
    have r2 := hexV_bnd (b := byt s (2 * i + 1))
    obtain ⟨x, hx⟩ : ∃ x, x = hexV (byt s (2 * i)) := ⟨_, rfl⟩
    obtain ⟨y, hy⟩ : ∃ y, y = hexV (byt s (2 * i + 1)) := ⟨_, rfl⟩
    rw [← hx] at c1 r1
    rw [← hy] at c2 r2
    have w1 : IntKind.i64.wrap (16 * x) = 16 * x := w64 (by omega) (by omega)
    have w2 : IntKind.i64.wrap (16 * x + y) = 16 * x + y := w64 (by omega) (by omega)
    by_cases q1 : x < 0
    · rw [unhV_no fun k => by have := k.2.2 (2 * i) (by omega); omega]
      simp only [t0, t5, hw1, ix, ix2, c1, c2, q1, go_sem]
      exact finish_flat rfl p1
    by_cases q2 : y < 0
    · rw [unhV_no fun k => by have := k.2.2 (2 * i + 1) (by omega); omega]
      simp only [t0, t5, hw1, ix, ix2, c1, c2, q1, q2, go_sem]
      exact finish_flat rfl p1
    obtain ⟨v2, h3, c3, k1, k2, o3⟩ := o.push1 (pre_len p1) [.int .u8 (IntKind.u8.wrap (16 * x + y))] rfl (by rw [bys_len, hxTo_len]; unfold lim; omega)
    rw [Nat.max_eq_right k1] at o3
    simp only [t0, t4, t5, hw, hw1, ix, ix2, c1, c2, q1, q2, w1, w2, zeros, fillAt, c3, go_sem]
    refine ⟨by omega, pre_push p1 (Nat.le_refl _) k1 k2, fun j hj => ?_, v2, rfl, ?_⟩
    · by_cases j1 : j = 2 * i
      · rw [j1]; omega
      by_cases j2 : j = 2 * i + 1
      · rw [j2]; omega
      exact hall j (by omega)
    · rw [hxTo, ← hx, ← hy]
      unfold bys
      rw [List.map_append]
      exact o3
  · have hin : i = s.size / 2 := by omega
    have hok : HexOk s := ⟨e, by omega, fun j hj => hall j (by omega)⟩
    rw [unhV_yes hok, ← hin]
    have st := o.rows.str
    simp only [t4, st, go_sem]
    exact finish_flat rfl p1
end
end Go.Proofs.YthfeahanmbmjhaaGreatDoor.Ab
set_option linter.unusedSimpArgs false
set_option linter.unusedVariables false
set_option linter.unnecessarySimpa false
set_option maxHeartbeats 4000000
namespace Go.Proofs.YthfeahanmbmjhaaGreatDoor.Ab
open Go.RowKit
theorem pcs_in {s : ByteArray} {c i : Nat} {x : ByteArray} : ∀ m, x ∈ (pcs s c i).1 → x ∈ (pcs s c (i + m)).1
  | 0, h => h
  | m + 1, h => by
    have ih := pcs_in (s := s) (c := c) m h
    rw [← Nat.add_assoc]
    by_cases q : byt s (i + m) = c
    · rw [pcs_yes q]; exact List.mem_append_left _ ih
    · rw [pcs_no q]; exact ih
section
variable {X : CallF} {h : Heap} {s : ByteArray}
theorem k_spec_l16Commas (hs : s.size ≤ 1048576) : ∃ w hh, C T X n_spec_l16Commas [.string s] h = some (w, hh) ∧ NumsR h (splitC s 44) w hh := by
  refine C_ex t_spec_l16Commas rfl ?_
  unfold F_spec_l16Commas
  obtain ⟨h1, e1⟩ : ∃ h1 : Heap, h1 = h ++ [⟨[], 1, y_int, true⟩] := ⟨_, rfl⟩
  have p1 : h <+: h1 := by rw [e1]; exact List.prefix_append _ _
  have o1 : Own h1 h.length h1.length 1 y_int (.slice (some ⟨h.length, 0, none⟩) 0 0) (ints (([] : List ByteArray).map dcI)) := by
    rw [e1]; exact Acc.new.own
  simp only [zeros, fillAt, ← e1, go_sem]
  refine w_for (s.size + 1) (fun i t loc h' => h <+: h' ∧ t 0 = .string s ∧ t 6 = .int .i64 (i : Nat) ∧ ∃ (v : Value) (L : List ByteArray), t 4 = v ∧ Own h' h.length h'.length 1 y_int v (ints (L.map dcI)) ∧ (∀ x ∈ L, dcB x = true) ∧ (i ≤ s.size → L = (pcs s 44 i).1 ∧ t 5 = .int .i64 ((pcs s 44 i).2 : Nat)) ∧ (s.size < i → L = splitC s 44)) ⟨p1, rfl, rfl, _, [], rfl, o1, fun x hx => (by cases hx), fun _ => ⟨rfl, rfl⟩, fun k => by omega⟩ ?_
  rintro i t loc h2 hi ⟨p2, t0, t6, v, L, t4, o2, hall, lo, hi2⟩
  simp only [t0, t6, go_sem]
  refine w_open (by simp only [go_sem]; rfl) ?_ ?_ <;> intro hc
  · have hi1 : i ≤ s.size := by omega
    have hw : IntKind.i64.wrap ((i : Int) + 1) = ((i + 1 : Nat) : Int) := w64 (by omega) (by omega)
    obtain ⟨rfl, t5⟩ := lo hi1
    have hle := pcs_le (s := s) (c := 44) i
    have hfw := pcs_few (s := s) (c := 44) i
    have sm := sl_mid (s := s) (a := (pcs s 44 i).2) (b := i) hle hi1
    obtain ⟨x, hx⟩ : ∃ x, x = s.extract (pcs s 44 i).2 i := ⟨_, rfl⟩
    rw [← hx] at sm
    have cr := k_spec_ReadDecimal (X := X) (h := h2) (s := x)
    have wp : IntKind.i64.wrap (((i : Nat) : Int) + 1) = ((i + 1 : Nat) : Int) := hw
    have pushed : ∃ v2 h3, appLW h2 1 y_int 1 v (some [.int .i64 (dcN x : Nat)]) = some (v2, h3) ∧ h <+: h3 ∧ Own h3 h.length h3.length 1 y_int v2 (ints (((pcs s 44 i).1 ++ [x]).map dcI)) := by
      obtain ⟨v2, h3, c2, q1, q2, o3⟩ := o2.push1 (pre_len p2) [.int .i64 (dcN x : Nat)] rfl (by rw [ints_len, List.length_map]; unfold lim; omega)
      rw [Nat.max_eq_right q1] at o3
      refine ⟨v2, h3, c2, pre_push p2 (Nat.le_refl _) q1 q2, ?_⟩
      have e : ints (((pcs s 44 i).1 ++ [x]).map dcI) = ints ((pcs s 44 i).1.map dcI) ++ [[.int .i64 (dcN x : Nat)]] := by simp [ints, dcI]
      rw [e]
      exact o3
    have hall2 : dcB x = true → ∀ y ∈ (pcs s 44 i).1 ++ [x], dcB y = true := fun hb y hy => by
      rcases List.mem_append.1 hy with q | q
      · exact hall y q
      · rw [List.mem_singleton.1 q]; exact hb
    have bad : x ∈ splitC s 44 → dcB x = false → ¬ ∀ y ∈ splitC s 44, dcB y = true := fun m hb k => by
      have := k x m
      rw [hb] at this
      cases this
    by_cases hlt : i < s.size
    · have hlt' : (i : Int) < (s.size : Int) := by omega
      have ix := ix_byt (s := s) (i := i) hlt
      by_cases b3 : byt s i = 44
      · have b3' : ((byt s i : Nat) : Int) = 44 := by omega
        have hxm : x ∈ splitC s 44 := by
          have : x ∈ (pcs s 44 (i + 1)).1 := by rw [pcs_yes b3, ← hx]; exact List.mem_append_right _ List.mem_cons_self
          have := pcs_in (s.size - (i + 1)) this
          rw [show i + 1 + (s.size - (i + 1)) = s.size by omega] at this
          exact List.mem_append_left _ this
        cases hb : dcB x with
        | false =>
          rw [hb] at cr
          simp only [t0, t4, t5, t6, hlt', ix, b3', sm, cr, zeros, fillAt, go_sem]
          exact numsR_no (p2.trans (List.prefix_append _ _)) (bad hxm hb)
        | true =>
          rw [hb] at cr
          obtain ⟨v2, h3, c2, p3, o3⟩ := pushed
          simp only [t0, t4, t5, t6, hlt', ix, b3', sm, cr, zeros, fillAt, c2, wp, go_sem]
          exact ⟨by omega, p3, v2, _, rfl, o3, hall2 hb, fun _ => ⟨by rw [pcs_yes b3, hx], by rw [pcs_yes b3]⟩, fun k => by omega⟩
      · have b3' : ¬ ((byt s i : Nat) : Int) = 44 := by omega
        simp only [t0, t4, t5, t6, hlt', ix, b3', wp, go_sem]
        exact ⟨by omega, p2, v, _, rfl, o2, hall, fun _ => ⟨by rw [pcs_no b3], by rw [pcs_no b3]⟩, fun k => by omega⟩
    · have hlt' : ¬ (i : Int) < (s.size : Int) := by omega
      obtain rfl : i = s.size := by omega
      have hspl : splitC s 44 = (pcs s 44 s.size).1 ++ [x] := by rw [hx]; rfl
      have hxm : x ∈ splitC s 44 := by rw [hspl]; exact List.mem_append_right _ List.mem_cons_self
      cases hb : dcB x with
      | false =>
        rw [hb] at cr
        simp only [t0, t4, t5, t6, hlt', sm, cr, zeros, fillAt, go_sem]
        exact numsR_no (p2.trans (List.prefix_append _ _)) (bad hxm hb)
      | true =>
        rw [hb] at cr
        obtain ⟨v2, h3, c2, p3, o3⟩ := pushed
        simp only [t0, t4, t5, t6, hlt', sm, cr, zeros, fillAt, c2, wp, go_sem]
        exact ⟨by omega, p3, v2, _, rfl, o3, hall2 hb, fun k => by omega, fun _ => hspl.symm⟩
  · have hin : s.size < i := by omega
    obtain rfl := hi2 hin
    simp only [t4, go_sem]
    exact ⟨o2.live, numsR_yes p2 hall o2⟩
end
end Go.Proofs.YthfeahanmbmjhaaGreatDoor.Ab
set_option linter.unusedSimpArgs false
set_option linter.unusedVariables false
set_option linter.unnecessarySimpa false
set_option maxHeartbeats 4000000
namespace Go.Proofs.YthfeahanmbmjhaaGreatDoor.Ab
open Go.RowKit
abbrev kRaw : ByteArray := ⟨⟨[114, 97, 119]⟩⟩
noncomputable def nWs (ws : List ByteArray) : List Int := (ws.drop 1).map dcI
noncomputable def nFive (ws : List ByteArray) : List Int := [(nWs ws).getD 0 0, (nWs ws).getD 1 0, (nWs ws).getD 2 0, (nWs ws).getD 3 0, (nWs ws).getD 4 0]
def AskWs (ws : List ByteArray) : Prop := opW (ws.getD 0 noT) ≠ 0 ∧ (∀ x ∈ ws.drop 1, dcB x = true) ∧ (ws.length : Int) = manyW (ws.getD 0 noT) + 1 ∧ AskOk (opW (ws.getD 0 noT)) (nFive ws)
open Classical in
/-- What a line's words ask. -/
noncomputable def askWT (ws : List ByteArray) : Option ByteArray :=
  if ws.length = 2 ∧ ws.getD 0 noT = kRaw then (if HexOk (ws.getD 1 noT) then some (unhT (ws.getD 1 noT)) else none)
  else if AskWs ws then some (askText (opW (ws.getD 0 noT)) (nFive ws)) else none
noncomputable def askWR (ws : List ByteArray) : Value := .tuple ⟨[.string ((askWT ws).getD noT), .bool (askWT ws).isSome]⟩
theorem askWR_raw {ws : List ByteArray} (h : ws.length = 2 ∧ ws.getD 0 noT = kRaw) : askWR ws = unhV (ws.getD 1 noT) := by
  unfold askWR askWT
  rw [if_pos h]
  by_cases q : HexOk (ws.getD 1 noT)
  · rw [if_pos q, unhV_yes q]; unfold unhT; rw [if_pos q]; rfl
  · rw [if_neg q, unhV_no q]; rfl
theorem askWR_no {ws : List ByteArray} (h : ¬ (ws.length = 2 ∧ ws.getD 0 noT = kRaw)) (k : ¬ AskWs ws) : askWR ws = .tuple ⟨[.string noT, .bool false]⟩ := by
  unfold askWR askWT
  rw [if_neg h, if_neg k]
  rfl
open Classical in
theorem askWR_is {ws : List ByteArray} (h : ¬ (ws.length = 2 ∧ ws.getD 0 noT = kRaw)) (k : opW (ws.getD 0 noT) ≠ 0 ∧ (∀ x ∈ ws.drop 1, dcB x = true) ∧ (ws.length : Int) = manyW (ws.getD 0 noT) + 1) :
    askWR ws = .tuple ⟨[.string (if AskOk (opW (ws.getD 0 noT)) (nFive ws) then askText (opW (ws.getD 0 noT)) (nFive ws) else noT), .bool (decide (AskOk (opW (ws.getD 0 noT)) (nFive ws)))]⟩ := by
  unfold askWR askWT
  rw [if_neg h]
  by_cases q : AskOk (opW (ws.getD 0 noT)) (nFive ws)
  · have : AskWs ws := ⟨k.1, k.2.1, k.2.2, q⟩
    simp only [this, q, if_true, decide_true]
    rfl
  · have : ¬ AskWs ws := fun z => q z.2.2.2
    simp only [this, q, if_false, decide_false]
    rfl
theorem manyW_is (w : ByteArray) : manyW w = 0 ∨ manyW w = 1 ∨ manyW w = 5 := by
  unfold manyW
  repeat' split
  all_goals simp
section
variable {X : CallF} {h : Heap} {v : Value} {ws : List ByteArray}
theorem tx_n {i : Nat} {n : Int} (hn : n = (i : Int)) (r : Rows h 1 v (texts ws)) (hi : i < ws.length) : iaV h 1 v (.int .i64 n) = some (elemP v 1 i 0) ∧ ldC h (elemP v 1 i 0) 1 = some [.string (ws.getD i noT)] := by rw [hn]; exact tx_el r hi
theorem int_n {il : List Int} {i : Nat} {n : Int} (hn : n = (i : Int)) (r : Rows h 1 v (ints il)) (hi : i < il.length) : iaV h 1 v (.int .i64 n) = some (elemP v 1 i 0) ∧ ldC h (elemP v 1 i 0) 1 = some [.int .i64 (il.getD i 0)] := by rw [hn]; exact int_el r hi
theorem k_impl_textOf [LibS X] (r : Rows h 1 v (texts ws)) (hl : ws.length ≤ 1048576) (hz : ∀ x ∈ ws, x.size ≤ 1048576) : C T X n_impl_textOf [v] h = some (askWR ws, h) := by
  refine C_go t_impl_textOf rfl ?_
  unfold F_impl_textOf
  have ln : lnV h v = some (.int .i64 (ws.length : Nat)) := r.lnm
  by_cases e0 : ws.length = 0
  · have q1 : ¬ (((ws.length : Nat) : Int) = 2) := by omega
    have q2 : (((ws.length : Nat) : Int) = 0) := by omega
    rw [askWR_no (fun k => by omega) (fun k => by have := k.2.2.1; have := manyW_is (ws.getD 0 noT); omega)]
    simp only [ln, q1, q2, go_sem]
  have el0 := tx_n (n := 0) (i := 0) rfl r (by omega)
  obtain ⟨w0, hw0⟩ : ∃ w, w = ws.getD 0 noT := ⟨_, rfl⟩
  rw [← hw0] at el0
  by_cases e2 : ws.length = 2 ∧ w0 = kRaw
  · have el1 := tx_n (n := 1) (i := 1) rfl r (by omega)
    have cu := k_impl_Unhex (X := X) (h := h) (s := ws.getD 1 noT) (hz _ (getD_mem (by omega)))
    have q1 : (((ws.length : Nat) : Int) = 2) := by omega
    rw [askWR_raw ⟨e2.1, by rw [← hw0]; exact e2.2⟩]
    unfold unhV at cu ⊢
    simp only [ln, q1, e2.2, el0.1, el0.2, el1.1, el1.2, str_eq, cu, List.prefix_refl, decide_true, go_sem]
  have e2' : ¬ (ws.length = 2 ∧ ws.getD 0 noT = kRaw) := by rw [← hw0]; exact e2
  have q2 : ¬ (((ws.length : Nat) : Int) = 0) := by omega
  have co := k_impl_opOf (X := X) (h := h) (w := w0)
  obtain ⟨v1, g1, r1⟩ := r.sub (i := 1) (k := ws.length) (by omega) (by rw [List.length_map]; exact Nat.le_refl _) (by omega) (lo := some (.int .i64 1)) (hi := none) rfl (by rw [List.length_map]; rfl)
  have r1' : Rows h 1 v1 (texts (ws.drop 1)) := by
    have : ((texts ws).drop 1).take (ws.length - 1) = texts (ws.drop 1) := by
      rw [List.take_of_length_le (by rw [List.length_drop, List.length_map]; exact Nat.le_refl _), texts, texts, List.map_drop]
    rw [this] at r1
    exact r1
  obtain ⟨w, h1, cn, v2, b, rfl, p1, hb, ho⟩ := k_impl_numbers (X := X) r1' (by rw [List.length_drop]; omega) (fun x hx => hz x (List.mem_of_mem_drop hx))
  obtain ⟨op, hop⟩ : ∃ n, n = opW w0 := ⟨_, rfl⟩
  obtain ⟨m, hm⟩ : ∃ n, n = manyW w0 := ⟨_, rfl⟩
  rw [← hop, ← hm] at co
  have hm3 := manyW_is w0
  rw [← hm] at hm3
  have head : ¬ (((ws.length : Nat) : Int) = 2 ∧ w0 = kRaw) := fun k => e2 ⟨by omega, k.2⟩
  have ws1 : opW (ws.getD 0 noT) = op := by rw [hop, hw0]
  have ws2 : manyW (ws.getD 0 noT) = m := by rw [hm, hw0]
  by_cases ho0 : op = 0
  · rw [askWR_no e2' (fun k => k.1 (by rw [ws1, ho0]))]
    by_cases q1 : ((ws.length : Nat) : Int) = 2
    · have q3 : ¬ w0 = kRaw := fun k => head ⟨q1, k⟩
      simp only [ln, q1, q3, el0.1, el0.2, str_eq, co, g1, cn, List.prefix_refl, ho0, go_sem]
      exact finish_flat rfl p1
    · simp only [ln, q1, q2, el0.1, el0.2, str_eq, co, g1, cn, List.prefix_refl, ho0, go_sem]
      exact finish_flat rfl p1
  cases b with
  | false =>
    rw [askWR_no e2' (fun k => by have := hb.2 k.2.1; cases this)]
    by_cases q1 : ((ws.length : Nat) : Int) = 2
    · have q3 : ¬ w0 = kRaw := fun k => head ⟨q1, k⟩
      simp only [ln, q1, q3, el0.1, el0.2, str_eq, co, g1, cn, List.prefix_refl, ho0, go_sem]
      exact finish_flat rfl p1
    · simp only [ln, q1, q2, el0.1, el0.2, str_eq, co, g1, cn, List.prefix_refl, ho0, go_sem]
      exact finish_flat rfl p1
  | true =>
    have hall := hb.1 rfl
    have o : Own h1 h.length h1.length 1 y_int v2 (ints (nWs ws)) := ho rfl
    have hnl : (nWs ws).length = ws.length - 1 := by unfold nWs; rw [List.length_map, List.length_drop]
    have lno : lnV h1 v2 = some (.int .i64 ((ws.length - 1 : Nat) : Int)) := by rw [o.ln, ints_len, hnl]
    by_cases hlm : ((ws.length - 1 : Nat) : Int) = m
    rotate_left
    · rw [askWR_no e2' (fun k => by have := k.2.2.1; rw [ws2] at this; omega)]
      by_cases q1 : ((ws.length : Nat) : Int) = 2
      · have q3 : ¬ w0 = kRaw := fun k => head ⟨q1, k⟩
        simp only [ln, q1, q3, el0.1, el0.2, str_eq, co, g1, cn, List.prefix_refl, ho0, lno, hlm, go_sem]
        exact finish_flat rfl p1
      · simp only [ln, q1, q2, el0.1, el0.2, str_eq, co, g1, cn, List.prefix_refl, ho0, lno, hlm, go_sem]
        exact finish_flat rfl p1
    rw [askWR_is e2' ⟨by rw [ws1]; exact ho0, hall, by rw [ws2]; omega⟩, ws1]
    rcases hm3 with hm3 | hm3 | hm3
    · have hz0 : ∀ j, (nWs ws).getD j 0 = 0 := fun j => by rw [List.getD_eq_getElem?_getD, List.getElem?_eq_none (by omega)]; rfl
      have ca := k_impl_AskText (X := X) (h := h1) (op := op) (a := 0) (b := 0) (w1 := 0) (w2 := 0) (w3 := 0)
      have hf : nFive ws = [0, 0, 0, 0, 0] := by unfold nFive; simp only [hz0]
      rw [hf]
      unfold askV at ca
      have hl0 : ((ws.length - 1 : Nat) : Int) = 0 := by omega
      by_cases q1 : ((ws.length : Nat) : Int) = 2
      · have q3 : ¬ w0 = kRaw := fun k => head ⟨q1, k⟩
        simp only [ln, q1, q3, el0.1, el0.2, str_eq, co, g1, cn, List.prefix_refl, ho0, lno, hl0, hm3, ca, go_sem]
        exact finish_flat rfl p1
      · simp only [ln, q1, q2, el0.1, el0.2, str_eq, co, g1, cn, List.prefix_refl, ho0, lno, hl0, hm3, ca, go_sem]
        exact finish_flat rfl p1
    · obtain ⟨x0, hx0⟩ : ∃ x, x = (nWs ws).getD 0 0 := ⟨_, rfl⟩
      have hz0 : ∀ j, 0 < j → (nWs ws).getD j 0 = 0 := fun j hj => by rw [List.getD_eq_getElem?_getD, List.getElem?_eq_none (by omega)]; rfl
      have i0 := int_n (n := 0) (i := 0) rfl o.rows (by omega)
      rw [← hx0] at i0
      have ca := k_impl_AskText (X := X) (h := h1) (op := op) (a := x0) (b := 0) (w1 := 0) (w2 := 0) (w3 := 0)
      have hf : nFive ws = [x0, 0, 0, 0, 0] := by unfold nFive; rw [hz0 1 (by omega), hz0 2 (by omega), hz0 3 (by omega), hz0 4 (by omega), hx0]
      rw [hf]
      unfold askV at ca
      have hl1 : ((ws.length - 1 : Nat) : Int) = 1 := by omega
      by_cases q1 : ((ws.length : Nat) : Int) = 2
      · have q3 : ¬ w0 = kRaw := fun k => head ⟨q1, k⟩
        simp only [ln, q1, q3, el0.1, el0.2, str_eq, co, g1, cn, List.prefix_refl, ho0, lno, hl1, hm3, i0.1, i0.2, ca, go_sem]
        exact finish_flat rfl p1
      · simp only [ln, q1, q2, el0.1, el0.2, str_eq, co, g1, cn, List.prefix_refl, ho0, lno, hl1, hm3, i0.1, i0.2, ca, go_sem]
        exact finish_flat rfl p1
    · obtain ⟨x0, hx0⟩ : ∃ x, x = (nWs ws).getD 0 0 := ⟨_, rfl⟩
      obtain ⟨x1, hx1⟩ : ∃ x, x = (nWs ws).getD 1 0 := ⟨_, rfl⟩
      obtain ⟨x2, hx2⟩ : ∃ x, x = (nWs ws).getD 2 0 := ⟨_, rfl⟩
      obtain ⟨x3, hx3⟩ : ∃ x, x = (nWs ws).getD 3 0 := ⟨_, rfl⟩
      obtain ⟨x4, hx4⟩ : ∃ x, x = (nWs ws).getD 4 0 := ⟨_, rfl⟩
      have i0 := int_n (n := 0) (i := 0) rfl o.rows (by omega)
      have i1 := int_n (n := 1) (i := 1) rfl o.rows (by omega)
      have i2 := int_n (n := 2) (i := 2) rfl o.rows (by omega)
      have i3 := int_n (n := 3) (i := 3) rfl o.rows (by omega)
      have i4 := int_n (n := 4) (i := 4) rfl o.rows (by omega)
      rw [← hx0] at i0
      rw [← hx1] at i1
      rw [← hx2] at i2
      rw [← hx3] at i3
      rw [← hx4] at i4
      have ca := k_impl_AskText (X := X) (h := h1) (op := op) (a := x0) (b := x1) (w1 := x2) (w2 := x3) (w3 := x4)
      have hf : nFive ws = [x0, x1, x2, x3, x4] := by unfold nFive; rw [hx0, hx1, hx2, hx3, hx4]
      rw [hf]
      unfold askV at ca
      have hl5 : ((ws.length - 1 : Nat) : Int) = 5 := by omega
      have q1 : ¬ (((ws.length : Nat) : Int) = 2) := by omega
      simp only [ln, q1, q2, el0.1, el0.2, str_eq, co, g1, cn, List.prefix_refl, ho0, lno, hl5, hm3, i0.1, i0.2, i1.1, i1.2, i2.1, i2.2, i3.1, i3.2, i4.1, i4.2, ca, go_sem]
      exact finish_flat rfl p1
end
end Go.Proofs.YthfeahanmbmjhaaGreatDoor.Ab
