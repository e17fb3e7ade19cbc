/- A reader in memory, and lists that grow above it. No conditions. -/
import Derived.Test.YtioogligololoaaR9
import Derived.Test.YtioogligololoaaP6
set_option linter.unusedSimpArgs false
set_option linter.unusedVariables false
set_option linter.unnecessarySimpa false
set_option maxHeartbeats 4000000
namespace Go.Proofs.Ytioogligololoaa.Ab
open Go.RowKit
/-- A loop that is left in one state, wherever it is left. -/
def ExJ (id : Nat) (J : (Nat → Value) → (Nat → Option (List Value)) → Heap → Prop) (e : Exit) (s : St) : Prop := e = .exit id ∧ s.al = (fun _ => none) ∧ J s.t s.loc s.h
section
variable {T : FuncId → Option Fun} {X : CallF} {t : Nat → Value} {loc : Nat → Option (List Value)} {h : Heap} {Q : Exit → St → Prop}
theorem w_measX {x : IR} (id : Nat) (N : Nat) (I : Nat → (Nat → Value) → (Nat → Option (List Value)) → Heap → Prop) (J : (Nat → Value) → (Nat → Option (List Value)) → Heap → Prop) (h1 : I N t loc h)
    (step : ∀ (n : Nat) (t : Nat → Value) (loc : Nat → Option (List Value)) (h : Heap), I n t loc h → W T X x ⟨t, loc, fun _ => none, h⟩ (Mx n I (ExJ id J)))
    (rest : ∀ (t : Nat → Value) (loc : Nat → Option (List Value)) (h : Heap), J t loc h → Q (.exit id) ⟨t, loc, fun _ => none, h⟩) : W T X (.loop x) ⟨t, loc, fun _ => none, h⟩ Q := by
  refine (w_meas N I h1 step).mono T X ?_
  rintro e ⟨t, loc, al, h⟩ ⟨rfl, rfl, hj⟩
  exact rest t loc h hj
theorem exj_exit {id : Nat} {J : (Nat → Value) → (Nat → Option (List Value)) → Heap → Prop} : ExJ id J (.exit id) ⟨t, loc, fun _ => none, h⟩ ↔ J t loc h := ⟨fun h => h.2.2, fun h => ⟨rfl, rfl, h⟩⟩
end
attribute [go_sem ↓] exj_exit
/-- Since a memory only the reader was moved, and what stands above it. -/
structure Rdr (b : Nat) (ty : TypeId) (s : ByteArray) (h0 h' : Heap) (p : Nat × Bool) : Prop where
  len : h0.length ≤ h'.length
  old : ∀ c, c < h0.length → c ≠ b → h'[c]? = h0[c]?
  at_ : h'[b]? = some (rdB ty s p)
  le : p.1 ≤ s.size
section
variable {b lo hi sz : Nat} {ty ty' : TypeId} {s : ByteArray} {h0 h1 h2 h' : Heap} {p q : Nat × Bool} {v : Value} {rws : List (List Value)} {gs : List Gp}
theorem Rdr.refl (hb : h0[b]? = some (rdB ty s p)) (hp : p.1 ≤ s.size) : Rdr b ty s h0 h0 p := ⟨Nat.le_refl _, fun _ _ _ => rfl, hb, hp⟩
theorem Rdr.trans (a : Rdr b ty s h0 h1 p) (c : Rdr b ty s h1 h2 q) : Rdr b ty s h0 h2 q :=
  ⟨Nat.le_trans a.len c.len, fun i hi hb => by rw [c.old i (by have := a.len; omega) hb, a.old i hi hb], c.at_, c.le⟩
theorem Rdr.num (a : Rdr b ty s h0 h' p) : Rdr b ty s h0 (h'.set b (rdB ty s (numStep s p).2)) (numStep s p).2 :=
  ⟨by rw [set_len]; exact a.len, fun i hi hb => by rw [List.getElem?_set_ne (Ne.symm hb)]; exact a.old i hi hb, rd_set a.at_, numStep_le a.le⟩
theorem Rdr.push (a : Rdr b ty s h0 h' p) (hb : b < h0.length) (hl : h'.length ≤ h1.length) (hk : ∀ c, c < h0.length → h1[c]? = h'[c]?) : Rdr b ty s h0 h1 p :=
  ⟨Nat.le_trans a.len hl, fun i hi hne => by rw [hk i hi]; exact a.old i hi hne, by rw [hk b hb]; exact a.at_, a.le⟩
theorem num_same {x : Blk} : Same b (b + 1) h' (h'.set b x) := ⟨set_len, fun c hc => List.getElem?_set_ne (by omega)⟩
theorem Own.num (o : Own h' lo hi sz ty' v rws) (hb : b < lo) {x : Blk} : Own (h'.set b x) lo hi sz ty' v rws := o.same num_same (.inr (by omega))
theorem OwnG.num (o : OwnG h' lo hi ty' v gs) (hb : b < lo) {x : Blk} : OwnG (h'.set b x) lo hi ty' v gs := o.same num_same (.inr (by omega))
theorem Own.rdr (o : Own h0 lo hi sz ty' v rws) (a : Rdr b ty s h0 h' p) (hb : b < lo) (hh : hi ≤ h0.length) : Own h' lo hi sz ty' v rws := by
  refine ⟨o.len, ?_⟩
  rcases o.is with hn | ⟨c, l1, l2, rfl, hc⟩
  · exact .inl hn
  · exact .inr ⟨c, l1, l2, rfl, by rw [a.old c (by omega) (by omega)]; exact hc⟩
theorem OwnG.rdr (o : OwnG h0 lo hi ty' v gs) (a : Rdr b ty s h0 h' p) (hb : b < lo) (hh : hi ≤ h0.length) : OwnG h' lo hi ty' v gs := by
  obtain ⟨vs, h1, h2, h3, h4⟩ := o
  exact ⟨vs, h1.rdr a hb hh, fun i hi' => (h2 i hi').rdr a hb hh, h3, h4⟩
theorem Rdr.num1 (a : Rdr b ty s h0 h' p) (i : Nat) : (h'.set b (rdB ty s (sS s p i))).set b (rdB ty s (sS s p (i + 1))) = h'.set b (rdB ty s (sS s p (i + 1))) := List.set_set ..
theorem Rdr.nums (a : Rdr b ty s h0 h' p) : ∀ i, Rdr b ty s h0 (h'.set b (rdB ty s (sS s p i))) (sS s p i)
  | 0 => ⟨by rw [set_len]; exact a.len, fun i hi hb => by rw [List.getElem?_set_ne (Ne.symm hb)]; exact a.old i hi hb, rd_set a.at_, a.le⟩
  | i + 1 => by
    have := (a.nums i).num
    rw [show (numStep s (sS s p i)).2 = sS s p (i + 1) from rfl, a.num1] at this
    exact this
end
section
variable {X : CallF} {b : Nat} {s : ByteArray} {h0 h' : Heap} {p : Nat × Bool}
theorem num_i (a : Rdr b y_reader s h0 h' p) (hs : s.size ≤ lim) : C T X n_impl_reader_num [pk b 0] h' = some (.int .i64 (sV s p 0), h'.set b (rdB y_reader s (sS s p 1))) := k_impl_num a.at_ hs a.le
theorem num_in (a : Rdr b y_reader s h0 h' p) (hs : s.size ≤ lim) (i : Nat) : C T X n_impl_reader_num [pk b 0] (h'.set b (rdB y_reader s (sS s p i))) = some (.int .i64 (sV s p i), h'.set b (rdB y_reader s (sS s p (i + 1)))) := by
  have := k_impl_num (X := X) (a.nums i).at_ hs (a.nums i).le
  rw [show (numStep s (sS s p i)).2 = sS s p (i + 1) from rfl, a.num1] at this
  exact this
theorem num_s (a : Rdr b y_l12Cur s h0 h' p) (hs : s.size ≤ lim) : C T X n_spec_l12Var [pk b 0] h' = some (.int .i64 (sV s p 0), h'.set b (rdB y_l12Cur s (sS s p 1))) := k_spec_l12Var a.at_ hs a.le
theorem num_sn (a : Rdr b y_l12Cur s h0 h' p) (hs : s.size ≤ lim) (i : Nat) : C T X n_spec_l12Var [pk b 0] (h'.set b (rdB y_l12Cur s (sS s p i))) = some (.int .i64 (sV s p i), h'.set b (rdB y_l12Cur s (sS s p (i + 1)))) := by
  have := k_spec_l12Var (X := X) (a.nums i).at_ hs (a.nums i).le
  rw [show (numStep s (sS s p i)).2 = sS s p (i + 1) from rfl, a.num1] at this
  exact this
theorem num_rng {q : Nat × Bool} (hq : q.1 ≤ s.size) : 0 ≤ (numStep s q).1 ∧ (numStep s q).1 ≤ 1000000000 := by
  unfold numStep
  split
  · simp
  · split
    · rename_i n k hr
      have := rvAt_bnd hr
      simp only
      omega
    · simp
end
section
variable {h hh : Heap} {sz : Nat} {ty : TypeId} {v : Value} {gs : List Gp}
theorem OwnG.flatG {lo hi : Nat} (o : OwnG h lo hi ty v gs) (hf : prim v = true) {h2 : Heap} {lo2 hi2 : Nat} : OwnG h2 lo2 hi2 ty v gs := by
  obtain ⟨vs, o1, _⟩ := o
  rcases o1.is with ⟨rfl, e⟩ | ⟨b, _, _, rfl, _⟩
  · have : gs = [] := by simpa using e
    rw [this]
    exact OwnG.nil
  · simp [prim] at hf
theorem Own.flatP {lo hi : Nat} {rws : List (List Value)} (o : Own h lo hi sz ty v rws) (hf : prim v = true) {h2 : Heap} {lo2 hi2 : Nat} : Own h2 lo2 hi2 sz ty v rws := by
  rcases o.is with ⟨rfl, rfl⟩ | ⟨b, _, _, rfl, _⟩
  · exact Own.nil
  · simp [prim] at hf
end
end Go.Proofs.Ytioogligololoaa.Ab
