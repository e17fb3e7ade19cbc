/- Joined: K60, Op3, LFnExactIds. No conditions. -/
import Derived.Test.YtjgacjidaeahdaaGreatDoorM18
import Derived.Test.YtjgacjidaeahdaaGreatDoorM12
import Derived.Test.YtjgacjidaeahdaaGreatDoorM4
import Derived.Test.YtjgacjidaeahdaaGreatDoorM14
set_option linter.unusedSimpArgs false
set_option linter.unusedVariables false
set_option linter.unnecessarySimpa false
set_option maxHeartbeats 4000000
namespace Go.Proofs.YtjgacjidaeahdaaGreatDoor.Ab
open Go.RowKit
def natI (l : List Nat) : List Int := l.map fun n : Nat => (n : Int)
theorem natI_len {l : List Nat} : (natI l).length = l.length := by simp [natI]
def fI (m : List Pr) (T : ByteArray → Bool) (i : Nat) : List Nat := (List.range i).filter (idT m T)
theorem fI_succ {m : List Pr} {T : ByteArray → Bool} {i : Nat} : fI m T (i + 1) = if idT m T i = true then fI m T i ++ [i] else fI m T i := by
  unfold fI
  rw [List.range_succ, List.filter_append]
  by_cases c : idT m T i = true
  · rw [if_pos c]; simp [c]
  · rw [if_neg c]; simp [c]
theorem fI_len {m : List Pr} {T : ByteArray → Bool} {i : Nat} : (fI m T i).length ≤ i := Nat.le_trans (List.length_filter_le _ _) (by simp)
def fM (m : List Pr) (T : ByteArray → Bool) (i : Nat) : List Nat := ((m.take i).filter (isV T)).map keyN
theorem fM_succ {m : List Pr} {T : ByteArray → Bool} {i : Nat} (hi : i < m.length) : fM m T (i + 1) = if isV T (m.getD i p0) = true then fM m T i ++ [keyN (m.getD i p0)] else fM m T i := by
  unfold fM
  rw [take_snocD' (d := p0) hi, List.filter_append, List.map_append]
  generalize m.getD i p0 = q
  by_cases c : isV T q = true
  · rw [if_pos c]; simp [c]
  · rw [if_neg c]; simp [c]
theorem fM_len {m : List Pr} {T : ByteArray → Bool} {i : Nat} : (fM m T i).length ≤ m.length := by
  unfold fM
  rw [List.length_map]
  exact Nat.le_trans (List.length_filter_le _ _) (List.length_take_le' ..)
section
variable {X : CallF} {h : Heap} {m : List Pr} {mv : Value} {R : Nat}
theorem k_HasPrefix {s f : ByteArray} : C T X n_strings_HasPrefix [.string s, .string f] h = some (.bool (vPre f s), h) := by
  have c : C T X n_internal_stringslite_HasPrefix [.string s, .string f] h = some (.bool (vPre f s), h) := by
    refine C_go t_internal_stringslite_HasPrefix rfl ?_
    unfold F_internal_stringslite_HasPrefix
    by_cases k : (s.size : Int) ≥ f.size
    · have f1 := sl_to (s := s) (b := f.size) (by omega)
      by_cases c : s.extract 0 f.size = f
      · have c' : ((s.extract 0 f.size).toList == f.toList) = true := by rw [str_eq]; exact decide_eq_true c
        simp only [k, f1, c', go_sem]
        exact (decide_eq_true ⟨by omega, c⟩).symm
      · have c' : ((s.extract 0 f.size).toList == f.toList) = false := by rw [str_eq]; exact decide_eq_false c
        simp only [k, f1, c', go_sem]
        exact (decide_eq_false fun q => c q.2).symm
    · simp only [k, go_sem]
      exact (decide_eq_false fun q => k (by omega)).symm
  refine C_go t_strings_HasPrefix rfl ?_
  unfold F_strings_HasPrefix
  simp only [c, go_sem]
end
section
variable {X : CallF} [LibX X] {h : Heap} {m : List Pr} {mv : Value} {R : Nat}
theorem k_impl_idsBy {f : ByteArray} (hm : Rows h 2 mv (prsL m)) (hl : m.length ≤ lim) : ∃ v hh, C T X n_impl_idsBy [mv, .string f] h = some (v, hh) ∧ h <+: hh ∧ Own hh h.length hh.length 1 y_int v (ints (natI (idsT m (vPre f)))) := by
  refine C_ex t_impl_idsBy rfl ?_
  unfold F_impl_idsBy
  simp only [zeros, fillAt, go_sem]
  refine w_for 12 (fun i t loc h' => t 0 = mv ∧ t 1 = .string f ∧ t 9 = .int .i64 i ∧ h <+: h' ∧ ∃ v, t 5 = v ∧ Own h' h.length h'.length 1 y_int v (ints (natI (fI m (vPre f) i)))) ⟨rfl, rfl, rfl, List.prefix_refl _, _, rfl, Own.nil⟩ ?_
  rintro i t loc h' hi ⟨t0, t1, t9, hp, v, t5, o⟩
  simp only [t9, go_sem]
  refine w_open (by simp only [go_sem]; rfl) ?_ ?_ <;> intro hc
  · have hi1 : i < 12 := by omega
    have hw : IntKind.i64.wrap ((i : Int) + 1) = ((i + 1 : Nat) : Int) := w64 (by omega) (by omega)
    have h2 := k_impl_two (X := X) (h := h') (n := i) (by omega)
    have hz := twoT_size (n := i) (by omega)
    have hz1 : (⟨[118]⟩ : Array UInt8).size + (twoT i).size ≤ 9223372036854775807 := by rw [asz]; omega
    have hg := k_impl_get (X := X) (k := vK i) (hm.up hp) hl
    unfold getV at hg
    have hsu := fI_succ (m := m) (T := vPre f) (i := i)
    have hle := fI_len (m := m) (T := vPre f) (i := i)
    unfold idT at hsu
    obtain ⟨w, hw0⟩ : ∃ w, w = (getK m (vK i)).getD noT := ⟨_, rfl⟩
    rw [← hw0] at hg hsu
    have hx := k_HasPrefix (X := X) (h := h') (s := w) (f := f)
    obtain ⟨v2, h3, c3, q1, q2, o2⟩ := o.push1 (pre_len hp) [.int .i64 (i : Int)] rfl (by rw [ints_len, natI_len]; unfold lim; omega)
    rw [Nat.max_eq_right q1] at o2
    have hp3 := pre_push hp (Nat.le_refl _) q1 q2
    cases e1 : (getK m (vK i)).isSome with
    | false =>
      rw [e1] at hg hsu
      simp only [t0, t1, t5, t9, h2, hz1, vK_app, hg, hw, go_sem]
      exact ⟨hi1, hp, v, rfl, by rw [hsu]; exact o⟩
    | true =>
      rw [e1] at hg hsu
      cases e2 : vPre f w with
      | false =>
        rw [e2] at hx hsu
        simp only [t0, t1, t5, t9, h2, hz1, vK_app, hg, hx, hw, go_sem]
        exact ⟨hi1, hp, v, rfl, by rw [hsu]; exact o⟩
      | true =>
        rw [e2] at hx hsu
        simp only [t0, t1, t5, t9, h2, hz1, vK_app, hg, hx, hw, zeros, fillAt, c3, go_sem]
        exact ⟨hi1, hp3, v2, rfl, by rw [hsu]; simpa [ints, natI] using o2⟩
  · have hin : i = 12 := by omega
    subst hin
    simp only [t5, go_sem]
    exact ⟨o.live, o.fin hp⟩
end
section
variable {X : CallF} {h : Heap} {m : List Pr} {mv : Value} {R : Nat}
theorem k_spec_l13Ids {f : ByteArray} (hm : Rows h 2 mv (prsL m)) (hl : m.length ≤ 10000) (hk : ∀ p ∈ m, 1 ≤ p.k.size) : ∃ v hh, C T X n_spec_l13Ids [mv, .string f] h = some (v, hh) ∧ h <+: hh ∧ Own hh h.length hh.length 1 y_int v (ints (natI (idsM m fun v => decide (f = noT) || decide (v = f)))) := by
  refine C_ex t_spec_l13Ids rfl ?_
  unfold F_spec_l13Ids
  obtain ⟨S, hS⟩ : ∃ S : ByteArray → Bool, S = fun v => decide (f = noT) || decide (v = f) := ⟨_, rfl⟩
  rw [← hS]
  simp only [zeros, fillAt, go_sem]
  refine w_for m.length (fun i t loc h' => t 0 = mv ∧ t 1 = .string f ∧ t 6 = .int .i64 i ∧ h <+: h' ∧ ∃ v, t 5 = v ∧ Own h' h.length h'.length 1 y_int v (ints (natI (fM m S i)))) ⟨rfl, rfl, rfl, List.prefix_append _ _, _, rfl, Acc.new.own⟩ ?_
  rintro i t loc h' hi ⟨t0, t1, t6, hp, v, t5, o⟩
  have hm' := hm.up hp
  simp only [t0, t6, hm'.lnm, go_sem]
  refine w_open (by simp only [go_sem]; rfl) ?_ ?_ <;> intro hc
  · have hi1 : i < m.length := by omega
    have hw : IntKind.i64.wrap ((i : Int) + 1) = ((i + 1 : Nat) : Int) := w64 (by omega) (by omega)
    have el := hm'.el (f := prR) p0 hi1
    have cl0 := hm'.cell (f := prR) p0 hi1 (o := 0) (by omega)
    have cl1 := hm'.cell (f := prR) p0 hi1 (o := 1) (by omega)
    have hk1 := hk _ (getD_mem (d := p0) hi1)
    have hsu := fM_succ (T := S) hi1
    have hle := fM_len (m := m) (T := S) (i := i)
    unfold isV at hsu
    obtain ⟨q, hq⟩ : ∃ q, q = m.getD i p0 := ⟨_, rfl⟩
    rw [← hq] at el cl0 cl1 hk1 hsu
    have k0 : ldC h' (elemP mv 2 i 0) 1 = some [.string q.k] := cl0
    have k1 : ldC h' (elemP mv 2 i 1) 1 = some [.string q.v] := cl1
    have e0 : ixV (.string q.k) (.int .i64 0) = some (.int .u8 (byt q.k 0 : Nat)) := ix_byt (i := 0) (by omega)
    have f1 : slSV (.string q.k) (some (.int .i64 1)) none = some (.string (q.k.extract 1 q.k.size)) := sl_from (a := 1) hk1
    have h2 := k_spec_l13Num (X := X) (h := h') (s := q.k.extract 1 q.k.size)
    have hn : twoV (q.k.extract 1 q.k.size) = .tuple ⟨[.int .i64 ((keyN q : Nat) : Int), .bool (rdTwo (q.k.extract 1 q.k.size)).isSome]⟩ := rfl
    rw [hn] at h2
    obtain ⟨v2, h3, c3, q1, q2, o2⟩ := o.push1 (pre_len hp) [.int .i64 ((keyN q : Nat) : Int)] rfl (by rw [ints_len, natI_len]; unfold lim; omega)
    rw [Nat.max_eq_right q1] at o2
    have hp3 := pre_push hp (Nat.le_refl _) q1 q2
    have o2' : Own h3 h.length h3.length 1 y_int v2 (ints (natI (fM m S i ++ [keyN q]))) := by simpa [ints, natI] using o2
    by_cases c1 : ((byt q.k 0 : Nat) : Int) = 118
    · have d1 : decide (byt q.k 0 = 118) = true := decide_eq_true (by omega)
      rw [d1, Bool.true_and] at hsu
      by_cases c2 : f = noT
      · have c2' : (f.toList == ByteArray.toList ⟨⟨[]⟩⟩) = true := by rw [str_eq]; exact decide_eq_true c2
        have d2 : S q.v = true := by rw [hS]; simp [c2]
        rw [d2, if_pos rfl] at hsu
        simp only [t0, t1, t5, t6, el.1, el.2.1, k0, k1, e0, c1, c2', f1, h2, hw, zeros, fillAt, c3, go_sem]
        exact ⟨hi1, hp3, v2, rfl, by rw [hsu]; exact o2'⟩
      · have c2' : (f.toList == ByteArray.toList ⟨⟨[]⟩⟩) = false := by rw [str_eq]; exact decide_eq_false c2
        by_cases c4 : q.v = f
        · have c4' : (q.v.toList == f.toList) = true := by rw [str_eq]; exact decide_eq_true c4
          have d2 : S q.v = true := by rw [hS]; simp [c4]
          rw [d2, if_pos rfl] at hsu
          simp only [t0, t1, t5, t6, el.1, el.2.1, k0, k1, e0, c1, c2', c4', f1, h2, hw, zeros, fillAt, c3, go_sem]
          exact ⟨hi1, hp3, v2, rfl, by rw [hsu]; exact o2'⟩
        · have c4' : (q.v.toList == f.toList) = false := by rw [str_eq]; exact decide_eq_false c4
          have d2 : S q.v = false := by rw [hS]; simp [c2, c4]
          rw [d2] at hsu
          simp only [t0, t1, t5, t6, el.1, el.2.1, k0, k1, e0, c1, c2', c4', f1, h2, hw, zeros, fillAt, c3, go_sem]
          exact ⟨hi1, hp, v, rfl, by rw [hsu]; exact o⟩
    · have d1 : decide (byt q.k 0 = 118) = false := decide_eq_false (by omega)
      rw [d1] at hsu
      simp only [t0, t1, t5, t6, el.1, el.2.1, k0, k1, e0, c1, f1, h2, hw, zeros, fillAt, c3, go_sem]
      exact ⟨hi1, hp, v, rfl, by rw [hsu]; exact o⟩
  · have hin : i = m.length := by omega
    subst hin
    simp only [t5, go_sem]
    have e : fM m S m.length = idsM m S := by unfold fM idsM; rw [List.take_length]
    rw [e] at o
    refine ⟨o.live, ?_⟩
    obtain ⟨f1, f2⟩ := o.fin hp
    exact ⟨f1, f2⟩
open Classical in
/-- The ids of a right state that pass a test. -/
noncomputable def idsR (m : List Pr) (T : ByteArray → Bool) : List Int := if StI cfR m then natI (idsT m T) else []
end
section
variable {X : CallF} [LibX X] {h : Heap} {m : List Pr} {mv : Value} {R : Nat}
theorem idsR_len {m : List Pr} {T : ByteArray → Bool} : (idsR m T).length ≤ 12 := by
  unfold idsR
  split
  · rw [natI_len]; exact idsT_le
  · exact Nat.zero_le _
def tAll : ByteArray → Bool := fun _ => true
theorem map_k {m : List Pr} (h : MapIs m) : ∀ p ∈ m, 1 ≤ p.k.size := fun p hp => by
  obtain ⟨i, hi, rfl⟩ := mem_getD (d := p0) hp
  exact (h.2 i hi).1.1.1
theorem ids_all {m : List Pr} : (fun v : ByteArray => decide (noT = noT) || decide (v = noT)) = tAll := by
  funext v; simp [tAll]
theorem k_impl_Ids (hm : Rows h 2 mv (prsL m)) (hl : m.length ≤ lim) : ∃ v hh, C T X n_impl_Ids [mv] h = some (v, hh) ∧ h <+: hh ∧ Own hh h.length hh.length 1 y_int v (ints (idsR m tAll)) := by
  refine C_ex t_impl_Ids rfl ?_
  unfold F_impl_Ids
  have c := k_impl_StateOk (X := X) hm hl
  unfold idsR
  by_cases st : StI cfR m
  · rw [if_pos st]
    rw [tB_t st] at c
    obtain ⟨v, hh, c2, p, o⟩ := k_impl_idsBy (X := X) (f := noT) hm hl
    rw [idsT_all] at o
    have c2' : C T X n_impl_idsBy [mv, .string ⟨⟨[]⟩⟩] h = some (v, hh) := c2
    simp only [c, c2', p, go_sem]
    exact ⟨o.live, o.fin p⟩
  · rw [if_neg st]
    rw [tB_f st] at c
    simp only [c, zeros, fillAt, go_sem]
    exact ⟨List.prefix_refl _, Own.nil⟩
end
section
variable {X : CallF} {h : Heap} {m : List Pr} {mv : Value} {R : Nat}
theorem k_spec_Ids (hm : Rows h 2 mv (prsL m)) (hl : m.length ≤ lim) : ∃ v hh, C T X n_spec_Ids [mv] h = some (v, hh) ∧ h <+: hh ∧ Own hh h.length hh.length 1 y_int v (ints (idsR m tAll)) := by
  refine C_ex t_spec_Ids rfl ?_
  unfold F_spec_Ids
  have c := k_spec_StateOk (X := X) hm hl
  unfold idsR
  by_cases st : StI cfR m
  · rw [if_pos st]
    rw [tB_t st] at c
    obtain ⟨v, hh, c2, p, o⟩ := k_spec_l13Ids (X := X) (f := noT) hm (by have := st.1.1; omega) (map_k st.1)
    obtain ⟨R, hR⟩ := rnd_ex m
    rw [ids_all (m := m), idsM_st st hR] at o
    have c2' : C T X n_spec_l13Ids [mv, .string ⟨⟨[]⟩⟩] h = some (v, hh) := c2
    simp only [c, c2', p, go_sem]
    exact ⟨o.live, o.fin p⟩
  · rw [if_neg st]
    rw [tB_f st] at c
    simp only [c, zeros, fillAt, go_sem]
    exact Acc.new.own.fin (List.prefix_append _ _)
end
end Go.Proofs.YtjgacjidaeahdaaGreatDoor.Ab
set_option linter.unusedSimpArgs false
set_option linter.unusedVariables false
set_option linter.unnecessarySimpa false
set_option maxHeartbeats 4000000
namespace Go.Proofs.YtjgacjidaeahdaaGreatDoor.Ab
open Go.RowKit
section
variable {h : Heap} {v : Value}
/-- A list of edges. -/
theorem Shape.edges_inv (s : Shape h (.sl [.int .i64, .int .i64, .int .i64, .int .i64, .int .i64]) v) : ∃ l : List E, Rows h 5 v (edges l) ∧ l.length ≤ maxLen ∧ ∀ e ∈ l, I64 e.a ∧ I64 e.b ∧ I64 e.w1 ∧ I64 e.w2 ∧ I64 e.w3 := by
  obtain ⟨rows, hr, hm, hk⟩ := s.sl_inv
  obtain ⟨l, rfl, hl⟩ := rows_map (f := edgeR) (Q := fun e => I64 e.a ∧ I64 e.b ∧ I64 e.w1 ∧ I64 e.w2 ∧ I64 e.w3) (rows := rows) (fun r hrm => by
    obtain ⟨x, r', rfl, hx, h2⟩ := (hk r hrm).cons_inv
    obtain ⟨y, r', rfl, hy, h2⟩ := h2.cons_inv
    obtain ⟨z, r', rfl, hz, h2⟩ := h2.cons_inv
    obtain ⟨u, r', rfl, hu, h2⟩ := h2.cons_inv
    obtain ⟨w, r', rfl, hw, h2⟩ := h2.cons_inv
    obtain rfl := h2.nil_inv
    obtain ⟨a, rfl, ha⟩ := hx.int_inv
    obtain ⟨b, rfl, hb⟩ := hy.int_inv
    obtain ⟨c, rfl, hc⟩ := hz.int_inv
    obtain ⟨d, rfl, hd⟩ := hu.int_inv
    obtain ⟨e, rfl, he⟩ := hw.int_inv
    exact ⟨⟨a, b, c, d, e⟩, rfl, ha, hb, hc, hd, he⟩)
  exact ⟨l, hr, by simpa using hm, hl⟩
theorem Shape.pairs_inv (s : Shape h (.sl [.str, .str]) v) : ∃ l : List Pr, Rows h 2 v (prsL l) ∧ l.length ≤ maxLen ∧ ∀ e ∈ l, e.k.size ≤ maxLen ∧ e.v.size ≤ maxLen := by
  obtain ⟨rows, hr, hm, hk⟩ := s.sl_inv
  obtain ⟨l, rfl, hl⟩ := rows_map (f := prR) (Q := fun e => e.k.size ≤ maxLen ∧ e.v.size ≤ maxLen) (rows := rows) (fun r hrm => by
    obtain ⟨x, r', rfl, hx, h2⟩ := (hk r hrm).cons_inv
    obtain ⟨y, r', rfl, hy, h2⟩ := h2.cons_inv
    obtain rfl := h2.nil_inv
    obtain ⟨a, rfl, ha⟩ := hx.str_inv
    obtain ⟨b, rfl, hb⟩ := hy.str_inv
    exact ⟨⟨a, b⟩, rfl, ha, hb⟩)
  exact ⟨l, hr, by simpa using hm, hl⟩
theorem ArgOk.graph (a : ArgOk h (true, [.int .i64, .sl [.int .i64, .int .i64, .int .i64, .int .i64, .int .i64]]) v) : ∃ size ev es, v = graphV size ev ∧ I64 size ∧ Rows h 5 ev (edges es) ∧ es.length ≤ maxLen := by
  obtain ⟨acs, k, rfl⟩ := a.row
  obtain ⟨v0, r, rfl, k0, k⟩ := k.cons_inv
  obtain ⟨v1, r, rfl, k1, k⟩ := k.cons_inv
  obtain rfl := k.nil_inv
  obtain ⟨n, rfl, hn⟩ := k0.int_inv
  obtain ⟨es, he, hm, _⟩ := k1.edges_inv
  exact ⟨n, v1, es, rfl, hn, he, hm⟩
def AqOk (x : Aq) : Prop := I64 x.op ∧ I64 x.a ∧ I64 x.b ∧ I64 x.w1 ∧ I64 x.w2 ∧ I64 x.w3
theorem ArgOk.ask (a : ArgOk h (true, [.int .i64, .int .i64, .int .i64, .int .i64, .int .i64, .int .i64]) v) : ∃ x : Aq, v = .agg ⟨aqR x⟩ ∧ AqOk x := by
  obtain ⟨acs, k, rfl⟩ := a.row
  obtain ⟨v0, r, rfl, k0, k⟩ := k.cons_inv
  obtain ⟨v1, r, rfl, k1, k⟩ := k.cons_inv
  obtain ⟨v2, r, rfl, k2, k⟩ := k.cons_inv
  obtain ⟨v3, r, rfl, k3, k⟩ := k.cons_inv
  obtain ⟨v4, r, rfl, k4, k⟩ := k.cons_inv
  obtain ⟨v5, r, rfl, k5, k⟩ := k.cons_inv
  obtain rfl := k.nil_inv
  obtain ⟨n0, rfl, h0⟩ := k0.int_inv
  obtain ⟨n1, rfl, h1⟩ := k1.int_inv
  obtain ⟨n2, rfl, h2⟩ := k2.int_inv
  obtain ⟨n3, rfl, h3⟩ := k3.int_inv
  obtain ⟨n4, rfl, h4⟩ := k4.int_inv
  obtain ⟨n5, rfl, h5⟩ := k5.int_inv
  exact ⟨⟨n0, n1, n2, n3, n4, n5⟩, rfl, h0, h1, h2, h3, h4, h5⟩
end
end Go.Proofs.YtjgacjidaeahdaaGreatDoor.Ab
set_option linter.unusedSimpArgs false
set_option linter.unusedVariables false
set_option linter.unnecessarySimpa false
set_option maxHeartbeats 4000000
namespace Go.Proofs.YtjgacjidaeahdaaGreatDoor.Ab
open Go.RowKit
section
variable {X : CallF} [LibX X] {h : Heap} {mv0 : Value} {ml0 : List Pr}
open Classical in
theorem l_Ids (hm0 : Rows h 2 mv0 (prsL ml0)) (hx0 : PrMax ml0) : C T X n_laws_FnExactIds [mv0] h = some (.bool true, h) := by
  refine C_go t_laws_FnExactIds rfl ?_
  unfold F_laws_FnExactIds
  obtain ⟨n0, zc0, zb0, zd0⟩ := z_szPairS (X := X) hm0 hx0 (n := 1048576) (by omega) (by omega)
  by_cases hn0 : n0 < 0
  · simp only [zc0, hn0, go_sem]
  have bm0 : PrBnd ml0 := zd0 (by omega)
  have q0 : h <+: h := List.prefix_refl h
  obtain ⟨v1, h1, c1, p1, o1⟩ := x_toPairS (X := X) (hm0.up q0) (by have := bm0.1; unfold lim; omega)
  have q1 := q0.trans p1
  have l1 := pre_len p1
  obtain ⟨v2, h2, c2, p2, o2⟩ := k_spec_Ids (X := X) o1.rows (by have := bm0.1; unfold lim; omega)
  have o1_2 := o1.up p2
  have q2 := q1.trans p2
  have l2 := pre_len p2
  obtain ⟨v3, h3, c3, p3, o3⟩ := x_toPairS (X := X) (hm0.up q2) (by have := bm0.1; unfold lim; omega)
  have o2_3 := o2.up p3
  have q3 := q2.trans p3
  have l3 := pre_len p3
  obtain ⟨v4, h4, c4, p4, o4⟩ := k_impl_Ids (X := X) o3.rows (by have := bm0.1; unfold lim; omega)
  have o2_4 := o2_3.up p4
  have o3_4 := o3.up p4
  have q4 := q3.trans p4
  have l4 := pre_len p4
  have c5 := k_eqIntS (X := X) o4.rows o2_4.rows (Nat.le_trans idsR_len (by unfold lim; omega))
  obtain ⟨v6, h6, c6, p6, o6⟩ := x_toPairS (X := X) (hm0.up q4) (by have := bm0.1; unfold lim; omega)
  have o2_6 := o2_4.up p6
  have o3_6 := o3_4.up p6
  have o4_6 := o4.up p6
  have q6 := q4.trans p6
  have l6 := pre_len p6
  have c7 := k_eqPairS (X := X) o3_6.rows o6.rows (by have := bm0.1; unfold lim; omega)
  obtain ⟨h8, c8, s8⟩ := m_markPairS (X := X) o3_6 (by have := bm0.1; unfold lim; omega) (k := 1) (by have := bm0.1; omega)
  have l8 := s8.len
  have o2_8 := o2_6.same s8 (by omega)
  have o4_8 := o4_6.same s8 (by omega)
  have q8 := s8.pre q6 (by omega)
  have km : ¬ ((((1 + ml0.length * 2) : Nat) : Int) < 0) := by omega
  have c9 := k_eqIntS (X := X) o4_8.rows o2_8.rows (Nat.le_trans idsR_len (by unfold lim; omega))
  obtain ⟨h10, c10, s10, g10⟩ := k_markIntS (X := X) o4_8 (by rw [ints_len]; exact (Nat.le_trans idsR_len (by unfold lim; omega))) (k := 1) (by omega)
  rw [ints_len] at c10 g10
  have l10 := s10.len
  have o2_10 := o2_8.same s10 (by omega)
  have q10 := s10.pre q8 (by omega)
  have c11 := k_heldIntS (X := X) (n := (idsR ml0 tAll).length) g10.rows (Nat.le_trans idsR_len (by unfold lim; omega)) (by omega)
  have kh : ¬ (((1 + (idsR ml0 tAll).length * 1 : Nat) : Int) < 0) := by omega
  obtain ⟨v12, h12, c12, p12, o12⟩ := x_toPairS (X := X) (hm0.up q10) (by have := bm0.1; unfold lim; omega)
  have o2_12 := o2_10.up p12
  have g10_12 := g10.up p12
  have q12 := q10.trans p12
  have l12 := pre_len p12
  obtain ⟨v13, h13, c13, p13, o13⟩ := k_impl_Ids (X := X) o12.rows (by have := bm0.1; unfold lim; omega)
  have o2_13 := o2_12.up p13
  have g10_13 := g10_12.up p13
  have o12_13 := o12.up p13
  have q13 := q12.trans p13
  have l13 := pre_len p13
  have c14 := k_eqIntS (X := X) o13.rows o2_13.rows (Nat.le_trans idsR_len (by unfold lim; omega))
  have c15 := k_heldIntS (X := X) (n := (idsR ml0 tAll).length) g10_13.rows (Nat.le_trans idsR_len (by unfold lim; omega)) (by omega)
  have one : ((1 : Nat) : Int) = 1 := rfl
  rw [one] at c8 c10 c11 c15
  simp only [zc0, hn0, c1, c2, c3, c4, c5, c6, c7, c8, km, c9, c10, c11, kh, c12, c13, c14, c15, List.prefix_refl, BEq.rfl, p1, p2, p3, p4, p6, p12, p13, go_sem]
  try exact finish_flat rfl q13
end
def ps_FnExactIds : List (Bool × List CK) := [(false, [.sl [.str, .str]])]
theorem law_FnExactIds (h : Heap) (avs : List Value) (ha : All2 (ArgOk h) ps_FnExactIds avs) : C T libX n_laws_FnExactIds avs h = some (.bool true, h) := by
  obtain ⟨v0, r, rfl, k0, ha⟩ := ha.cons_inv
  obtain rfl := ha.nil_inv
  obtain ⟨ml0, hm0, hx0a, hx0b⟩ := k0.cell.pairs_inv
  have hx0 : PrMax ml0 := ⟨hx0a, hx0b⟩
  exact l_Ids hm0 hx0
end Go.Proofs.YtjgacjidaeahdaaGreatDoor.Ab
