/- Joined: K81, Op3, LFnExactStateText. No conditions. -/
import Derived.Test.YtgmljppiiighmaaGreatDoorM18
import Derived.Test.YtgmljppiiighmaaGreatDoorM17
import Derived.Test.YtgmljppiiighmaaGreatDoorM15
import Derived.Test.YtgmljppiiighmaaGreatDoorM19
import Derived.Test.YtgmljppiiighmaaGreatDoorM12
import Derived.Test.YtgmljppiiighmaaGreatDoorM4
set_option linter.unusedSimpArgs false
set_option linter.unusedVariables false
set_option linter.unnecessarySimpa false
set_option maxHeartbeats 4000000
namespace Go.Proofs.YtgmljppiiighmaaGreatDoor.Ab
open Go.RowKit
/-- The bytes of a state's first pairs. -/
def stAcc (m : List Pr) (i : Nat) : ByteArray := (m.take i).foldl (fun s p => s ++ (shortT p.k ++ shortT p.v)) (varT m.length)
theorem varT_size {n : Nat} (h : n ≤ 1000000000) : (varT n).size ≤ 5 := by unfold varT; rw [strOfNums_size]; exact varL_len _ h
theorem shortT_size {x : ByteArray} (h : x.size ≤ 1000000000) : (shortT x).size ≤ x.size + 5 := by
  have := varT_size h
  unfold shortT
  rw [ByteArray.size_append]
  omega
theorem stAcc_all {m : List Pr} : stAcc m m.length = stT m := by unfold stAcc stT; rw [List.take_length]
theorem stAcc_next {m : List Pr} {i : Nat} (h : i < m.length) : stAcc m (i + 1) = stAcc m i ++ (shortT (m.getD i p0).k ++ shortT (m.getD i p0).v) := by
  unfold stAcc
  rw [List.take_add_one, List.foldl_append, List.getElem?_eq_getElem h]
  simp [List.getD_eq_getElem?_getD, List.getElem?_eq_getElem h]
theorem stAcc_size {m : List Pr} (hl : m.length ≤ 120) (hp : ∀ p ∈ m, p.k.size ≤ 8 ∧ p.v.size ≤ 40) : ∀ i, i ≤ m.length → (stAcc m i).size ≤ 5 + 58 * i
  | 0, _ => varT_size (by omega)
  | i + 1, h => by
    have ih := stAcc_size hl hp i (by omega)
    have hq := hp _ (getD_mem (d := p0) (show i < m.length by omega))
    have h1 := shortT_size (x := (m.getD i p0).k) (by omega)
    have h2 := shortT_size (x := (m.getD i p0).v) (by omega)
    rw [stAcc_next (by omega), ByteArray.size_append, ByteArray.size_append]
    omega
open Classical in
noncomputable def stV (m : List Pr) : Value := if StI cfR m then .tuple ⟨[.string (sealT (stT m)), .bool true]⟩ else .tuple ⟨[.string noT, .bool false]⟩
section
variable {X : CallF} {h : Heap} {s : ByteArray}
theorem k_impl_ShortText (hs : s.size ≤ 8000) : C T X n_impl_ShortText [.string s] h = some (.tuple ⟨[.string (shortT s), .bool true]⟩, h) := by
  have c := k_impl_VarText (X := X) (h := h) (n := (s.size : Int))
  rw [if_pos ⟨by omega, by omega⟩, Int.toNat_natCast] at c
  have hv := varT_size (n := s.size) (by omega)
  have hz : (varT s.size).size + s.size ≤ 9223372036854775807 := by omega
  refine C_go t_impl_ShortText rfl ?_
  unfold F_impl_ShortText
  have hc : ¬ (s.size : Int) > 8000 := by omega
  simp only [hc, c, hz, List.prefix_refl, go_sem]
  rfl
theorem k_spec_l04Short (hs : s.size ≤ 1000000000) : C T X n_spec_l04Short [.string s] h = some (.string (shortT s), h) := by
  have c := k_spec_l01Var (X := X) (h := h) hs
  have hv := varT_size hs
  have hz : (varT s.size).size + s.size ≤ 9223372036854775807 := by omega
  refine C_go t_spec_l04Short rfl ?_
  unfold F_spec_l04Short
  simp only [c, hz, List.prefix_refl, go_sem]
  rfl
end
section
variable {X : CallF} [LibX X] {h : Heap} {m : List Pr} {mv : Value}
open Classical in
theorem k_impl_StateText (hm : Rows h 2 mv (prsL m)) (hl : m.length ≤ lim) : C T X n_impl_StateText [mv] h = some (stV m, h) := by
  suffices hx : ∃ v hh, C T X n_impl_StateText [mv] h = some (v, hh) ∧ v = stV m ∧ hh = h by
    obtain ⟨v, hh, c, rfl, rfl⟩ := hx
    exact c
  have c := k_impl_StateOk (X := X) hm hl
  refine C_ex t_impl_StateText rfl ?_
  unfold F_impl_StateText stV
  by_cases st : StI cfR m
  rotate_left
  · rw [tB_f st] at c
    rw [if_neg st]
    simp only [c, List.prefix_refl, go_sem]
    try exact ⟨rfl, rfl⟩
  rw [tB_t st] at c
  rw [if_pos st]
  obtain ⟨m1, m2⟩ := map_sz st
  have cv := vars1 (X := X) (g := h) (a := (m.length : Int))
  have e0 : catV noT [(m.length : Int)] = stAcc m 0 := by
    show noT ++ vt (m.length : Int) = varT m.length
    unfold vt
    rw [if_pos ⟨by omega, by omega⟩, Int.toNat_natCast]
    rw [show noT = ByteArray.empty from rfl, ByteArray.empty_append]
  rw [e0] at cv
  obtain ⟨g, hg⟩ : ∃ g : Heap, g = h ++ [⟨[.int .i64 (m.length : Int)], 1, y_int, false⟩] := ⟨_, rfl⟩
  have hpg : h <+: g := by rw [hg]; exact List.prefix_append _ _
  rw [← hg] at cv
  have hla : litArg 1 1 y_int h (some [.int .i64 (m.length : Int)]) = some (.slice (some ⟨h.length, 0, none⟩) 1 1, g) := by rw [hg]; rfl
  simp only [c, (hm.up hpg).lnm, hm.lnm, hla, cv, List.prefix_refl, zeros, fillAt, go_sem]
  refine w_for m.length (fun i t loc h' => h <+: h' ∧ t 20 = mv ∧ t 21 = .int .i64 m.length ∧ t 22 = .int .i64 i ∧ t 4 = .string (stAcc m i)) ⟨hpg, rfl, rfl, rfl, rfl⟩ ?_
  rintro i t loc h' hi ⟨hp, t20, t21, t22, t4⟩
  simp only [t21, t22, go_sem]
  refine w_open (by simp only [go_sem]; rfl) ?_ ?_ <;> intro hc
  · have hi1 : i < m.length := by omega
    have hw : IntKind.i64.wrap ((i : Int) + 1) = ((i + 1 : Nat) : Int) := w64 (by omega) (by omega)
    have el := (hm.up hp).el (f := prR) p0 hi1
    have hz := stAcc_size m1 m2 i (by omega)
    have hn := stAcc_next hi1
    have hq2 := m2 _ (getD_mem (d := p0) hi1)
    obtain ⟨q, hq⟩ : ∃ q, q = m.getD i p0 := ⟨_, rfl⟩
    rw [← hq] at el hn hq2
    have c1 := k_impl_ShortText (X := X) (h := h') (s := q.k) (by omega)
    have c2 := k_impl_ShortText (X := X) (h := h') (s := q.v) (by omega)
    have z1 := shortT_size (x := q.k) (by omega)
    have z2 := shortT_size (x := q.v) (by omega)
    have z3 : (shortT q.k).size + (shortT q.v).size ≤ 9223372036854775807 := by omega
    have z4 : (stAcc m i).size + ((shortT q.k).size + (shortT q.v).size) ≤ 9223372036854775807 := by omega
    simp only [t4, t20, t21, t22, el.1, el.2.1, el.2.2, prR, zeros, fillAt, c1, c2, z3, z4, hw, List.prefix_refl, go_sem]
    exact ⟨hi1, hp, hn ▸ rfl⟩
  · have : i = m.length := by omega
    subst this
    have hz := stAcc_size m1 m2 m.length (Nat.le_refl _)
    rw [stAcc_all] at t4 hz
    have c3 := k_impl_Sealed (X := X) (h := h') (s := stT m) (by unfold lim; omega)
    unfold sealV at c3
    rw [if_pos (by omega)] at c3
    simp only [t4, c3, List.prefix_refl, go_sem]
    rw [finish_flat rfl hp]
    exact ⟨rfl, rfl⟩
end
section
variable {X : CallF} {h : Heap} {m : List Pr} {mv : Value}
open Classical in
theorem k_spec_StateText (hm : Rows h 2 mv (prsL m)) (hl : m.length ≤ lim) : C T X n_spec_StateText [mv] h = some (stV m, h) := by
  have c := k_spec_StateOk (X := X) hm hl
  refine C_go t_spec_StateText rfl ?_
  unfold F_spec_StateText stV
  by_cases st : StI cfR m
  rotate_left
  · rw [tB_f st] at c
    rw [if_neg st]
    simp only [c, List.prefix_refl, go_sem]
    try rfl
  rw [tB_t st] at c
  rw [if_pos st]
  obtain ⟨m1, m2⟩ := map_sz st
  have cv := k_spec_l01Var (X := X) (h := h) (n := m.length) (by omega)
  simp only [c, hm.lnm, cv, List.prefix_refl, go_sem]
  refine w_for m.length (fun i t loc h' => h' = h ∧ t 0 = mv ∧ t 5 = .int .i64 i ∧ t 4 = .string (stAcc m i)) ⟨rfl, rfl, rfl, rfl⟩ ?_
  rintro i t loc h' hi ⟨rfl, t0, t5, t4⟩
  simp only [t0, t5, hm.lnm, go_sem]
  refine w_open (by simp only [go_sem]; rfl) ?_ ?_ <;> intro hc
  · have hi1 : i < m.length := by omega
    have hw : IntKind.i64.wrap ((i : Int) + 1) = ((i + 1 : Nat) : Int) := w64 (by omega) (by omega)
    have el := hm.el (f := prR) p0 hi1
    have cl0 := hm.cell (f := prR) p0 hi1 (o := 0) (by omega)
    have cl1 := hm.cell (f := prR) p0 hi1 (o := 1) (by omega)
    have hz := stAcc_size m1 m2 i (by omega)
    have hn := stAcc_next hi1
    have hq2 := m2 _ (getD_mem (d := p0) hi1)
    obtain ⟨q, hq⟩ : ∃ q, q = m.getD i p0 := ⟨_, rfl⟩
    rw [← hq] at el hn hq2 cl0 cl1
    have k0 : ldC h' (elemP mv 2 i 0) 1 = some [.string q.k] := cl0
    have k1 : ldC h' (elemP mv 2 i 1) 1 = some [.string q.v] := cl1
    have c1 := k_spec_l04Short (X := X) (h := h') (s := q.k) (by omega)
    have c2 := k_spec_l04Short (X := X) (h := h') (s := q.v) (by omega)
    have z1 := shortT_size (x := q.k) (by omega)
    have z2 := shortT_size (x := q.v) (by omega)
    have z3 : (stAcc m i).size + (shortT q.k).size ≤ 9223372036854775807 := by omega
    have z4 : (stAcc m i).size + (shortT q.k).size + (shortT q.v).size ≤ 9223372036854775807 := by omega
    simp only [t0, t4, t5, el.1, el.2.1, k0, k1, c1, c2, z3, z4, hw, List.prefix_refl, go_sem]
    exact ⟨hi1, by rw [hn, ByteArray.append_assoc]⟩
  · have : i = m.length := by omega
    subst this
    have hz := stAcc_size m1 m2 m.length (Nat.le_refl _)
    rw [stAcc_all] at t4 hz
    have c3 := k_spec_Sealed (X := X) (h := h') (s := stT m) (by unfold lim; omega)
    unfold sealV at c3
    rw [if_pos (by omega)] at c3
    simp only [t4, c3, List.prefix_refl, go_sem]
    try rfl
end
end Go.Proofs.YtgmljppiiighmaaGreatDoor.Ab
set_option linter.unusedSimpArgs false
set_option linter.unusedVariables false
set_option linter.unnecessarySimpa false
set_option maxHeartbeats 4000000
namespace Go.Proofs.YtgmljppiiighmaaGreatDoor.Ab
open Go.RowKit
section
variable {h : Heap} {v : Value}
/-- A list of edges. -/
theorem Shape.edges_inv (s : Shape h (.sl [.int .i64, .int .i64, .int .i64, .int .i64, .int .i64]) v) : ∃ l : List E, Rows h 5 v (edges l) ∧ l.length ≤ maxLen ∧ ∀ e ∈ l, I64 e.a ∧ I64 e.b ∧ I64 e.w1 ∧ I64 e.w2 ∧ I64 e.w3 := by
  obtain ⟨rows, hr, hm, hk⟩ := s.sl_inv
  obtain ⟨l, rfl, hl⟩ := rows_map (f := edgeR) (Q := fun e => I64 e.a ∧ I64 e.b ∧ I64 e.w1 ∧ I64 e.w2 ∧ I64 e.w3) (rows := rows) (fun r hrm => by
    obtain ⟨x, r', rfl, hx, h2⟩ := (hk r hrm).cons_inv
    obtain ⟨y, r', rfl, hy, h2⟩ := h2.cons_inv
    obtain ⟨z, r', rfl, hz, h2⟩ := h2.cons_inv
    obtain ⟨u, r', rfl, hu, h2⟩ := h2.cons_inv
    obtain ⟨w, r', rfl, hw, h2⟩ := h2.cons_inv
    obtain rfl := h2.nil_inv
    obtain ⟨a, rfl, ha⟩ := hx.int_inv
    obtain ⟨b, rfl, hb⟩ := hy.int_inv
    obtain ⟨c, rfl, hc⟩ := hz.int_inv
    obtain ⟨d, rfl, hd⟩ := hu.int_inv
    obtain ⟨e, rfl, he⟩ := hw.int_inv
    exact ⟨⟨a, b, c, d, e⟩, rfl, ha, hb, hc, hd, he⟩)
  exact ⟨l, hr, by simpa using hm, hl⟩
theorem Shape.pairs_inv (s : Shape h (.sl [.str, .str]) v) : ∃ l : List Pr, Rows h 2 v (prsL l) ∧ l.length ≤ maxLen ∧ ∀ e ∈ l, e.k.size ≤ maxLen ∧ e.v.size ≤ maxLen := by
  obtain ⟨rows, hr, hm, hk⟩ := s.sl_inv
  obtain ⟨l, rfl, hl⟩ := rows_map (f := prR) (Q := fun e => e.k.size ≤ maxLen ∧ e.v.size ≤ maxLen) (rows := rows) (fun r hrm => by
    obtain ⟨x, r', rfl, hx, h2⟩ := (hk r hrm).cons_inv
    obtain ⟨y, r', rfl, hy, h2⟩ := h2.cons_inv
    obtain rfl := h2.nil_inv
    obtain ⟨a, rfl, ha⟩ := hx.str_inv
    obtain ⟨b, rfl, hb⟩ := hy.str_inv
    exact ⟨⟨a, b⟩, rfl, ha, hb⟩)
  exact ⟨l, hr, by simpa using hm, hl⟩
theorem ArgOk.graph (a : ArgOk h (true, [.int .i64, .sl [.int .i64, .int .i64, .int .i64, .int .i64, .int .i64]]) v) : ∃ size ev es, v = graphV size ev ∧ I64 size ∧ Rows h 5 ev (edges es) ∧ es.length ≤ maxLen := by
  obtain ⟨acs, k, rfl⟩ := a.row
  obtain ⟨v0, r, rfl, k0, k⟩ := k.cons_inv
  obtain ⟨v1, r, rfl, k1, k⟩ := k.cons_inv
  obtain rfl := k.nil_inv
  obtain ⟨n, rfl, hn⟩ := k0.int_inv
  obtain ⟨es, he, hm, _⟩ := k1.edges_inv
  exact ⟨n, v1, es, rfl, hn, he, hm⟩
def AqOk (x : Aq) : Prop := I64 x.op ∧ I64 x.a ∧ I64 x.b ∧ I64 x.w1 ∧ I64 x.w2 ∧ I64 x.w3
theorem ArgOk.ask (a : ArgOk h (true, [.int .i64, .int .i64, .int .i64, .int .i64, .int .i64, .int .i64]) v) : ∃ x : Aq, v = .agg ⟨aqR x⟩ ∧ AqOk x := by
  obtain ⟨acs, k, rfl⟩ := a.row
  obtain ⟨v0, r, rfl, k0, k⟩ := k.cons_inv
  obtain ⟨v1, r, rfl, k1, k⟩ := k.cons_inv
  obtain ⟨v2, r, rfl, k2, k⟩ := k.cons_inv
  obtain ⟨v3, r, rfl, k3, k⟩ := k.cons_inv
  obtain ⟨v4, r, rfl, k4, k⟩ := k.cons_inv
  obtain ⟨v5, r, rfl, k5, k⟩ := k.cons_inv
  obtain rfl := k.nil_inv
  obtain ⟨n0, rfl, h0⟩ := k0.int_inv
  obtain ⟨n1, rfl, h1⟩ := k1.int_inv
  obtain ⟨n2, rfl, h2⟩ := k2.int_inv
  obtain ⟨n3, rfl, h3⟩ := k3.int_inv
  obtain ⟨n4, rfl, h4⟩ := k4.int_inv
  obtain ⟨n5, rfl, h5⟩ := k5.int_inv
  exact ⟨⟨n0, n1, n2, n3, n4, n5⟩, rfl, h0, h1, h2, h3, h4, h5⟩
end
end Go.Proofs.YtgmljppiiighmaaGreatDoor.Ab
set_option linter.unusedSimpArgs false
set_option linter.unusedVariables false
set_option linter.unnecessarySimpa false
set_option maxHeartbeats 4000000
namespace Go.Proofs.YtgmljppiiighmaaGreatDoor.Ab
open Go.RowKit
theorem stV_form (m : List Pr) : ∃ (x : ByteArray) (b : Bool), stV m = .tuple ⟨[.string x, .bool b]⟩ := by
  unfold stV
  split
  · exact ⟨_, _, rfl⟩
  · exact ⟨_, _, rfl⟩
section
variable {X : CallF} [LibX X] {h : Heap} {mv0 : Value} {ml0 : List Pr}
open Classical in
theorem l_StateText (hm0 : Rows h 2 mv0 (prsL ml0)) (hx0 : PrMax ml0) : C T X n_laws_FnExactStateText [mv0] h = some (.bool true, h) := by
  refine C_go t_laws_FnExactStateText rfl ?_
  unfold F_laws_FnExactStateText
  obtain ⟨n0, zc0, zb0, zd0⟩ := z_szPairS (X := X) hm0 hx0 (n := 1048576) (by omega) (by omega)
  by_cases hn0 : n0 < 0
  · simp only [zc0, hn0, go_sem]
  have bm0 : PrBnd ml0 := zd0 (by omega)
  have q0 : h <+: h := List.prefix_refl h
  obtain ⟨v1, h1, c1, p1, o1⟩ := x_toPairS (X := X) (hm0.up q0) (by have := bm0.1; unfold lim; omega)
  have q1 := q0.trans p1
  have l1 := pre_len p1
  have c3 := k_spec_StateText (X := X) o1.rows (by have := bm0.1; unfold lim; omega)
  obtain ⟨v4, h4, c4, p4, o4⟩ := x_toPairS (X := X) (hm0.up q1) (by have := bm0.1; unfold lim; omega)
  have q4 := q1.trans p4
  have l4 := pre_len p4
  have c6 := k_impl_StateText (X := X) o4.rows (by have := bm0.1; unfold lim; omega)
  obtain ⟨v7, h7, c7, p7, o7⟩ := x_toPairS (X := X) (hm0.up q4) (by have := bm0.1; unfold lim; omega)
  have o4_7 := o4.up p7
  have q7 := q4.trans p7
  have l7 := pre_len p7
  have c8 := k_eqPairS (X := X) o4_7.rows o7.rows (by have := bm0.1; unfold lim; omega)
  obtain ⟨x, b, e⟩ := stV_form ml0
  rw [e] at c3 c6
  simp only [zc0, hn0, c1, c3, c4, c6, c7, c8, List.prefix_refl, BEq.rfl, p1, p4, p7, go_sem]
  try exact finish_flat rfl q7
end
def ps_FnExactStateText : List (Bool × List CK) := [(false, [.sl [.str, .str]])]
theorem law_FnExactStateText (h : Heap) (avs : List Value) (ha : All2 (ArgOk h) ps_FnExactStateText avs) : C T libX n_laws_FnExactStateText avs h = some (.bool true, h) := by
  obtain ⟨v0, r, rfl, k0, ha⟩ := ha.cons_inv
  obtain rfl := ha.nil_inv
  obtain ⟨ml0, hm0, hx0a, hx0b⟩ := k0.cell.pairs_inv
  have hx0 : PrMax ml0 := ⟨hx0a, hx0b⟩
  exact l_StateText hm0 hx0
end Go.Proofs.YtgmljppiiighmaaGreatDoor.Ab
