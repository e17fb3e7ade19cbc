/- Joined: K62, K63, Op3, LFnExactTurn. No conditions. -/
import Derived.Test.YtjgacjidaeahdaaGreatDoorM18
import Derived.Test.YtjgacjidaeahdaaGreatDoorM12
import Derived.Test.YtjgacjidaeahdaaGreatDoorM4
import Derived.Test.YtjgacjidaeahdaaGreatDoorM14
set_option linter.unusedSimpArgs false
set_option linter.unusedVariables false
set_option linter.unnecessarySimpa false
set_option maxHeartbeats 4000000
namespace Go.Proofs.YtjgacjidaeahdaaGreatDoor.Ab
open Go.RowKit
theorem rdI_ok {s : ByteArray} (h : (rdI s).ok = true) : CertOk (rdI s).size (rdI s).es (rdI s).m (rdI s).ys (rdI s).gs := by
  unfold rdI at h ⊢
  by_cases k : CokI s
  · rw [if_pos k]
    exact k.2.2
  · rw [if_neg k] at h
    cases h
section
variable {m : List Pr} {r : Int}
theorem rnd_facts (k : RIn m r) : (roundC m r).ok = true ∧ CertOk (roundC m r).size (roundC m r).es (roundC m r).m (roundC m r).ys (roundC m r).gs ∧ (roundC m r).size = ((roundP m r).length : Int) := by
  obtain ⟨R, hR⟩ := rnd_ex m
  obtain ⟨n, rfl, hn, st, w, hw, hpi, hok, hsz⟩ := rin_facts k hR
  unfold roundC roundP
  rw [if_pos k, if_pos k, Int.toNat_natCast]
  have hP : poolT m n = w := by unfold poolT; rw [hw]; rfl
  rw [hP, bytL_len]
  exact ⟨hok, rdI_ok hok, hsz⟩
theorem rnd_not (k : ¬ RIn m r) : roundC m r = ⟨0, [], [], [], [], false⟩ ∧ roundP m r = [] := by
  unfold roundC roundP
  rw [if_neg k, if_neg k]
  exact ⟨rfl, rfl⟩
theorem rnd_plen : (roundP m r).length ≤ 9 := by
  by_cases k : RIn m r
  · have h1 := (cert_lens (rnd_facts k).2.1).1
    have h2 := (rnd_facts k).2.2
    omega
  · rw [(rnd_not k).2]
    simp
end
section
variable {X : CallF} [LibX X] {h : Heap} {m : List Pr} {mv : Value} {r : Int}
end
section
variable {X : CallF} {h : Heap} {m : List Pr} {mv : Value} {r : Int}
end
end Go.Proofs.YtjgacjidaeahdaaGreatDoor.Ab
set_option linter.unusedSimpArgs false
set_option linter.unusedVariables false
set_option linter.unnecessarySimpa false
set_option maxHeartbeats 4000000
namespace Go.Proofs.YtjgacjidaeahdaaGreatDoor.Ab
open Go.RowKit
open Classical in
noncomputable def inRnd (m : List Pr) (id : Int) (r : Nat) : Nat := if id ∈ roundP m (r : Int) then 1 else 0
/-- A right state, and an id that joined. -/
def IdIn (m : List Pr) (id : Int) : Prop := StI cfR m ∧ ∃ i : Nat, id = (i : Int) ∧ Jn m i
noncomputable def rndsN (m : List Pr) : Nat := Classical.choose (rnd_ex m)
theorem rndsN_is (m : List Pr) : IsRnd m (rndsN m) := Classical.choose_spec (rnd_ex m)
open Classical in
noncomputable def turnN (m : List Pr) (id : Int) : Int := if IdIn m id then ((sumTo (inRnd m id) (rndsN m) : Nat) : Int) else -1
theorem rin_of {m : List Pr} {R n : Nat} (st : StI cfR m) (hR : IsRnd m R) (hn : n < R) : RIn m (n : Int) := ⟨st, R, n, hR, rfl, hn⟩
theorem roundP_in {m : List Pr} {R n : Nat} (st : StI cfR m) (hR : IsRnd m R) (hn : n < R) : roundP m (n : Int) = bytL (poolT m n) := by
  unfold roundP
  rw [if_pos (rin_of st hR hn), Int.toNat_natCast]
theorem ids_mem {m : List Pr} {id : Int} : id ∈ natI (idsT m tAll) ↔ ∃ i : Nat, id = (i : Int) ∧ Jn m i := by
  unfold natI
  rw [List.mem_map]
  constructor
  · rintro ⟨i, hi, rfl⟩
    obtain ⟨h1, v, h2, _⟩ := idsT_mem.1 hi
    exact ⟨i, rfl, h1, by rw [h2]; rfl⟩
  · rintro ⟨i, rfl, h1, h2⟩
    refine ⟨i, idsT_mem.2 ⟨h1, ?_⟩, rfl⟩
    cases hg : getK m (vK i) with
    | none => rw [hg] at h2; cases h2
    | some v => exact ⟨v, rfl, rfl⟩
theorem inRnd_le {m : List Pr} {id : Int} {n : Nat} : sumTo (inRnd m id) n ≤ n := by
  have := sumTo_le (f := inRnd m id) (b := 1) (n := n) fun r _ => by unfold inRnd; split <;> omega
  omega
section
variable {X : CallF} [LibX X] {h : Heap} {m : List Pr} {mv : Value} {id : Int}
theorem k_impl_Turn (hm : Rows h 2 mv (prsL m)) (hl : m.length ≤ lim) : C T X n_impl_Turn [mv, .int .i64 id] h = some (.int .i64 (turnN m id), h) := by
  refine C_go t_impl_Turn rfl ?_
  unfold F_impl_Turn turnN
  have c := k_impl_StateOk (X := X) hm hl
  by_cases st : StI cfR m
  · rw [tB_t st] at c
    have hR := rndsN_is m
    have hR6 := st_rnd st hR
    by_cases c1 : (decide ((0 : Int) ≤ id) && decide (id ≤ 11)) = true
    · have c1' : 0 ≤ id ∧ id ≤ 11 := by simpa using c1
      obtain ⟨i, rfl⟩ := Int.eq_ofNat_of_zero_le c1'.1
      have cj := k_impl_joined (X := X) (i := i) (by omega) hm hl
      by_cases j : Jn m i
      · have hI : IdIn m (i : Int) := ⟨st, i, rfl, j⟩
        rw [if_pos hI]
        rw [tB_t j] at cj
        have h4 := k_impl_roundsOf (X := X) hm hl hR
        rw [show min (rndsN m) 7 = rndsN m by omega] at h4
        obtain ⟨R, hRR⟩ : ∃ R, R = rndsN m := ⟨_, rfl⟩
        rw [← hRR] at h4 hR hR6 ⊢
        simp only [c, k_impl_in, c1, cj, h4, zeros, fillAt, go_sem]
        refine w_for R (fun r t loc h' => t 0 = mv ∧ t 1 = .int .i64 (i : Int) ∧ t 25 = .int .i64 (R : Int) ∧ t 26 = .int .i64 r ∧ h <+: h' ∧ t 5 = .int .i64 ((sumTo (inRnd m (i : Int)) r : Nat) : Int)) ⟨rfl, rfl, rfl, rfl, List.prefix_refl _, rfl⟩ ?_
        rintro r t loc h' hr ⟨t0, t1, t25, t26, hp, t5⟩
        simp only [t25, t26, go_sem]
        refine w_open (by simp only [go_sem]; rfl) ?_ ?_ <;> intro hc
        · have hr1 : r < R := by omega
          have hw : IntKind.i64.wrap ((r : Int) + 1) = ((r + 1 : Nat) : Int) := w64 (by omega) (by omega)
          obtain ⟨v1, h1, k1, p1, a⟩ := k_impl_RoundOf (X := X) (r := (r : Int)) (hm.up hp) hl
          obtain ⟨pv, ew, mw, yw, gw, rfl, o0, o1, o2, o3, o4⟩ := a.weak
          unfold certV at k1
          have hpl := rnd_plen (m := m) (r := (r : Int))
          have ch := k_impl_hasInt (X := X) (n := (i : Int)) o0.rows (by unfold lim; omega)
          have hle := inRnd_le (m := m) (id := (i : Int)) (n := r)
          have hw5 : IntKind.i64.wrap (((sumTo (inRnd m (i : Int)) r : Nat) : Int) + 1) = ((sumTo (inRnd m (i : Int)) r + 1 : Nat) : Int) := w64 (by omega) (by omega)
          have hs : sumTo (inRnd m (i : Int)) (r + 1) = sumTo (inRnd m (i : Int)) r + inRnd m (i : Int) r := rfl
          by_cases g : (i : Int) ∈ roundP m (r : Int)
          · have hn : inRnd m (i : Int) r = 1 := if_pos g
            simp only [t0, t1, t5, t25, t26, k1, p1, ch, g, hw, hw5, zeros, fillAt, go_sem]
            exact ⟨hr1, hp.trans p1, by rw [hs, hn]⟩
          · have hn : inRnd m (i : Int) r = 0 := if_neg g
            simp only [t0, t1, t5, t25, t26, k1, p1, ch, g, hw, hw5, zeros, fillAt, go_sem]
            exact ⟨hr1, hp.trans p1, by rw [hs, hn]; rfl⟩
        · have hin : r = R := by omega
          subst hin
          simp only [t5, go_sem]
          exact finish_flat rfl hp
      · have hI : ¬ IdIn m (i : Int) := fun k => by
          obtain ⟨_, i', e, k2⟩ := k
          have : i = i' := by omega
          subst this
          exact j k2
        rw [if_neg hI]
        rw [tB_f j] at cj
        simp only [c, k_impl_in, c1, cj, go_sem]
    · have c1' : (decide ((0 : Int) ≤ id) && decide (id ≤ 11)) = false := by simpa using c1
      have hI : ¬ IdIn m id := fun k => by
        obtain ⟨_, i', rfl, k2⟩ := k
        have := k2.1
        apply c1
        simp only [Bool.and_eq_true, decide_eq_true_eq]
        omega
      rw [if_neg hI]
      simp only [c, k_impl_in, c1', go_sem]
  · have hI : ¬ IdIn m id := fun k => st k.1
    rw [if_neg hI]
    rw [tB_f st] at c
    simp only [c, go_sem]
end
section
variable {X : CallF} {h : Heap} {m : List Pr} {mv : Value} {id : Int}
theorem k_spec_Turn (hm : Rows h 2 mv (prsL m)) (hl : m.length ≤ 1048576) : C T X n_spec_Turn [mv, .int .i64 id] h = some (.int .i64 (turnN m id), h) := by
  have hl' : m.length ≤ lim := by unfold lim; omega
  refine C_go t_spec_Turn rfl ?_
  unfold F_spec_Turn turnN
  have c := k_spec_StateOk (X := X) hm hl'
  by_cases st : StI cfR m
  · rw [tB_t st] at c
    have hR := rndsN_is m
    have hR6 := st_rnd st hR
    have hml := st.1.1
    obtain ⟨vi, h1, ci, p1, oi⟩ := k_spec_l13Ids (X := X) (f := noT) hm (by omega) (map_k st.1)
    rw [ids_all (m := m), idsM_st st hR] at oi
    have ci' : C T X n_spec_l13Ids [mv, .string ⟨⟨[]⟩⟩] h = some (vi, h1) := ci
    have hli := idsT_le (m := m) (T := tAll)
    have cin := k_spec_l03In (X := X) (n := id) oi.rows (by rw [natI_len]; unfold lim; omega)
    by_cases g : id ∈ natI (idsT m tAll)
    · have hI : IdIn m id := ⟨st, ids_mem.1 g⟩
      rw [if_pos hI]
      obtain ⟨R, hRR⟩ : ∃ R, R = rndsN m := ⟨_, rfl⟩
      rw [← hRR] at hR hR6 ⊢
      simp only [c, ci', p1, cin, g, zeros, fillAt, go_sem]
      refine w_for R (fun r t loc h' => t 0 = mv ∧ t 1 = .int .i64 id ∧ t 6 = .int .i64 r ∧ h <+: h' ∧ t 5 = .int .i64 ((sumTo (inRnd m id) r : Nat) : Int)) ⟨rfl, rfl, rfl, p1, rfl⟩ ?_
      rintro r t loc h' hr ⟨t0, t1, t6, hp, t5⟩
      have h4 := k_spec_l13Rounds (X := X) (hm.up hp) hl hR
      simp only [t0, t6, h4, go_sem]
      refine w_open (by simp only [go_sem]; rfl) ?_ ?_ <;> intro hc
      · have hr1 : r < R := by omega
        have hw : IntKind.i64.wrap ((r : Int) + 1) = ((r + 1 : Nat) : Int) := w64 (by omega) (by omega)
        obtain ⟨pv, h2, k1, p2, o0⟩ := k_spec_l13Pool (X := X) (r := r) (by omega) (mapIs_v st.1) (hm.up hp) hl'
        have hP := roundP_in st hR hr1
        unfold poolT at hP
        rw [← hP] at o0
        have hpl := rnd_plen (m := m) (r := (r : Int))
        have ch := k_spec_l03In (X := X) (n := id) o0.rows (by unfold lim; omega)
        have hle := inRnd_le (m := m) (id := id) (n := r)
        have hw5 : IntKind.i64.wrap (((sumTo (inRnd m id) r : Nat) : Int) + 1) = ((sumTo (inRnd m id) r + 1 : Nat) : Int) := w64 (by omega) (by omega)
        have hs : sumTo (inRnd m id) (r + 1) = sumTo (inRnd m id) r + inRnd m id r := rfl
        by_cases g2 : id ∈ roundP m (r : Int)
        · have hn : inRnd m id r = 1 := if_pos g2
          simp only [t0, t1, t5, t6, k1, p2, ch, g2, hw, hw5, zeros, fillAt, go_sem]
          exact ⟨hr1, hp.trans p2, by rw [hs, hn]⟩
        · have hn : inRnd m id r = 0 := if_neg g2
          simp only [t0, t1, t5, t6, k1, p2, ch, g2, hw, hw5, zeros, fillAt, go_sem]
          exact ⟨hr1, hp.trans p2, by rw [hs, hn]; rfl⟩
      · have hin : r = R := by omega
        subst hin
        simp only [t5, go_sem]
        exact finish_flat rfl hp
    · have hI : ¬ IdIn m id := fun k => g (ids_mem.2 k.2)
      rw [if_neg hI]
      simp only [c, ci', p1, cin, g, zeros, fillAt, go_sem]
      try exact finish_flat rfl p1
  · have hI : ¬ IdIn m id := fun k => st k.1
    rw [if_neg hI]
    rw [tB_f st] at c
    simp only [c, go_sem]
end
end Go.Proofs.YtjgacjidaeahdaaGreatDoor.Ab
set_option linter.unusedSimpArgs false
set_option linter.unusedVariables false
set_option linter.unnecessarySimpa false
set_option maxHeartbeats 4000000
namespace Go.Proofs.YtjgacjidaeahdaaGreatDoor.Ab
open Go.RowKit
section
variable {h : Heap} {v : Value}
/-- A list of edges. -/
theorem Shape.edges_inv (s : Shape h (.sl [.int .i64, .int .i64, .int .i64, .int .i64, .int .i64]) v) : ∃ l : List E, Rows h 5 v (edges l) ∧ l.length ≤ maxLen ∧ ∀ e ∈ l, I64 e.a ∧ I64 e.b ∧ I64 e.w1 ∧ I64 e.w2 ∧ I64 e.w3 := by
  obtain ⟨rows, hr, hm, hk⟩ := s.sl_inv
  obtain ⟨l, rfl, hl⟩ := rows_map (f := edgeR) (Q := fun e => I64 e.a ∧ I64 e.b ∧ I64 e.w1 ∧ I64 e.w2 ∧ I64 e.w3) (rows := rows) (fun r hrm => by
    obtain ⟨x, r', rfl, hx, h2⟩ := (hk r hrm).cons_inv
    obtain ⟨y, r', rfl, hy, h2⟩ := h2.cons_inv
    obtain ⟨z, r', rfl, hz, h2⟩ := h2.cons_inv
    obtain ⟨u, r', rfl, hu, h2⟩ := h2.cons_inv
    obtain ⟨w, r', rfl, hw, h2⟩ := h2.cons_inv
    obtain rfl := h2.nil_inv
    obtain ⟨a, rfl, ha⟩ := hx.int_inv
    obtain ⟨b, rfl, hb⟩ := hy.int_inv
    obtain ⟨c, rfl, hc⟩ := hz.int_inv
    obtain ⟨d, rfl, hd⟩ := hu.int_inv
    obtain ⟨e, rfl, he⟩ := hw.int_inv
    exact ⟨⟨a, b, c, d, e⟩, rfl, ha, hb, hc, hd, he⟩)
  exact ⟨l, hr, by simpa using hm, hl⟩
theorem Shape.pairs_inv (s : Shape h (.sl [.str, .str]) v) : ∃ l : List Pr, Rows h 2 v (prsL l) ∧ l.length ≤ maxLen ∧ ∀ e ∈ l, e.k.size ≤ maxLen ∧ e.v.size ≤ maxLen := by
  obtain ⟨rows, hr, hm, hk⟩ := s.sl_inv
  obtain ⟨l, rfl, hl⟩ := rows_map (f := prR) (Q := fun e => e.k.size ≤ maxLen ∧ e.v.size ≤ maxLen) (rows := rows) (fun r hrm => by
    obtain ⟨x, r', rfl, hx, h2⟩ := (hk r hrm).cons_inv
    obtain ⟨y, r', rfl, hy, h2⟩ := h2.cons_inv
    obtain rfl := h2.nil_inv
    obtain ⟨a, rfl, ha⟩ := hx.str_inv
    obtain ⟨b, rfl, hb⟩ := hy.str_inv
    exact ⟨⟨a, b⟩, rfl, ha, hb⟩)
  exact ⟨l, hr, by simpa using hm, hl⟩
theorem ArgOk.graph (a : ArgOk h (true, [.int .i64, .sl [.int .i64, .int .i64, .int .i64, .int .i64, .int .i64]]) v) : ∃ size ev es, v = graphV size ev ∧ I64 size ∧ Rows h 5 ev (edges es) ∧ es.length ≤ maxLen := by
  obtain ⟨acs, k, rfl⟩ := a.row
  obtain ⟨v0, r, rfl, k0, k⟩ := k.cons_inv
  obtain ⟨v1, r, rfl, k1, k⟩ := k.cons_inv
  obtain rfl := k.nil_inv
  obtain ⟨n, rfl, hn⟩ := k0.int_inv
  obtain ⟨es, he, hm, _⟩ := k1.edges_inv
  exact ⟨n, v1, es, rfl, hn, he, hm⟩
def AqOk (x : Aq) : Prop := I64 x.op ∧ I64 x.a ∧ I64 x.b ∧ I64 x.w1 ∧ I64 x.w2 ∧ I64 x.w3
theorem ArgOk.ask (a : ArgOk h (true, [.int .i64, .int .i64, .int .i64, .int .i64, .int .i64, .int .i64]) v) : ∃ x : Aq, v = .agg ⟨aqR x⟩ ∧ AqOk x := by
  obtain ⟨acs, k, rfl⟩ := a.row
  obtain ⟨v0, r, rfl, k0, k⟩ := k.cons_inv
  obtain ⟨v1, r, rfl, k1, k⟩ := k.cons_inv
  obtain ⟨v2, r, rfl, k2, k⟩ := k.cons_inv
  obtain ⟨v3, r, rfl, k3, k⟩ := k.cons_inv
  obtain ⟨v4, r, rfl, k4, k⟩ := k.cons_inv
  obtain ⟨v5, r, rfl, k5, k⟩ := k.cons_inv
  obtain rfl := k.nil_inv
  obtain ⟨n0, rfl, h0⟩ := k0.int_inv
  obtain ⟨n1, rfl, h1⟩ := k1.int_inv
  obtain ⟨n2, rfl, h2⟩ := k2.int_inv
  obtain ⟨n3, rfl, h3⟩ := k3.int_inv
  obtain ⟨n4, rfl, h4⟩ := k4.int_inv
  obtain ⟨n5, rfl, h5⟩ := k5.int_inv
  exact ⟨⟨n0, n1, n2, n3, n4, n5⟩, rfl, h0, h1, h2, h3, h4, h5⟩
end
end Go.Proofs.YtjgacjidaeahdaaGreatDoor.Ab
set_option linter.unusedSimpArgs false
set_option linter.unusedVariables false
set_option linter.unnecessarySimpa false
set_option maxHeartbeats 4000000
namespace Go.Proofs.YtjgacjidaeahdaaGreatDoor.Ab
open Go.RowKit
section
variable {X : CallF} [LibX X] {h : Heap} {mv0 : Value} {ml0 : List Pr} {x1 : Int}
open Classical in
theorem l_Turn (hm0 : Rows h 2 mv0 (prsL ml0)) (hx0 : PrMax ml0) (hx1 : I64 x1) : C T X n_laws_FnExactTurn [mv0, .int .i64 x1] h = some (.bool true, h) := by
  refine C_go t_laws_FnExactTurn rfl ?_
  unfold F_laws_FnExactTurn
  obtain ⟨n0, zc0, zb0, zd0⟩ := z_szPairS (X := X) hm0 hx0 (n := 1048576) (by omega) (by omega)
  by_cases hn0 : n0 < 0
  · simp only [zc0, hn0, go_sem]
  have bm0 : PrBnd ml0 := zd0 (by omega)
  have q0 : h <+: h := List.prefix_refl h
  obtain ⟨v1, h1, c1, p1, o1⟩ := x_toPairS (X := X) (hm0.up q0) (by have := bm0.1; unfold lim; omega)
  have q1 := q0.trans p1
  have l1 := pre_len p1
  have c3 := k_spec_Turn (X := X) (id := x1) o1.rows (by have := bm0.1; omega)
  obtain ⟨v4, h4, c4, p4, o4⟩ := x_toPairS (X := X) (hm0.up q1) (by have := bm0.1; unfold lim; omega)
  have q4 := q1.trans p4
  have l4 := pre_len p4
  have c6 := k_impl_Turn (X := X) (id := x1) o4.rows (by have := bm0.1; unfold lim; omega)
  obtain ⟨v7, h7, c7, p7, o7⟩ := x_toPairS (X := X) (hm0.up q4) (by have := bm0.1; unfold lim; omega)
  have o4_7 := o4.up p7
  have q7 := q4.trans p7
  have l7 := pre_len p7
  have c8 := k_eqPairS (X := X) o4_7.rows o7.rows (by have := bm0.1; unfold lim; omega)
  simp only [zc0, hn0, c1, c3, c4, c6, c7, c8, List.prefix_refl, BEq.rfl, p1, p4, p7, go_sem]
  try exact finish_flat rfl q7
end
def ps_FnExactTurn : List (Bool × List CK) := [(false, [.sl [.str, .str]]), (false, [.int .i64])]
theorem law_FnExactTurn (h : Heap) (avs : List Value) (ha : All2 (ArgOk h) ps_FnExactTurn avs) : C T libX n_laws_FnExactTurn avs h = some (.bool true, h) := by
  obtain ⟨v0, r, rfl, k0, ha⟩ := ha.cons_inv
  obtain ⟨v1, r, rfl, k1, ha⟩ := ha.cons_inv
  obtain rfl := ha.nil_inv
  obtain ⟨ml0, hm0, hx0a, hx0b⟩ := k0.cell.pairs_inv
  have hx0 : PrMax ml0 := ⟨hx0a, hx0b⟩
  obtain ⟨x1, rfl, hx1⟩ := k1.cell.int_inv
  exact l_Turn hm0 hx0 hx1
end Go.Proofs.YtjgacjidaeahdaaGreatDoor.Ab
