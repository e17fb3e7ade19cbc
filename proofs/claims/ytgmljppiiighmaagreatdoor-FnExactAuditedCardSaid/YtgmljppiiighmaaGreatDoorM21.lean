/- Joined: K70, Op3, LFnExactAudited. No conditions. -/
import Derived.Test.YtgmljppiiighmaaGreatDoorM20
import Derived.Test.YtgmljppiiighmaaGreatDoorM16
import Derived.Test.YtgmljppiiighmaaGreatDoorM12
import Derived.Test.YtgmljppiiighmaaGreatDoorM4
import Derived.Test.YtgmljppiiighmaaGreatDoorM15
set_option linter.unusedSimpArgs false
set_option linter.unusedVariables false
set_option linter.unnecessarySimpa false
set_option maxHeartbeats 4000000
namespace Go.Proofs.YtgmljppiiighmaaGreatDoor.Ab
open Go.RowKit
theorem b_tf : (true == false) = false := rfl
theorem b_ft : (false == true) = false := rfl
theorem pp_app {r : Nat} : (⟨⟨[112]⟩⟩ : ByteArray) ++ decT r = pT r := by
  unfold decT pT
  rw [show (⟨⟨[112]⟩⟩ : ByteArray) = strOfNums [112] by decide, strOfNums_app]; rfl
open Classical in
theorem ne_s3 {a b : S3} : eqSV [0, 0, 0] true (.agg ⟨[.int .i64 a.x, .int .i64 a.y, .int .i64 a.z]⟩) (.agg ⟨[.int .i64 b.x, .int .i64 b.y, .int .i64 b.z]⟩) = some (.bool (!decide (a = b))) := by
  by_cases h : a = b
  · subst h
    simp [eqSV, eqCells, eqCell]
  · have h' : ¬ (a.x = b.x ∧ a.y = b.y ∧ a.z = b.z) := fun k => h (S3.ext' k.1 k.2.1 k.2.2)
    by_cases h1 : a.x = b.x
    · by_cases h2 : a.y = b.y
      · have h3 : ¬ a.z = b.z := fun k => h' ⟨h1, h2, k⟩
        have b3 : (a.z == b.z) = false := by rw [beq_eq_false_iff_ne]; exact h3
        simp [eqSV, eqCells, eqCell, h, h1, h2, b3]
      · have b2 : (a.y == b.y) = false := by rw [beq_eq_false_iff_ne]; exact h2
        simp [eqSV, eqCells, eqCell, h, h1, b2]
    · have b1 : (a.x == b.x) = false := by rw [beq_eq_false_iff_ne]; exact h1
      simp [eqSV, eqCells, eqCell, h, b1]
section
variable {X : CallF} [LibX X] {h : Heap} {m : List Pr} {mv : Value}
open Classical in
theorem k_impl_Audited (hm : Rows h 2 mv (prsL m)) (hl : m.length ≤ lim) : C T X n_impl_Audited [mv] h = some (.bool (tB (Aud m)), h) := by
  refine C_go t_impl_Audited rfl ?_
  unfold F_impl_Audited
  have c := k_impl_StateOk (X := X) hm hl
  by_cases st : StI cfR m
  · rw [tB_t st] at c
    have hR := rndsN_is m
    have hR6 := st_rnd st hR
    have hAud : tB (Aud m) = tB (∀ r, r < rndsN m → AudR m r) := tB_iff ⟨fun k => k.2, fun k => ⟨st, k⟩⟩
    rw [hAud]
    obtain ⟨R, hRR⟩ : ∃ R, R = rndsN m := ⟨_, rfl⟩
    rw [← hRR] at hR hR6 ⊢
    have h4 := k_impl_roundsOf (X := X) hm hl hR
    rw [show min R 7 = R by omega] at h4
    simp only [c, h4, zeros, fillAt, go_sem]
    refine w_for R (fun n t loc h' => t 0 = mv ∧ t 22 = .int .i64 (R : Int) ∧ t 23 = .int .i64 n ∧ h <+: h' ∧ ∀ r, r < n → AudR m r) ⟨rfl, rfl, rfl, List.prefix_refl _, fun r hr => by omega⟩ ?_
    rintro n t loc h' hn ⟨t0, t22, t23, hp, hall⟩
    simp only [t22, t23, go_sem]
    refine w_open (by simp only [go_sem]; rfl) ?_ ?_ <;> intro hc
    · have hn1 : n < R := by omega
      have hw : IntKind.i64.wrap ((n : Int) + 1) = ((n + 1 : Nat) : Int) := w64 (by omega) (by omega)
      have bad : ¬ AudR m n → tB (∀ r, r < R → AudR m r) = false := fun k => tB_f fun q => k (q n hn1)
      obtain ⟨v5, h5, k5, p5, a5⟩ := k_impl_RoundOf (X := X) (r := (n : Int)) (hm.up hp) hl
      obtain ⟨pv, ew, mw, yw, gw, rfl, o50, o51, o52, o53, o54⟩ := a5.weak
      unfold certV at k5
      have hrin := rin_of st hR hn1
      obtain ⟨hok, hcert, hsz⟩ := rnd_facts hrin
      rw [hok] at k5
      have hmo := hcert.2.1
      have hml := rnd_len (m := m) (r := (n : Int))
      have hel := rnd_elen (m := m) (r := (n : Int))
      have hpl := rnd_plen (m := m) (r := (n : Int))
      have kb := k_impl_BestSums (X := X) (size := (roundC m (n : Int)).size) o51.rows (by unfold lim; omega)
      have ks := k_impl_SumsOf (X := X) (size := (roundC m (n : Int)).size) o51.rows o52.rows hel hml
      unfold bestGV graphV at kb
      unfold sumsV graphV at ks
      obtain ⟨S1, hS1⟩ : ∃ S, S = bestG (roundC m (n : Int)).size (roundC m (n : Int)).es := ⟨_, rfl⟩
      obtain ⟨S2, hS2⟩ : ∃ S, S = sumsW (roundC m (n : Int)).size (roundC m (n : Int)).es (roundC m (n : Int)).m := ⟨_, rfl⟩
      rw [← hS1] at kb
      rw [← hS2] at ks
      have hSum : SumOkR m (n : Int) ↔ S1 = S2 := by unfold SumOkR; rw [hS1, hS2]
      have lnP := o50.rows.lnm
      have hmg := hmo.1
      rw [hsz] at k5 kb ks hmo hmg
      by_cases e12 : S1 = S2
      rotate_left
      · simp only [t0, t22, t23, k5, p5, kb, ks, hmo, hmg, lnP, ne_s3, e12, zeros, fillAt, go_sem]
        rw [bad (fun q => e12 (hSum.1 q.1))]
        exact finish_flat rfl (hp.trans p5)
      simp only [t0, t22, t23, k5, p5, kb, ks, hmo, hmg, lnP, ne_s3, e12, o52.rows.lnm, zeros, fillAt, go_sem]
      have hin0 := hp.trans p5
      obtain ⟨M, hM⟩ : ∃ M, M = (roundC m (n : Int)).m := ⟨_, rfl⟩
      have hrg := fun {i} (h : i < (roundC m (n : Int)).m.length) => rnd_cp (m := m) (r := (n : Int)) h
      have hcl : coupL m (n : Int) = M.map (coupF m (n : Int)) := by unfold coupL; rw [hM]
      rw [← hM] at o52 hml ⊢
      refine w_for M.length (fun i t loc h' => t 0 = mv ∧ t 3 = .int .i64 (n : Int) ∧ t 4 = pv ∧ t 22 = .int .i64 (R : Int) ∧ t 23 = .int .i64 (n : Int) ∧ t 67 = mw ∧ t 68 = .int .i64 (M.length : Int) ∧ t 69 = .int .i64 i ∧ h5 <+: h' ∧ ∃ v, t 11 = v ∧ ∃ ws : List Int, Own h' h5.length h'.length 1 y_int v (ints ws) ∧ ws.length ≤ 2 * i ∧ ∀ x, x ∈ ws ↔ x ∈ metL ((M.take i).map (coupF m (n : Int)))) ⟨rfl, rfl, rfl, rfl, rfl, rfl, rfl, rfl, List.prefix_refl _, _, rfl, [], Own.nil, Nat.le_refl _, fun x => by simp [metL]⟩ ?_
      rintro i t loc h' hi ⟨t0, t3, t4, t22, t23, t67, t68, t69, hp6, v, t11, ws, o, hwl, hws⟩
      simp only [t68, t69, go_sem]
      refine w_open (by simp only [go_sem]; rfl) ?_ ?_ <;> intro hc
      · have hi1 : i < M.length := by omega
        have hw : IntKind.i64.wrap ((i : Int) + 1) = ((i + 1 : Nat) : Int) := w64 (by omega) (by omega)
        have el := cp_el (o52.rows.up hp6) hi1
        have hr := hrg (show i < (roundC m (n : Int)).m.length by rw [← hM]; exact hi1)
        rw [← hM] at hr
        obtain ⟨q, hq⟩ : ∃ q, q = M.getD i c0 := ⟨_, rfl⟩
        have htk : (M.take (i + 1)).map (coupF m (n : Int)) = (M.take i).map (coupF m (n : Int)) ++ [coupF m (n : Int) q] := by rw [take_mapD (d := c0) hi1, hq]
        rw [← hq] at el hr
        obtain ⟨a1, ha1⟩ := Int.eq_ofNat_of_zero_le hr.1.1
        obtain ⟨b1, hb1⟩ := Int.eq_ofNat_of_zero_le hr.2.1
        have ea := int_el (o50.rows.up hp6) (i := a1) (by omega)
        have eb := int_el (o50.rows.up hp6) (i := b1) (by omega)
        have hcf : coupF m (n : Int) q = ⟨(roundP m (n : Int)).getD a1 0, (roundP m (n : Int)).getD b1 0⟩ := by unfold coupF; rw [ha1, hb1]; rfl
        rw [ha1, hb1] at el
        obtain ⟨v2, g2, k2, q2, o2⟩ := k_impl_with (X := X) (n := (roundP m (n : Int)).getD a1 0) o (pre_len hp6) (by unfold lim; omega)
        have l2 := pre_len q2
        rw [Nat.max_eq_right l2] at o2
        have w1 := withL_len (l := ws) (n := (roundP m (n : Int)).getD a1 0)
        obtain ⟨v3, g3, k3, q3, o3⟩ := k_impl_with (X := X) (n := (roundP m (n : Int)).getD b1 0) o2 (by have := pre_len hp6; omega) (by unfold lim; omega)
        have l3 := pre_len q3
        rw [Nat.max_eq_right l3] at o3
        have w2 := withL_len (l := withL ws ((roundP m (n : Int)).getD a1 0)) (n := (roundP m (n : Int)).getD b1 0)
        simp only [t0, t3, t4, t11, t22, t23, t67, t68, t69, el.1, el.2.2.1, ea.1, ea.2, eb.1, eb.2, k2, q2, k3, q3, hw, zeros, fillAt, go_sem]
        refine ⟨hi1, (hp6.trans q2).trans q3, v3, rfl, _, o3, by omega, fun x => ?_⟩
        rw [mem_withL, mem_withL, hws, htk, metL_snoc, hcf]
        simp only [List.mem_append, List.mem_cons, List.not_mem_nil, or_false]
        constructor
        · rintro (k | k | k)
          · exact .inr (.inr k)
          · exact .inr (.inl k)
          · exact .inl k
        · rintro (k | k | k)
          · exact .inr (.inr k)
          · exact .inr (.inl k)
          · exact .inl k
      · have hin : i = M.length := by omega
        subst hin
        rw [List.take_length, ← hcl] at hws
        obtain ⟨iv, h6, k6, p6, oi⟩ := k_impl_Ids (X := X) (hm.up (hin0.trans hp6)) hl
        unfold idsR at oi
        rw [if_pos st] at oi
        obtain ⟨L, hL⟩ : ∃ L, L = idsT m tAll := ⟨_, rfl⟩
        have hl12 : L.length ≤ 12 := by rw [hL]; exact idsT_le
        rw [← hL] at oi
        have lnI := oi.rows.lnm
        rw [natI_len] at lnI
        have ov := o.rows.up p6
        have kd := k_impl_Decimal (X := X) (h := h6) (n := n) (by omega)
        have hds := decT_size (n := n) (k := 1) (by omega) (by omega)
        have z1 : (⟨[112]⟩ : Array UInt8).size + (decT n).size ≤ 9223372036854775807 := by rw [asz]; omega
        simp only [t0, t3, t11, t22, t23, k6, p6, lnI, zeros, fillAt, go_sem]
        refine w_for L.length (fun i t loc h' => h' = h6 ∧ t 0 = mv ∧ t 3 = .int .i64 (n : Int) ∧ t 11 = v ∧ t 22 = .int .i64 (R : Int) ∧ t 23 = .int .i64 (n : Int) ∧ t 88 = iv ∧ t 89 = .int .i64 (L.length : Int) ∧ t 90 = .int .i64 i ∧ ∀ j, j < i → ((getK m (vK (L.getD j 0))).getD noT = pT n ↔ ((L.getD j 0 : Nat) : Int) ∈ metL (coupL m (n : Int)))) ⟨rfl, rfl, rfl, rfl, rfl, rfl, rfl, rfl, rfl, fun j hj => by omega⟩ ?_
        rintro i t loc h' hi ⟨rfl, t0, t3, t11, t22, t23, t88, t89, t90, hj⟩
        simp only [t89, t90, go_sem]
        refine w_open (by simp only [go_sem]; rfl) ?_ ?_ <;> intro hc
        · have hi1 : i < L.length := by omega
          have hw : IntKind.i64.wrap ((i : Int) + 1) = ((i + 1 : Nat) : Int) := w64 (by omega) (by omega)
          have ei := int_el oi.rows (show i < (natI L).length by rw [natI_len]; exact hi1)
          rw [natI_get hi1] at ei
          have hmem : L.getD i 0 ∈ idsT m tAll := by rw [← hL]; exact getD_mem (d := 0) hi1
          have hlt := (idsT_mem.1 hmem).1
          obtain ⟨id, hid⟩ : ∃ id, id = L.getD i 0 := ⟨_, rfl⟩
          rw [← hid] at ei hmem hlt
          have h2 := k_impl_two (X := X) (h := h') (n := id) (by omega)
          have hz := twoT_size (n := id) (by omega)
          have hz1 : (⟨[118]⟩ : Array UInt8).size + (twoT id).size ≤ 9223372036854775807 := by rw [asz]; omega
          have hg := k_impl_get (X := X) (k := vK id) (hm.up ((hin0.trans hp6).trans p6)) hl
          unfold getV at hg
          obtain ⟨w, hww⟩ : ∃ w, w = (getK m (vK id)).getD noT := ⟨_, rfl⟩
          rw [← hww] at hg
          have ch := k_impl_hasInt (X := X) (n := (id : Int)) ov (by unfold lim; omega)
          by_cases g1 : w = pT n
          · have g1' : (w.toList == (pT n).toList) = true := by rw [str_eq]; exact decide_eq_true g1
            by_cases g2 : (id : Int) ∈ ws
            · simp only [t0, t3, t11, t22, t23, t88, t89, t90, ei.1, ei.2, h2, hz1, vK_app, hg, kd, z1, pp_app, g1', ch, g2, b_tf, b_ft, hw, zeros, fillAt, go_sem]
              refine ⟨hi1, fun j hj' => ?_⟩
              by_cases e : j = i
              · rw [e, ← hid, ← hww]; exact ⟨fun _ => (hws _).1 g2, fun _ => g1⟩
              · exact hj j (by omega)
            · simp only [t0, t3, t11, t22, t23, t88, t89, t90, ei.1, ei.2, h2, hz1, vK_app, hg, kd, z1, pp_app, g1', ch, g2, b_tf, b_ft, hw, zeros, fillAt, go_sem]
              rw [bad (fun q => g2 ((hws _).2 ((q.2 id hmem).1 (by rw [← hww]; exact g1))))]
              exact finish_flat rfl ((hin0.trans hp6).trans p6)
          · have g1' : (w.toList == (pT n).toList) = false := by rw [str_eq]; exact decide_eq_false g1
            by_cases g2 : (id : Int) ∈ ws
            · simp only [t0, t3, t11, t22, t23, t88, t89, t90, ei.1, ei.2, h2, hz1, vK_app, hg, kd, z1, pp_app, g1', ch, g2, b_tf, b_ft, hw, zeros, fillAt, go_sem]
              rw [bad (fun q => g1 (by rw [hww]; exact (q.2 id hmem).2 ((hws _).1 g2)))]
              exact finish_flat rfl ((hin0.trans hp6).trans p6)
            · simp only [t0, t3, t11, t22, t23, t88, t89, t90, ei.1, ei.2, h2, hz1, vK_app, hg, kd, z1, pp_app, g1', ch, g2, b_tf, b_ft, hw, zeros, fillAt, go_sem]
              refine ⟨hi1, fun j hj' => ?_⟩
              by_cases e : j = i
              · rw [e, ← hid, ← hww]; exact ⟨fun k => absurd k g1, fun k => absurd ((hws _).2 k) g2⟩
              · exact hj j (by omega)
        · have hin : i = L.length := by omega
          subst hin
          simp only [t0, t22, t23, hw, go_sem]
          refine ⟨hn1, (hin0.trans hp6).trans p6, fun r hr => ?_⟩
          by_cases e : r = n
          · subst e
            refine ⟨hSum.2 e12, fun id hid => ?_⟩
            rw [← hL] at hid
            obtain ⟨j, hj1, rfl⟩ := mem_getD (d := 0) hid
            exact hj j hj1
          · exact hall r (by omega)
    · have hin : n = R := by omega
      subst hin
      simp only [go_sem]
      rw [tB_t hall]
      exact finish_flat rfl hp
  · have k : ¬ Aud m := fun q => st q.1
    rw [tB_f st] at c
    rw [tB_f k]
    simp only [c, go_sem]
end
section
variable {X : CallF} {h : Heap} {m : List Pr} {mv : Value}
open Classical in
theorem k_spec_Audited (hm : Rows h 2 mv (prsL m)) (hl : m.length ≤ 1048576) : C T X n_spec_Audited [mv] h = some (.bool (tB (Aud m)), h) := by
  have hl' : m.length ≤ lim := by unfold lim; omega
  refine C_go t_spec_Audited rfl ?_
  unfold F_spec_Audited
  have c := k_spec_StateOk (X := X) hm hl'
  by_cases st : StI cfR m
  · rw [tB_t st] at c
    have hR := rndsN_is m
    have hR6 := st_rnd st hR
    have hml0 := st.1.1
    have hAud : tB (Aud m) = tB (∀ r, r < rndsN m → AudR m r) := tB_iff ⟨fun k => k.2, fun k => ⟨st, k⟩⟩
    rw [hAud]
    obtain ⟨R, hRR⟩ : ∃ R, R = rndsN m := ⟨_, rfl⟩
    rw [← hRR] at hR hR6 ⊢
    simp only [c, zeros, fillAt, go_sem]
    refine w_for R (fun n t loc h' => t 0 = mv ∧ t 3 = .int .i64 n ∧ h <+: h' ∧ ∀ r, r < n → AudR m r) ⟨rfl, rfl, List.prefix_refl _, fun r hr => by omega⟩ ?_
    rintro n t loc h' hn ⟨t0, t3, hp, hall⟩
    have h4 := k_spec_l13Rounds (X := X) (hm.up hp) hl hR
    simp only [t0, t3, h4, go_sem]
    refine w_open (by simp only [go_sem]; rfl) ?_ ?_ <;> intro hc
    · have hn1 : n < R := by omega
      have hw : IntKind.i64.wrap ((n : Int) + 1) = ((n + 1 : Nat) : Int) := w64 (by omega) (by omega)
      have bad : ¬ AudR m n → tB (∀ r, r < R → AudR m r) = false := fun k => tB_f fun q => k (q n hn1)
      have hsame := aud_same st hR hn1
      obtain ⟨v5, h5, k5, p5, a5⟩ := k_spec_RoundOf (X := X) (r := (n : Int)) (hm.up hp) hl
      obtain ⟨pv, ew, mw, yw, gw, rfl, o50, o51, o52, o53, o54⟩ := a5
      unfold certV at k5
      have hrin := rin_of st hR hn1
      obtain ⟨hok, hcert, hsz⟩ := rnd_facts hrin
      rw [hok] at k5
      have hmo := hcert.2.1
      have hml := rnd_len (m := m) (r := (n : Int))
      have hel := rnd_elen (m := m) (r := (n : Int))
      have hpl := rnd_plen (m := m) (r := (n : Int))
      have kb := k_spec_BestSums (X := X) (size := (roundC m (n : Int)).size) o51.rows (by unfold lim; omega)
      have ks := k_spec_SumsOf (X := X) (size := (roundC m (n : Int)).size) o51.rows o52.rows hel hml
      unfold bestGV graphV at kb
      unfold sumsV graphV at ks
      obtain ⟨S1, hS1⟩ : ∃ S, S = bestG (roundC m (n : Int)).size (roundC m (n : Int)).es := ⟨_, rfl⟩
      obtain ⟨S2, hS2⟩ : ∃ S, S = sumsW (roundC m (n : Int)).size (roundC m (n : Int)).es (roundC m (n : Int)).m := ⟨_, rfl⟩
      rw [← hS1] at kb
      rw [← hS2] at ks
      have hSum : SumOkR m (n : Int) ↔ S2 = S1 := by unfold SumOkR; rw [hS1, hS2]; exact eq_comm
      have hmg := hmo.1
      rw [hsz] at k5 kb ks hmo hmg
      have hin0 := hp.trans p5
      obtain ⟨P, hP⟩ : ∃ P, P = roundP m (n : Int) := ⟨_, rfl⟩
      have hPr : ∀ x ∈ P, 0 ≤ x ∧ x < 256 := by rw [hP]; exact fun x hx => rnd_prng hx
      have hA1 : ∀ i, AudP m n i ↔ ((i : Int) ∈ metL (roundC m (n : Int)).m ↔ (getK m (vK (P.getD i 0).toNat)).getD noT = pT n) := fun i => by unfold AudP; rw [hP]
      obtain ⟨M, hM⟩ : ∃ M, M = (roundC m (n : Int)).m := ⟨_, rfl⟩
      unfold AudS at hsame
      rw [← hP] at o50 k5 kb ks hmo hmg hpl hsame
      rw [← hM] at o52 hml ks hmo hA1
      have lnP := o50.rows.lnm
      by_cases e12 : S2 = S1
      rotate_left
      · simp only [t0, t3, k5, p5, kb, ks, hmo, hmg, lnP, ne_s3, e12, zeros, fillAt, go_sem]
        rw [bad (fun q => e12 (hSum.1 q.1))]
        exact finish_flat rfl (hp.trans p5)
      simp only [t0, t3, k5, p5, kb, ks, hmo, hmg, lnP, ne_s3, e12, zeros, fillAt, go_sem]
      refine w_for P.length (fun i t loc h' => h' = h5 ∧ t 0 = mv ∧ t 3 = .int .i64 (n : Int) ∧ t 4 = pv ∧ loc 5 = some [.int .i64 (P.length : Int), ew, mw, yw, gw] ∧ t 11 = .int .i64 i ∧ ∀ j, j < i → AudP m n j) ⟨rfl, rfl, rfl, rfl, rfl, rfl, fun j hj => by omega⟩ ?_
      rintro i t loc h' hi ⟨rfl, t0, t3, t4, l5, t11, hj⟩
      simp only [t4, t11, lnP, go_sem]
      refine w_open (by simp only [go_sem]; rfl) ?_ ?_ <;> intro hc
      · have hi1 : i < P.length := by omega
        have hw : IntKind.i64.wrap ((i : Int) + 1) = ((i + 1 : Nat) : Int) := w64 (by omega) (by omega)
        have ei := int_el o50.rows hi1
        have hpr := hPr _ (getD_mem (d := 0) hi1)
        have hAi := hA1 i
        obtain ⟨x, hx⟩ : ∃ x, x = P.getD i 0 := ⟨_, rfl⟩
        rw [← hx] at ei hpr hAi
        obtain ⟨id, rfl⟩ := Int.eq_ofNat_of_zero_le hpr.1
        rw [Int.toNat_natCast] at hAi
        simp only [t0, t3, t4, t11, l5, go_sem]
        refine w_for M.length (fun k t loc h'' => h'' = h' ∧ t 0 = mv ∧ t 3 = .int .i64 (n : Int) ∧ t 4 = pv ∧ loc 5 = some [.int .i64 (P.length : Int), ew, mw, yw, gw] ∧ t 11 = .int .i64 (i : Int) ∧ t 13 = .int .i64 k ∧ t 12 = .bool (decide ((i : Int) ∈ metL (M.take k)))) ⟨rfl, rfl, rfl, rfl, rfl, rfl, rfl, by simp [metL, upd]⟩ ?_
        rintro k t loc h'' hk ⟨rfl, t0, t3, t4, l5, t11, t13, t12⟩
        simp only [t13, l5, o52.rows.lnm, go_sem]
        refine w_open (by simp only [go_sem]; rfl) ?_ ?_ <;> intro hc
        · have hk1 : k < M.length := by omega
          have hw : IntKind.i64.wrap ((k : Int) + 1) = ((k + 1 : Nat) : Int) := w64 (by omega) (by omega)
          have el := cp_el o52.rows hk1
          have hme := metL_snoc (m := M.take k) (c := M.getD k c0)
          rw [← take_snocD' (d := c0) hk1] at hme
          obtain ⟨q, hq⟩ : ∃ q, q = M.getD k c0 := ⟨_, rfl⟩
          rw [← hq] at el hme
          by_cases g0 : (i : Int) ∈ metL (M.take k)
          · have gn : (i : Int) ∈ metL (M.take (k + 1)) := by rw [hme]; exact List.mem_append_left _ g0
            simp only [t0, t3, t4, t11, t12, t13, l5, el.1, el.2.1, el.2.2.2.1, el.2.2.2.2, g0, hw, zeros, fillAt, go_sem]
            exact ⟨hk1, by simp [gn]⟩
          · by_cases g1 : q.a = (i : Int)
            · have gn : (i : Int) ∈ metL (M.take (k + 1)) := by rw [hme]; exact List.mem_append_right _ (by simp [g1])
              simp only [t0, t3, t4, t11, t12, t13, l5, el.1, el.2.1, el.2.2.2.1, el.2.2.2.2, g0, g1, hw, zeros, fillAt, go_sem]
              exact ⟨hk1, by simp [gn]⟩
            · by_cases g2 : q.b = (i : Int)
              · have gn : (i : Int) ∈ metL (M.take (k + 1)) := by rw [hme]; exact List.mem_append_right _ (by simp [g2])
                simp only [t0, t3, t4, t11, t12, t13, l5, el.1, el.2.1, el.2.2.2.1, el.2.2.2.2, g0, g1, g2, hw, zeros, fillAt, go_sem]
                exact ⟨hk1, by simp [gn]⟩
              · have gn : ¬ (i : Int) ∈ metL (M.take (k + 1)) := by
                  rw [hme]
                  simp only [List.mem_append, List.mem_cons, List.not_mem_nil, or_false, not_or]
                  exact ⟨g0, fun e => g1 e.symm, fun e => g2 e.symm⟩
                simp only [t0, t3, t4, t11, t12, t13, l5, el.1, el.2.1, el.2.2.2.1, el.2.2.2.2, g0, g1, g2, hw, zeros, fillAt, go_sem]
                exact ⟨hk1, by simp [gn]⟩
        · have hin : k = M.length := by omega
          subst hin
          rw [List.take_length] at t12
          have h2 := k_spec_l13Two (X := X) (h := h'') (n := id) (by omega)
          have hz := twoT_size (n := id) (by omega)
          have hz1 : (⟨[118]⟩ : Array UInt8).size + (twoT id).size ≤ 9223372036854775807 := by rw [asz]; omega
          have hg := k_spec_l13Get (X := X) (k := vK id) (hm.up hin0) hl'
          unfold getV at hg
          obtain ⟨w, hww⟩ : ∃ w, w = (getK m (vK id)).getD noT := ⟨_, rfl⟩
          rw [← hww] at hg hAi
          have kd := k_spec_Decimal (X := X) (h := h'') (n := n) (by omega)
          have hds := decT_size (n := n) (k := 1) (by omega) (by omega)
          have z1 : (⟨[112]⟩ : Array UInt8).size + (decT n).size ≤ 9223372036854775807 := by rw [asz]; omega
          have bad2 : ¬ AudP m n i → tB (∀ r, r < R → AudR m r) = false := fun k => bad fun q => k ((hsame.1 q.2).1 i hi1)
          by_cases g1 : w = pT n
          · have g1' : (w.toList == (pT n).toList) = true := by rw [str_eq]; exact decide_eq_true g1
            by_cases g2 : (i : Int) ∈ metL M
            · simp only [t0, t3, t4, t11, t12, l5, ei.1, ei.2, h2, hz1, vK_app, hg, kd, z1, pp_app, g1', g2, b_tf, b_ft, hw, zeros, fillAt, go_sem]
              refine ⟨hi1, fun j hj' => ?_⟩
              by_cases e : j = i
              · rw [e]; exact hAi.2 ⟨fun _ => g1, fun _ => g2⟩
              · exact hj j (by omega)
            · simp only [t0, t3, t4, t11, t12, l5, ei.1, ei.2, h2, hz1, vK_app, hg, kd, z1, pp_app, g1', g2, b_tf, b_ft, hw, zeros, fillAt, go_sem]
              rw [bad2 (fun q => g2 ((hAi.1 q).2 g1))]
              exact finish_flat rfl hin0
          · have g1' : (w.toList == (pT n).toList) = false := by rw [str_eq]; exact decide_eq_false g1
            by_cases g2 : (i : Int) ∈ metL M
            · simp only [t0, t3, t4, t11, t12, l5, ei.1, ei.2, h2, hz1, vK_app, hg, kd, z1, pp_app, g1', g2, b_tf, b_ft, hw, zeros, fillAt, go_sem]
              rw [bad2 (fun q => g1 ((hAi.1 q).1 g2))]
              exact finish_flat rfl hin0
            · simp only [t0, t3, t4, t11, t12, l5, ei.1, ei.2, h2, hz1, vK_app, hg, kd, z1, pp_app, g1', g2, b_tf, b_ft, hw, zeros, fillAt, go_sem]
              refine ⟨hi1, fun j hj' => ?_⟩
              by_cases e : j = i
              · rw [e]; exact hAi.2 ⟨fun k => absurd k g2, fun k => absurd k g1⟩
              · exact hj j (by omega)
      · have hin : i = P.length := by omega
        subst hin
        have kd := k_spec_Decimal (X := X) (h := h') (n := n) (by omega)
        have hds := decT_size (n := n) (k := 1) (by omega) (by omega)
        have z1 : (⟨[112]⟩ : Array UInt8).size + (decT n).size ≤ 9223372036854775807 := by rw [asz]; omega
        obtain ⟨iv, h6, k6, p6, oi⟩ := k_spec_l13Ids (X := X) (f := pT n) (hm.up hin0) (by omega) (map_k st.1)
        have hfun : (fun v : ByteArray => decide (pT n = noT) || decide (v = pT n)) = fun v => decide (v = pT n) := by
          funext v
          have : ¬ pT n = noT := fun e => pT_ne e.symm
          simp [this]
        rw [hfun, idsM_st st hR] at oi
        obtain ⟨L, hL⟩ : ∃ L, L = idsT m (fun v => decide (v = pT n)) := ⟨_, rfl⟩
        have hl12 : L.length ≤ 12 := by rw [hL]; exact idsT_le
        rw [← hL] at oi hsame
        have lnI := oi.rows.lnm
        rw [natI_len] at lnI
        have ov := o50.rows.up p6
        simp only [t0, t3, t4, kd, z1, pp_app, k6, p6, zeros, fillAt, go_sem]
        refine w_for L.length (fun i t loc h' => h' = h6 ∧ t 0 = mv ∧ t 3 = .int .i64 (n : Int) ∧ t 4 = pv ∧ t 16 = iv ∧ t 17 = .int .i64 i ∧ ∀ j, j < i → ((L.getD j 0 : Nat) : Int) ∈ P) ⟨rfl, rfl, rfl, rfl, rfl, rfl, fun j hj => by omega⟩ ?_
        rintro i t loc h' hi ⟨rfl, t0, t3, t4, t16, t17, hq⟩
        simp only [t16, t17, lnI, go_sem]
        refine w_open (by simp only [go_sem]; rfl) ?_ ?_ <;> intro hc
        · have hi1 : i < L.length := by omega
          have hw : IntKind.i64.wrap ((i : Int) + 1) = ((i + 1 : Nat) : Int) := w64 (by omega) (by omega)
          have ei := int_el oi.rows (show i < (natI L).length by rw [natI_len]; exact hi1)
          rw [natI_get hi1] at ei
          have hmem := getD_mem (d := 0) hi1
          have ch := k_spec_l03In (X := X) (n := ((L.getD i 0 : Nat) : Int)) ov (by unfold lim; omega)
          obtain ⟨id, hid⟩ : ∃ id, id = L.getD i 0 := ⟨_, rfl⟩
          rw [← hid] at ei ch hmem
          by_cases g : (id : Int) ∈ P
          · simp only [t0, t3, t4, t16, t17, ei.1, ei.2, ch, g, hw, zeros, fillAt, go_sem]
            refine ⟨hi1, fun j hj' => ?_⟩
            by_cases e : j = i
            · rw [e, ← hid]; exact g
            · exact hq j (by omega)
          · simp only [t0, t3, t4, t16, t17, ei.1, ei.2, ch, g, hw, zeros, fillAt, go_sem]
            rw [bad (fun q => g ((hsame.1 q.2).2 id hmem))]
            exact finish_flat rfl (hin0.trans p6)
        · have hin : i = L.length := by omega
          subst hin
          simp only [t0, t3, hw, go_sem]
          refine ⟨hn1, hin0.trans p6, fun r hr => ?_⟩
          by_cases e : r = n
          · subst e
            refine ⟨hSum.2 e12, hsame.2 ⟨hj, fun id hid => ?_⟩⟩
            obtain ⟨j, hj1, rfl⟩ := mem_getD (d := 0) hid
            exact hq j hj1
          · exact hall r (by omega)
    · have hin : n = R := by omega
      subst hin
      simp only [go_sem]
      rw [tB_t hall]
      exact finish_flat rfl hp
  · have k : ¬ Aud m := fun q => st q.1
    rw [tB_f st] at c
    rw [tB_f k]
    simp only [c, go_sem]
end
end Go.Proofs.YtgmljppiiighmaaGreatDoor.Ab
set_option linter.unusedSimpArgs false
set_option linter.unusedVariables false
set_option linter.unnecessarySimpa false
set_option maxHeartbeats 4000000
namespace Go.Proofs.YtgmljppiiighmaaGreatDoor.Ab
open Go.RowKit
section
variable {h : Heap} {v : Value}
/-- A list of edges. -/
theorem Shape.edges_inv (s : Shape h (.sl [.int .i64, .int .i64, .int .i64, .int .i64, .int .i64]) v) : ∃ l : List E, Rows h 5 v (edges l) ∧ l.length ≤ maxLen ∧ ∀ e ∈ l, I64 e.a ∧ I64 e.b ∧ I64 e.w1 ∧ I64 e.w2 ∧ I64 e.w3 := by
  obtain ⟨rows, hr, hm, hk⟩ := s.sl_inv
  obtain ⟨l, rfl, hl⟩ := rows_map (f := edgeR) (Q := fun e => I64 e.a ∧ I64 e.b ∧ I64 e.w1 ∧ I64 e.w2 ∧ I64 e.w3) (rows := rows) (fun r hrm => by
    obtain ⟨x, r', rfl, hx, h2⟩ := (hk r hrm).cons_inv
    obtain ⟨y, r', rfl, hy, h2⟩ := h2.cons_inv
    obtain ⟨z, r', rfl, hz, h2⟩ := h2.cons_inv
    obtain ⟨u, r', rfl, hu, h2⟩ := h2.cons_inv
    obtain ⟨w, r', rfl, hw, h2⟩ := h2.cons_inv
    obtain rfl := h2.nil_inv
    obtain ⟨a, rfl, ha⟩ := hx.int_inv
    obtain ⟨b, rfl, hb⟩ := hy.int_inv
    obtain ⟨c, rfl, hc⟩ := hz.int_inv
    obtain ⟨d, rfl, hd⟩ := hu.int_inv
    obtain ⟨e, rfl, he⟩ := hw.int_inv
    exact ⟨⟨a, b, c, d, e⟩, rfl, ha, hb, hc, hd, he⟩)
  exact ⟨l, hr, by simpa using hm, hl⟩
theorem Shape.pairs_inv (s : Shape h (.sl [.str, .str]) v) : ∃ l : List Pr, Rows h 2 v (prsL l) ∧ l.length ≤ maxLen ∧ ∀ e ∈ l, e.k.size ≤ maxLen ∧ e.v.size ≤ maxLen := by
  obtain ⟨rows, hr, hm, hk⟩ := s.sl_inv
  obtain ⟨l, rfl, hl⟩ := rows_map (f := prR) (Q := fun e => e.k.size ≤ maxLen ∧ e.v.size ≤ maxLen) (rows := rows) (fun r hrm => by
    obtain ⟨x, r', rfl, hx, h2⟩ := (hk r hrm).cons_inv
    obtain ⟨y, r', rfl, hy, h2⟩ := h2.cons_inv
    obtain rfl := h2.nil_inv
    obtain ⟨a, rfl, ha⟩ := hx.str_inv
    obtain ⟨b, rfl, hb⟩ := hy.str_inv
    exact ⟨⟨a, b⟩, rfl, ha, hb⟩)
  exact ⟨l, hr, by simpa using hm, hl⟩
theorem ArgOk.graph (a : ArgOk h (true, [.int .i64, .sl [.int .i64, .int .i64, .int .i64, .int .i64, .int .i64]]) v) : ∃ size ev es, v = graphV size ev ∧ I64 size ∧ Rows h 5 ev (edges es) ∧ es.length ≤ maxLen := by
  obtain ⟨acs, k, rfl⟩ := a.row
  obtain ⟨v0, r, rfl, k0, k⟩ := k.cons_inv
  obtain ⟨v1, r, rfl, k1, k⟩ := k.cons_inv
  obtain rfl := k.nil_inv
  obtain ⟨n, rfl, hn⟩ := k0.int_inv
  obtain ⟨es, he, hm, _⟩ := k1.edges_inv
  exact ⟨n, v1, es, rfl, hn, he, hm⟩
def AqOk (x : Aq) : Prop := I64 x.op ∧ I64 x.a ∧ I64 x.b ∧ I64 x.w1 ∧ I64 x.w2 ∧ I64 x.w3
theorem ArgOk.ask (a : ArgOk h (true, [.int .i64, .int .i64, .int .i64, .int .i64, .int .i64, .int .i64]) v) : ∃ x : Aq, v = .agg ⟨aqR x⟩ ∧ AqOk x := by
  obtain ⟨acs, k, rfl⟩ := a.row
  obtain ⟨v0, r, rfl, k0, k⟩ := k.cons_inv
  obtain ⟨v1, r, rfl, k1, k⟩ := k.cons_inv
  obtain ⟨v2, r, rfl, k2, k⟩ := k.cons_inv
  obtain ⟨v3, r, rfl, k3, k⟩ := k.cons_inv
  obtain ⟨v4, r, rfl, k4, k⟩ := k.cons_inv
  obtain ⟨v5, r, rfl, k5, k⟩ := k.cons_inv
  obtain rfl := k.nil_inv
  obtain ⟨n0, rfl, h0⟩ := k0.int_inv
  obtain ⟨n1, rfl, h1⟩ := k1.int_inv
  obtain ⟨n2, rfl, h2⟩ := k2.int_inv
  obtain ⟨n3, rfl, h3⟩ := k3.int_inv
  obtain ⟨n4, rfl, h4⟩ := k4.int_inv
  obtain ⟨n5, rfl, h5⟩ := k5.int_inv
  exact ⟨⟨n0, n1, n2, n3, n4, n5⟩, rfl, h0, h1, h2, h3, h4, h5⟩
end
end Go.Proofs.YtgmljppiiighmaaGreatDoor.Ab
set_option linter.unusedSimpArgs false
set_option linter.unusedVariables false
set_option linter.unnecessarySimpa false
set_option maxHeartbeats 4000000
namespace Go.Proofs.YtgmljppiiighmaaGreatDoor.Ab
open Go.RowKit
section
variable {X : CallF} [LibX X] {h : Heap} {mv0 : Value} {ml0 : List Pr}
open Classical in
theorem l_Audited (hm0 : Rows h 2 mv0 (prsL ml0)) (hx0 : PrMax ml0) : C T X n_laws_FnExactAudited [mv0] h = some (.bool true, h) := by
  refine C_go t_laws_FnExactAudited rfl ?_
  unfold F_laws_FnExactAudited
  obtain ⟨n0, zc0, zb0, zd0⟩ := z_szPairS (X := X) hm0 hx0 (n := 1048576) (by omega) (by omega)
  by_cases hn0 : n0 < 0
  · simp only [zc0, hn0, go_sem]
  have bm0 : PrBnd ml0 := zd0 (by omega)
  have q0 : h <+: h := List.prefix_refl h
  obtain ⟨v1, h1, c1, p1, o1⟩ := x_toPairS (X := X) (hm0.up q0) (by have := bm0.1; unfold lim; omega)
  have q1 := q0.trans p1
  have l1 := pre_len p1
  have c2 := k_spec_Audited (X := X) o1.rows (by have := bm0.1; omega)
  obtain ⟨v3, h3, c3, p3, o3⟩ := x_toPairS (X := X) (hm0.up q1) (by have := bm0.1; unfold lim; omega)
  have q3 := q1.trans p3
  have l3 := pre_len p3
  have c4 := k_impl_Audited (X := X) o3.rows (by have := bm0.1; unfold lim; omega)
  obtain ⟨v5, h5, c5, p5, o5⟩ := x_toPairS (X := X) (hm0.up q3) (by have := bm0.1; unfold lim; omega)
  have o3_5 := o3.up p5
  have q5 := q3.trans p5
  have l5 := pre_len p5
  have c6 := k_eqPairS (X := X) o3_5.rows o5.rows (by have := bm0.1; unfold lim; omega)
  simp only [zc0, hn0, c1, c2, c3, c4, c5, c6, List.prefix_refl, BEq.rfl, p1, p3, p5, go_sem]
  try exact finish_flat rfl q5
end
def ps_FnExactAudited : List (Bool × List CK) := [(false, [.sl [.str, .str]])]
theorem law_FnExactAudited (h : Heap) (avs : List Value) (ha : All2 (ArgOk h) ps_FnExactAudited avs) : C T libX n_laws_FnExactAudited avs h = some (.bool true, h) := by
  obtain ⟨v0, r, rfl, k0, ha⟩ := ha.cons_inv
  obtain rfl := ha.nil_inv
  obtain ⟨ml0, hm0, hx0a, hx0b⟩ := k0.cell.pairs_inv
  have hx0 : PrMax ml0 := ⟨hx0a, hx0b⟩
  exact l_Audited hm0 hx0
end Go.Proofs.YtgmljppiiighmaaGreatDoor.Ab
