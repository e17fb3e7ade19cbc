/- Joined: K31, LFnBlocks. No conditions. -/
import Derived.Test.YtafhipglhnfgnaaM18
import Derived.Test.YtafhipglhnfgnaaM10
import Derived.Test.YtafhipglhnfgnaaM17
set_option linter.unusedSimpArgs false
set_option linter.unusedVariables false
set_option linter.unnecessarySimpa false
set_option maxHeartbeats 4000000
namespace Go.Proofs.Ytafhipglhnfgnaa.Ab
open Go.RowKit
def cellM (h : Heap) (c : Nat) : Heap := h ++ [⟨[.int .i64 (c : Int)], 1, y_int, true⟩]
theorem cellM_len {h : Heap} {c : Nat} : (cellM h c).length = h.length + 1 := by simp [cellM]
theorem cellM_up {h : Heap} {c : Nat} : h <+: cellM h c := List.prefix_append _ _
theorem cellM_ld {h : Heap} {c : Nat} : ldC (cellM h c) (.pointer (some ⟨h.length, 0, some 1⟩)) 1 = some [.int .i64 (c : Int)] := by
  simp [ldC, cellM]
theorem cellM_st {h : Heap} {c d : Nat} : stC (cellM h c) (.pointer (some ⟨h.length, 0, some 1⟩)) [.int .i64 (d : Int)] = some (cellM h d) := by
  simp [stC, cellM, putAt]
def tellV (h : Heap) : Value := .func (.func n_impl_MostCouples_1) ⟨[]⟩ ⟨[.pointer (some ⟨h.length, 0, some 1⟩)]⟩
section
variable {X : CallF} {h : Heap} {ev : Value} {es : List E} {size : Int}
theorem k_impl_MostCouples_1 {a b d : Value} (n c : Nat) : C T X n_impl_MostCouples_1 [.agg ⟨[a, b, d]⟩, .int .i64 (n : Int), .pointer (some ⟨h.length, 0, some 1⟩)] (cellM h c) = some (.tuple ⟨[]⟩, cellM h (max c n)) := by
  suffices hs : ∃ v hh, C T X n_impl_MostCouples_1 [.agg ⟨[a, b, d]⟩, .int .i64 (n : Int), .pointer (some ⟨h.length, 0, some 1⟩)] (cellM h c) = some (v, hh) ∧ v = .tuple ⟨[]⟩ ∧ hh = cellM h (max c n) by
    obtain ⟨v, hh, c1, rfl, rfl⟩ := hs; exact c1
  refine C_ex t_impl_MostCouples_1 rfl ?_; unfold F_impl_MostCouples_1
  have e : (if (c : Int) < (n : Int) then (n : Int) else (c : Int)) = ((max c n : Nat) : Int) := by split <;> omega
  simp only [cellM_ld, e, cellM_st, go_sem]
  rw [finish_room (by rw [cellM_len, cellM_len])]
  exact ⟨rfl, rfl⟩
theorem k_impl_Sums_plus {a b c x y z p q : Int} : C T X n_impl_Sums_plus [.agg ⟨[.int .i64 a, .int .i64 b, .int .i64 c]⟩, .agg ⟨[.int .i64 p, .int .i64 q, .int .i64 x, .int .i64 y, .int .i64 z]⟩] h = some (.agg ⟨[.int .i64 (IntKind.i64.wrap (a + x)), .int .i64 (IntKind.i64.wrap (b + y)), .int .i64 (IntKind.i64.wrap (c + z))]⟩, h) := by
  refine C_go t_impl_Sums_plus rfl ?_; unfold F_impl_Sums_plus; simp only [go_sem]
theorem k_impl_every (he : Rows h 5 ev (edges es)) (hl : es.length ≤ lim) (hE : ∀ e ∈ es, EOk 9 e) : ∀ (m at' x : Nat) (u : List Int) (a b d : Int) (sz c : Nat), at' + m = es.length → Tk x u → sz ≤ at' →
    C T X n_impl_every [graphV size ev, .int .i64 (at' : Int), .int .i64 (x : Int), .agg ⟨[.int .i64 a, .int .i64 b, .int .i64 d]⟩, .int .i64 (sz : Int), tellV h] (cellM h c) = some (.tuple ⟨[]⟩, cellM h (max c (sz + mm (es.drop at') u))) := by
  unfold lim at hl; intro m
  induction m with
  | zero =>
    intro i x u a b d sz c hi hx hsz
    suffices hs : ∃ v hh, C T X n_impl_every [graphV size ev, .int .i64 (i : Int), .int .i64 (x : Int), .agg ⟨[.int .i64 a, .int .i64 b, .int .i64 d]⟩, .int .i64 (sz : Int), tellV h] (cellM h c) = some (v, hh) ∧ v = .tuple ⟨[]⟩ ∧ hh = cellM h (max c (sz + mm (es.drop i) u)) by
      obtain ⟨v, hh, c1, rfl, rfl⟩ := hs; exact c1
    refine C_ex t_impl_every rfl ?_; unfold F_impl_every graphV tellV
    have hi' : (i : Int) = (es.length : Int) := by omega
    have cm := k_impl_MostCouples_1 (X := X) (h := h) (a := .int .i64 a) (b := .int .i64 b) (d := .int .i64 d) sz c; simp only [(he.up cellM_up).lnm, hi', fnC, cm, go_sem]
    rw [finish_room (by rw [cellM_len, cellM_len])]
    have e : es.drop i = [] := List.drop_of_length_le (by omega)
    rw [e]; exact ⟨rfl, rfl⟩
  | succ m ih =>
    intro i x u a b d sz c hi hx hsz
    suffices hs : ∃ v hh, C T X n_impl_every [graphV size ev, .int .i64 (i : Int), .int .i64 (x : Int), .agg ⟨[.int .i64 a, .int .i64 b, .int .i64 d]⟩, .int .i64 (sz : Int), tellV h] (cellM h c) = some (v, hh) ∧ v = .tuple ⟨[]⟩ ∧ hh = cellM h (max c (sz + mm (es.drop i) u)) by
      obtain ⟨v, hh, c1, rfl, rfl⟩ := hs; exact c1
    refine C_ex t_impl_every rfl ?_
    have hi1 : i < es.length := by omega
    have hi' : ¬ (i : Int) = (es.length : Int) := by omega
    have ih1 := ih (i + 1) x u a b d sz c (by omega) hx (by omega)
    obtain ⟨c', hc'⟩ : ∃ c', c' = max c (sz + mm (es.drop (i + 1)) u) := ⟨_, rfl⟩; rw [← hc'] at ih1; have el := edge_el (he.up (cellM_up (c := c'))) hi1; have g := hE _ (getD_mem (d := e0) hi1)
    have hdrop : es.drop i = es.getD i e0 :: es.drop (i + 1) := by
      rw [List.getD_eq_getElem?_getD, List.getElem?_eq_getElem hi1, Option.getD_some, List.drop_eq_getElem_cons hi1]
    rw [hdrop]; unfold mm; unfold EOk at g
    obtain ⟨p, hp⟩ : ∃ p : Nat, (es.getD i e0).a = p := ⟨(es.getD i e0).a.toNat, by omega⟩
    obtain ⟨q, hq⟩ : ∃ q : Nat, (es.getD i e0).b = q := ⟨(es.getD i e0).b.toNat, by omega⟩
    rw [hp, hq] at el g ⊢
    have hp0 : ¬ (p : Int) < 0 := by omega
    have hq0 : ¬ (q : Int) < 0 := by omega
    have ha := andN (x := x) (y := 2 ^ p ||| 2 ^ q) (by have := hx.1; omega) (by have := both_lt (a := p) (b := q) (by omega) (by omega); omega)
    have ho := orN (two_lt (a := p) (by omega)) (two_lt (a := q) (by omega))
    have ho2 := orN hx.1 (both_lt (a := p) (b := q) (by omega) (by omega))
    have hf := tk_free hx (a := p) (b := q) (by omega) (by omega)
    have ht := tk_take hx (a := p) (b := q) (by omega) (by omega)
    have hs1 := shl_one (n := p) (by omega)
    have hs2 := shl_one (n := q) (by omega)
    have hw1 : IntKind.i64.wrap ((i : Int) + 1) = ((i + 1 : Nat) : Int) := w64 (by omega) (by omega)
    have hw2 : IntKind.i64.wrap ((sz : Int) + 1) = ((sz + 1 : Nat) : Int) := w64 (by omega) (by omega)
    unfold F_impl_every graphV; unfold graphV at ih1
    by_cases hu : ((p : Int) ∈ u ∨ (q : Int) ∈ u)
    · rw [if_pos hu]
      have hz : ¬ (((x &&& (2 ^ p ||| 2 ^ q) : Nat)) : Int) = 0 := by
        have : ¬ (x &&& (2 ^ p ||| 2 ^ q)) = 0 := fun k => hf.1 k hu
        omega
      simp only [(he.up cellM_up).lnm, hi', ih1, el.1, el.2.2.1, hp0, hq0, Int.toNat_natCast, hs1, hs2, ha, ho, ho2, hw1, hz, go_sem]
      rw [finish_room (by rw [cellM_len, cellM_len])]
      exact ⟨rfl, by rw [hc']⟩
    · rw [if_neg hu]
      have hz : (((x &&& (2 ^ p ||| 2 ^ q) : Nat)) : Int) = 0 := by
        rw [hf.2 hu]; rfl
      have ih2 := ih (i + 1) (x ||| (2 ^ p ||| 2 ^ q)) (p :: q :: u) (IntKind.i64.wrap (a + (es.getD i e0).w1)) (IntKind.i64.wrap (b + (es.getD i e0).w2)) (IntKind.i64.wrap (d + (es.getD i e0).w3)) (sz + 1) c' (by omega) ht (by omega)
      unfold graphV at ih2; simp only [(he.up cellM_up).lnm, hi', ih1, el.1, el.2.2.1, hp0, hq0, Int.toNat_natCast, hs1, hs2, ha, ho, ho2, hw1, hz, k_impl_Sums_plus, hw2, ih2, go_sem]
      rw [finish_room (by rw [cellM_len, cellM_len])]
      exact ⟨rfl, congrArg (cellM h) (by omega)⟩
open Classical in
noncomputable def mostC (size : Int) (es : List E) : Int := if GOk size es then ((mm es [] : Nat) : Int) else -1
theorem gok_all {size : Int} {es : List E} (g : GOk size es) : ∀ e ∈ es, EOk size e := fun e he => by
  obtain ⟨i, hi, rfl⟩ := mem_getD (d := e0) he; exact (g.2 i hi).1
open Classical in
theorem k_impl_MostCouples (he : Rows h 5 ev (edges es)) (hl : es.length ≤ lim) : C T X n_impl_MostCouples [graphV size ev] h = some (.int .i64 (mostC size es), h) := by
  refine C_go t_impl_MostCouples rfl ?_; unfold mostC
  by_cases g : GOk size es
  · rw [if_pos g]
    have hg := k_impl_GraphOk (X := X) (size := size) he hl
    have hE : ∀ e ∈ es, EOk 9 e := fun e q => by
      have := gok_all g e q; have := g.1; unfold EOk at *; omega
    have hst : stC (cellM h 0) (.pointer (some ⟨h.length, 0, some 1⟩)) [.int .i64 0] = some (cellM h 0) := cellM_st (d := 0)
    have hev := k_impl_every (X := X) (size := size) he hl hE es.length 0 0 [] 0 0 0 0 0 (by omega) tk_nil (Nat.le_refl _)
    unfold graphV at hg hev; unfold F_impl_MostCouples graphV; unfold tellV at hev; have hc : cellM h 0 = h ++ [⟨[.int .i64 0], 1, y_int, true⟩] := rfl
    have e : max 0 (0 + mm (List.drop 0 es) []) = mm es [] := by simp
    rw [e] at hev; have hf : fnV (.func n_impl_MostCouples_1) [.pointer (some ⟨h.length, 0, some 1⟩)] = some (.func (.func n_impl_MostCouples_1) ⟨[]⟩ ⟨[.pointer (some ⟨h.length, 0, some 1⟩)]⟩) := rfl; have z0 : ((0 : Nat) : Int) = 0 := rfl; rw [z0] at hev; simp only [hg, g, ← hc, hst, hf, hev, cellM_ld, go_sem]; exact finish_flat rfl cellM_up
  · rw [if_neg g]
    have hg := k_impl_GraphOk (X := X) (size := size) he hl; unfold graphV at hg; unfold F_impl_MostCouples graphV; simp only [hg, g, go_sem]
open Classical in
theorem k_spec_MostCouples (he : Rows h 5 ev (edges es)) (hl : es.length ≤ lim) : C T X n_spec_MostCouples [graphV size ev] h = some (.int .i64 (mostC size es), h) := by
  refine C_go t_spec_MostCouples rfl ?_; have hg := k_spec_GraphOk (X := X) (size := size) he hl; unfold mostC
  by_cases g : GOk size es
  · rw [if_pos g]
    have hE := gok_all g; have hs := g.1; unfold lim at hl; unfold graphV at hg; unfold F_spec_MostCouples graphV; simp only [hg, g, zeros, fillAt, go_sem]
    refine w_for es.length (fun i t loc h' => loc 1 = some [.int .i64 size, ev] ∧ t 4 = .int .i64 i ∧ h <+: h' ∧ ∃ v, loc 3 = some [.int .i64 size, v] ∧ Own h' h.length h'.length 5 y_Edge v (edges ((es.take i).map oneE))) ⟨rfl, rfl, List.prefix_refl _, _, rfl, Own.nil⟩ ?_
    rintro i t loc h' hi ⟨l1, t4, hp, v, l3, o⟩; simp only [l1, t4, (he.up hp).lnm, go_sem]
    refine w_open (by simp only [go_sem]; rfl) ?_ ?_ <;> intro hc
    · have hi1 : i < es.length := by omega
      have hw : IntKind.i64.wrap ((i : Int) + 1) = ((i + 1 : Nat) : Int) := w64 (by omega) (by omega)
      have el := edge_el (he.up hp) hi1
      obtain ⟨v2, h2, c2, q1, q2, o2⟩ := o.push1 (pre_len hp) (edgeR (oneE (es.getD i e0))) rfl (by simp; unfold lim; omega)
      unfold edgeR oneE at c2; simp only [l1, l3, t4, el.1, el.2.1, el.2.2.2.1, el.2.2.2.2.1, zeros, fillAt, c2, o2.cells, hw, go_sem]; refine ⟨hi1, pre_push hp (Nat.le_refl _) q1 q2, v2, rfl, ?_⟩; rw [Nat.max_eq_right q1] at o2
      have e : es.take (i + 1) = es.take i ++ [es.getD i e0] := by
        rw [List.take_add_one, List.getElem?_eq_getElem hi1, List.getD_eq_getElem?_getD, List.getElem?_eq_getElem hi1]; rfl
      unfold edges at o2 ⊢; rw [e, List.map_append, List.map_append]; exact o2
    · have hin : i = es.length := by omega
      subst hin; rw [List.take_length] at o; obtain ⟨g2, hg2⟩ : ∃ g2 : Heap, g2 = h' ++ [⟨[], 1, y_int, true⟩] := ⟨_, rfl⟩
      have hpg : h' <+: g2 := by rw [hg2]; exact List.prefix_append _ _
      obtain ⟨n, rfl⟩ : ∃ n : Nat, size = n := ⟨size.toNat, by omega⟩
      have hu : Rows g2 1 (.slice (some ⟨h'.length, 0, none⟩) 0 0) (ints []) := by rw [hg2]; exact Acc.new.rows
      obtain ⟨w, c, b1, b2, b3⟩ := k_spec_l09Best (X := X) (es := es.map oneE) (n := n) (by omega) (by rw [List.length_map]; unfold lim; omega)
        (fun e q => by
          obtain ⟨e', q', rfl⟩ := List.mem_map.1 q; have := hE e' q'; unfold EOk oneE at *; simp only
          omega)
        (fun e q => by
          obtain ⟨e', q', rfl⟩ := List.mem_map.1 q
          exact ⟨rfl, rfl, rfl⟩) n 0 [] _ g2 (by omega) (by omega) (Nat.le_refl _) (o.rows.up hpg) hu
      have hw := most_first hE b3; unfold graphV bestV at b1; have z0 : ((0 : Nat) : Int) = 0 := rfl; rw [z0] at b1; simp only [l3, zeros, fillAt, ← hg2, b1, go_sem]; rw [hw]; exact finish_flat rfl (hp.trans hpg)
  · rw [if_neg g]
    unfold graphV at hg; unfold F_spec_MostCouples graphV; simp only [hg, g, go_sem]
end
end Go.Proofs.Ytafhipglhnfgnaa.Ab
set_option linter.unusedSimpArgs false
set_option linter.unusedVariables false
set_option linter.unnecessarySimpa false
set_option maxHeartbeats 4000000
namespace Go.Proofs.Ytafhipglhnfgnaa.Ab
open Go.RowKit
section
variable {X : CallF} {h : Heap} {cv : Value} {l : List Int}
open Classical in
theorem l_Blocks (hc : Rows h 1 cv (bys l)) : C T X n_laws_FnBlocks [cv] h = some (.bool true, h) := by
  refine C_go t_laws_FnBlocks rfl ?_; unfold F_laws_FnBlocks; have cb := k_big (X := X) hc
  by_cases hz : (l.length : Int) > 1048576
  · simp only [cb, hz, go_sem]
  obtain ⟨n, es, ev, h1, c1, g, p1, oe⟩ := k_DrawRightGraph (X := X) hc (by omega)
  have hn : n ≤ 9 := by have := g.1; omega
  have hel := gok_len g
  have hell : es.length ≤ lim := by unfold lim; omega
  obtain ⟨sv, h2, c2, p2, os⟩ := k_impl_Blocks (X := X) (size := (n : Int)) oe.rows hell; have he2 := oe.rows.up p2; have c3 := k_impl_MostCouples (X := X) (size := (n : Int)) he2 hell; have c4 := k_spec_MostCouples (X := X) (size := (n : Int)) he2 hell; have hb9 := blocksL_len (es := es) (size := (n : Int)); obtain ⟨B, hB⟩ : ∃ B, B = blocksL es (n : Int) := ⟨_, rfl⟩; rw [← hB] at os hb9
  have c5 := k_impl_OddParts (X := X) (size := (n : Int)) he2 os.rows hell (by unfold lim; omega)
  have hval := blocks_val g; rw [← hB] at hval
  have hodd : ∀ out, oddN es out (n : Int) = ((oddSum (comps es out n) : Nat) : Int) := fun out => by unfold oddN; rw [if_pos g, Int.toNat_natCast]
  rw [hodd] at c5
  have hmo : mostC (n : Int) es = ((mm es [] : Nat) : Int) := by unfold mostC; rw [if_pos g]
  rw [hmo] at c3 c4; have hmm := mm_le es []
  have ho1 : ∀ out, oddSum (comps es out n) ≤ n := fun out => Nat.le_trans oddSum_le compsTo_len
  have hoB := ho1 B
  obtain ⟨pv, h3, c6, PL, hPL, p3, op⟩ := k_DrawPlaces (X := X) (hc.up (p1.trans p2)) (by omega)
  have w1 : IntKind.i64.wrap ((n : Int) + (B.length : Int)) = (n : Int) + B.length := w64 (by omega) (by omega)
  have w2 : IntKind.i64.wrap ((n : Int) + (B.length : Int) - ((oddSum (comps es B n) : Nat) : Int)) = 2 * ((mm es [] : Nat) : Int) := by rw [w64 (by omega) (by omega)]; omega
  have w3 : IntKind.i64.wrap (2 * ((mm es [] : Nat) : Int)) = 2 * ((mm es [] : Nat) : Int) := w64 (by omega) (by omega)
  unfold graphV at *; simp only [cb, hz, c1, c2, c3, c4, c5, c6, ints_ln os.rows, w1, w2, w3, zeros, fillAt, go_sem]
  obtain ⟨p, hp⟩ : ∃ p : Int → Bool, p = fun u => decide ((PL.getD (u.toNat % 12) 0).tmod 3 = 0) := ⟨_, rfl⟩
  refine w_for n (fun i t loc h' => loc 3 = some [.int .i64 (n : Nat), ev] ∧ t 5 = .int .i64 (mm es [] : Nat) ∧ t 7 = pv ∧ t 9 = .int .i64 i ∧ h3 <+: h' ∧ ∃ v, t 8 = v ∧ Own h' h3.length h'.length 1 y_int v (ints ((upTo i).filter p))) ⟨rfl, rfl, rfl, rfl, List.prefix_append _ _, _, rfl, Acc.new.own⟩ ?_
  rintro i t loc h4 hi ⟨l3, t5, t7, t9, p4, ov, t8, oo⟩; simp only [l3, t9, go_sem]
  refine w_open (by simp only [go_sem]; rfl) ?_ ?_ <;> intro hc
  · have hi1 : i < n := by omega
    have hw : IntKind.i64.wrap ((i : Int) + 1) = ((i + 1 : Nat) : Int) := w64 (by omega) (by omega)
    have hk : i % 12 < PL.length := by rw [hPL]; exact Nat.mod_lt _ (by omega)
    have el := int_el (op.rows.up p4) hk; have hmod : (i : Int).tmod 12 = ((i % 12 : Nat) : Int) := tmodN i 12; have hfs := filter_snoc (p := p) (n := i)
    have hpi : p (i : Int) = decide ((PL.getD (i % 12) 0).tmod 3 = 0) := by rw [hp]; simp
    have hfl : ((upTo i).filter p).length ≤ i := Nat.le_trans (List.length_filter_le _ _) (by rw [upTo_len]; exact Nat.le_refl _)
    by_cases q : (PL.getD (i % 12) 0).tmod 3 = 0
    · rw [if_pos (by rw [hpi]; exact decide_eq_true q)] at hfs
      obtain ⟨v5, h5, c5, q1, q2, o5⟩ := oo.push1 (pre_len p4) [.int .i64 (i : Int)] rfl (by rw [ints_len]; unfold lim; omega)
      rw [Nat.max_eq_right q1] at o5; simp only [l3, t5, t7, t8, t9, hmod, el.1, el.2, q, zeros, fillAt, c5, hw, go_sem]
      exact ⟨hi1, pre_push p4 (Nat.le_refl _) q1 q2, v5, rfl, by rw [hfs]; simpa [ints] using o5⟩
    · rw [if_neg (by rw [hpi]; simpa using q)] at hfs
      simp only [l3, t5, t7, t8, t9, hmod, el.1, el.2, q, hw, go_sem]
      exact ⟨hi1, p4, ov, rfl, by rw [hfs]; exact oo⟩
  have hin : i = n := by omega
  subst hin; obtain ⟨out, hout⟩ : ∃ out, out = (upTo i).filter p := ⟨_, rfl⟩; rw [← hout] at oo
  have hol : out.length ≤ i := by rw [hout]; exact Nat.le_trans (List.length_filter_le _ _) (by rw [upTo_len]; exact Nat.le_refl _)
  have hset := set_val (out := out) g (by rw [hout]; exact List.Pairwise.filter _ upTo_nodup) fun v hv => by rw [hout] at hv; exact upTo_mem.1 (List.mem_filter.1 hv).1
  have he4 := oe.rows.up ((p2.trans p3).trans p4)
  obtain ⟨h5, mv, yv, gv, m, ys, gs, c7, p5, om, oy, og, ct⟩ := k_spec_Solve (X := X) (n := i) he4 g hn (by omega)
  have hmost := mok_most ct.2.1; have ro := oo.rows.up p5
  have c8 := k_impl_OddParts (X := X) (size := (i : Int)) (he4.up p5) ro hell (by unfold lim; omega)
  rw [hodd] at c8; have hoO := ho1 out
  have w4 : IntKind.i64.wrap ((i : Int) + (out.length : Int)) = (i : Int) + out.length := w64 (by omega) (by omega)
  have w5 : IntKind.i64.wrap ((i : Int) + (out.length : Int) - ((oddSum (comps es out i) : Nat) : Int)) = (i : Int) + out.length - ((oddSum (comps es out i) : Nat) : Int) := w64 (by omega) (by omega)
  have d1 : ((i : Int) + out.length - ((oddSum (comps es out i) : Nat) : Int) ≥ 2 * ((mm es [] : Nat) : Int)) := by omega
  have d2 : ((m.length : Int) ≤ ((mm es [] : Nat) : Int)) := by omega
  unfold graphV proofV at c7; unfold graphV at c8; simp only [l3, t5, t7, t8, t9, c7, c8, ints_ln ro, om.lnm, w3, w4, w5, d1, d2, zeros, fillAt, List.prefix_refl, go_sem]; exact finish_flat rfl ((((p1.trans p2).trans p3).trans p4).trans p5)
end
def ps_FnBlocks : List (Bool × List CK) := [(false, [.sl [.int .u8]])]
theorem law_FnBlocks (h : Heap) (avs : List Value) (ha : All2 (ArgOk h) ps_FnBlocks avs) : C T noX n_laws_FnBlocks avs h = some (.bool true, h) := by
  obtain ⟨v0, r, rfl, k0, ha⟩ := ha.cons_inv; obtain rfl := ha.nil_inv; obtain ⟨l, hl⟩ := k0.cell.bytes_inv; exact l_Blocks hl
end Go.Proofs.Ytafhipglhnfgnaa.Ab
