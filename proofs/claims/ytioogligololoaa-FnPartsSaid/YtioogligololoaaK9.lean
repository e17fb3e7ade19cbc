/- Contracts: an ask is read. No conditions. -/
import Derived.Test.YtioogligololoaaK8
import Derived.Test.YtioogligololoaaK6
import Derived.Test.YtioogligololoaaK14
set_option linter.unusedSimpArgs false
set_option linter.unusedVariables false
set_option linter.unnecessarySimpa false
set_option maxHeartbeats 4000000
namespace Go.Proofs.Ytioogligololoaa.Ab
open Go.RowKit
/-- The numbers of an ask that are there. -/
def rdL (s : ByteArray) (K : Nat) (i : Nat) : Int := if i < K then sV s (1, false) i else 0
def rdAL (s : ByteArray) (K : Nat) : List Int := [rdL s K 0, rdL s K 1, rdL s K 2, rdL s K 3, rdL s K 4]
def rdOp (s : ByteArray) : Int := (byt s 0 : Nat)
/-- Does a text tell an ask? -/
def AskIs (s : ByteArray) : Prop := 0 < s.size ∧ (sS s (1, false) (numK (rdOp s))).2 = false ∧ AskOk (rdOp s) (rdAL s (numK (rdOp s))) ∧ askText (rdOp s) (rdAL s (numK (rdOp s))) = s
open Classical in
noncomputable def askR (s : ByteArray) : Value :=
  if AskIs s then .tuple ⟨[askV (rdOp s) (rdL s (numK (rdOp s)) 0) (rdL s (numK (rdOp s)) 1) (rdL s (numK (rdOp s)) 2) (rdL s (numK (rdOp s)) 3) (rdL s (numK (rdOp s)) 4), .bool true]⟩ else .tuple ⟨[askV 0 0 0 0 0 0, .bool false]⟩

theorem askR_form (s : ByteArray) : ∃ (x : Aq) (b : Bool), askR s = .tuple ⟨[.agg ⟨aqR x⟩, .bool b]⟩ := by
  unfold askR
  split
  · exact ⟨⟨_, _, _, _, _, _⟩, true, rfl⟩
  · exact ⟨⟨0, 0, 0, 0, 0, 0⟩, false, rfl⟩
theorem catV_exact {s : ByteArray} : ∀ {l : List Int}, (∀ x ∈ l, 0 ≤ x ∧ x ≤ 1000000000) → (catV s l).size = s.size + (l.map fun x => (varL x.toNat).length).sum
  | [], _ => by simp [catV]
  | n :: l, h => by
    have h1 := h n List.mem_cons_self
    have ih := catV_exact (s := s ++ vt n) (l := l) fun x hx => h x (List.mem_cons_of_mem _ hx)
    have e : catV s (n :: l) = catV (s ++ vt n) l := rfl
    rw [e, ih, ByteArray.size_append]
    have : (vt n).size = (varL n.toNat).length := by unfold vt; rw [if_pos h1]; unfold varT; exact strOfNums_size _
    rw [this]
    simp only [List.map_cons, List.sum_cons]
    omega
theorem rdAL_take {s : ByteArray} {K : Nat} (hK : K = 0 ∨ K = 1 ∨ K = 5) : (rdAL s K).take K = (List.range K).map fun i => sV s (1, false) i := by
  rcases hK with rfl | rfl | rfl <;> rfl
/-- All is read, where all was well. -/
theorem ask_ends {s : ByteArray} (h : AskIs s) : (sS s (1, false) (numK (rdOp s))).1 = s.size := by
  obtain ⟨_, h1, h2, h3⟩ := h
  obtain ⟨q1, q2⟩ := sS_len (s := s) (p := (1, false)) rfl _ h1
  have hs : (askText (rdOp s) (rdAL s (numK (rdOp s)))).size = s.size := by rw [h3]
  unfold askText at hs
  rw [rdAL_take (numK_cases _)] at hs
  rw [catV_exact (fun x hx => by
    obtain ⟨j, hj, rfl⟩ := List.mem_map.1 hx
    exact q2 j (List.mem_range.1 hj))] at hs
  rw [q1, ← hs, List.map_map]
  have : (strOfNums [rdOp s]).size = 1 := rfl
  rw [this]
  rfl

section
variable {X : CallF} {h : Heap} {s : ByteArray}

theorem told_at (op a b w1 w2 w3 : Int) (hp : ∃ g : Heap, g = h) : ∃ v hh, C T X n_impl_told [askV op a b w1 w2 w3] h = some (v, hh) ∧ h <+: hh ∧ lnV hh v = some (.int .i64 (numK op : Nat)) := by
  obtain ⟨v, hh, c, a⟩ := k_impl_told (X := X) (h := h) (op := op) (a := a) (b := b) (w1 := w1) (w2 := w2) (w3 := w3)
  refine ⟨v, hh, c, a.up, ?_⟩
  have := ints_ln a.rows
  rw [this, List.length_take]
  congr 3
  have := numK_cases op
  simp only [List.length_cons, List.length_nil]
  omega

open Classical in
theorem k_impl_ReadAsk (hs : s.size ≤ lim) : C T X n_impl_ReadAsk [.string s] h = some (askR s, h) := by
  have hs' := hs
  unfold lim at hs'
  refine C_go t_impl_ReadAsk rfl ?_
  unfold F_impl_ReadAsk
  have hp0 : (0, false).1 ≤ s.size := Nat.zero_le _
  obtain ⟨g, hg⟩ : ∃ g : Heap, g = h ++ [rdB y_reader s (0, false)] := ⟨_, rfl⟩
  have hb : g[h.length]? = some (rdB y_reader s (0, false)) := by rw [hg]; simp
  have hpg : h <+: g := by rw [hg]; exact List.prefix_append _ _
  have hbw : bxW h y_reader 3 (.agg ⟨[.string s, .int .i64 0, .bool false]⟩) = some (pk h.length 0, g) := by rw [hg]; rfl
  have c1 := k_impl_one (X := X) hb hs
  have pset : ∀ q : Nat × Bool, h <+: g.set h.length (rdB y_reader s q) := fun q => by
    rw [hg]
    refine pre_of_get (by simp) fun b hb => ?_
    rw [List.getElem?_set_ne (by omega), List.getElem?_append_left hb]
  by_cases hz : s.size = 0
  · have ho : oneStep s (0, false) = (0, (0, true)) := by unfold oneStep; rw [if_pos (.inr (by omega))]
    rw [ho] at c1
    obtain ⟨v, hh, ct, pt, lt⟩ := told_at (X := X) (h := g.set h.length (rdB y_reader s (0, true))) 0 0 0 0 0 0 ⟨_, rfl⟩
    have hk0 : numK 0 = 0 := by unfold numK; simp
    rw [hk0] at lt
    have lt' : lnV hh v = some (.int .i64 0) := lt
    have hb2 : hh[h.length]? = some (rdB y_reader s (0, true)) := pre_get pt (rd_set hb)
    have ca := k_impl_AskText (X := X) (h := hh) (op := 0) (a := 0) (b := 0) (w1 := 0) (w2 := 0) (w3 := 0)
    have ce := k_impl_ends (X := X) hb2
    have hno : ¬ AskIs s := fun q => by have := q.1; omega
    have hr : askR s = .tuple ⟨[askV 0 0 0 0 0 0, .bool false]⟩ := by unfold askR; rw [if_neg hno]
    rw [hr]
    unfold askV at *
    simp only [hbw, c1, ct, lt', ca, ce, go_sem, reduceIte, Nat.reduceEqDiff, Nat.reduceAdd, Nat.reduceMul, Nat.reduceLT, Nat.reduceLeDiff, reduceCtorEq, ne_eq, Int.reduceEq, Int.reduceLT, Int.reduceLE, Int.reduceNeg, Int.reduceToNat]
    exact finish_flat rfl ((pset _).trans pt)
  have ho : oneStep s (0, false) = (rdOp s, (1, false)) := by
    unfold oneStep
    rw [if_neg (by rintro (q | q); cases q; exact hz (by omega))]
    rfl
  rw [ho] at c1
  obtain ⟨op, hop⟩ : ∃ op, op = rdOp s := ⟨_, rfl⟩
  rw [← hop] at c1
  obtain ⟨v, hh, ct, pt, lt⟩ := told_at (X := X) (h := g.set h.length (rdB y_reader s (1, false))) op 0 0 0 0 0 ⟨_, rfl⟩
  have hb2 : hh[h.length]? = some (rdB y_reader s (sS s (1, false) 0)) := pre_get pt (rd_set hb)
  have hpt := (pset (1, false)).trans pt
  have hle : ∀ i, (sS s (1, false) i).1 ≤ s.size := sS_le (show (1, false).1 ≤ s.size by simp; omega)
  have d0 := k_impl_num (X := X) hb2 hs (hle 0)
  have b1 := rd_set (q := sS s (1, false) 1) hb2
  have d1 := k_impl_num (X := X) b1 hs (hle 1)
  have b2 := rd_set (q := sS s (1, false) 2) b1
  have d2 := k_impl_num (X := X) b2 hs (hle 2)
  have b3 := rd_set (q := sS s (1, false) 3) b2
  have d3 := k_impl_num (X := X) b3 hs (hle 3)
  have b4 := rd_set (q := sS s (1, false) 4) b3
  have d4 := k_impl_num (X := X) b4 hs (hle 4)
  have b5 := rd_set (q := sS s (1, false) 5) b4
  have fin : ∀ (gg : Heap), gg.length = hh.length → (∀ b, b ≠ h.length → gg[b]? = hh[b]?) → h <+: gg := fun gg h1 h2 =>
    pre_of_get (by have := pre_len hpt; omega) fun b hb => by rw [h2 b (by omega), get_of_pre hpt hb]
  have setp : ∀ (gg : Heap) (x : Blk), (gg.length = hh.length ∧ ∀ b, b ≠ h.length → gg[b]? = hh[b]?) → ((gg.set h.length x).length = hh.length ∧ ∀ b, b ≠ h.length → (gg.set h.length x)[b]? = hh[b]?) := fun gg x q =>
    ⟨by rw [set_len]; exact q.1, fun b hb => by rw [List.getElem?_set_ne (Ne.symm hb)]; exact q.2 b hb⟩
  rcases numK_cases op with e | e | e
  · -- no numbers
    rw [e] at lt
    have lt' : lnV hh v = some (.int .i64 0) := lt
    have ca := k_impl_AskText (X := X) (h := hh) (op := op) (a := 0) (b := 0) (w1 := 0) (w2 := 0) (w3 := 0)
    have ce := k_impl_ends (X := X) hb2
    by_cases hA : AskOk op [0, 0, 0, 0, 0] ∧ askText op [0, 0, 0, 0, 0] = s
    · have hi : AskIs s := by
        refine ⟨by omega, ?_, ?_, ?_⟩
        · rw [← hop, e]; rfl
        · rw [← hop, e]; exact hA.1
        · rw [← hop, e]; exact hA.2
      have hend := ask_ends hi
      rw [← hop, e] at hend
      have hr : askR s = .tuple ⟨[askV op 0 0 0 0 0, .bool true]⟩ := by unfold askR; rw [if_pos hi, ← hop, e]; rfl
      rw [hr]
      rw [if_pos hA.1, hA.2, decide_eq_true hA.1] at ca
      have ce' : C T X n_impl_reader_ends [pk h.length 0] hh = some (.bool true, hh) := by rw [ce, decide_eq_true hend]; rfl
      unfold askV at *
      simp only [hbw, c1, ct, lt', ca, ce', BEq.rfl, go_sem, reduceIte, Nat.reduceEqDiff, Nat.reduceAdd, Nat.reduceMul, Nat.reduceLT, Nat.reduceLeDiff, reduceCtorEq, ne_eq, Int.reduceEq, Int.reduceLT, Int.reduceLE, Int.reduceNeg, Int.reduceToNat]
      exact finish_flat rfl hpt
    · have hi : ¬ AskIs s := fun q => hA (by have q3 := q.2.2.1; have q4 := q.2.2.2; rw [← hop, e] at q3 q4; exact ⟨q3, q4⟩)
      have hr : askR s = .tuple ⟨[askV 0 0 0 0 0 0, .bool false]⟩ := by unfold askR; rw [if_neg hi]
      rw [hr]
      by_cases hA1 : AskOk op [0, 0, 0, 0, 0]
      · have hA2 : (decide (askText op [0, 0, 0, 0, 0] = s)) = false := decide_eq_false fun q => hA ⟨hA1, q⟩
        rw [if_pos hA1, decide_eq_true hA1] at ca
        cases hE : (!(sS s (1, false) 0).2 && decide ((sS s (1, false) 0).1 = s.size)) with
        | true =>
          rw [hE] at ce
          unfold askV at *
          simp only [hbw, c1, ct, lt', ca, ce, str_eq, hA2, go_sem, reduceIte, Nat.reduceEqDiff, Nat.reduceAdd, Nat.reduceMul, Nat.reduceLT, Nat.reduceLeDiff, reduceCtorEq, ne_eq, Int.reduceEq, Int.reduceLT, Int.reduceLE, Int.reduceNeg, Int.reduceToNat]
          exact finish_flat rfl hpt
        | false =>
          rw [hE] at ce
          unfold askV at *
          simp only [hbw, c1, ct, lt', ca, ce, str_eq, hA2, go_sem, reduceIte, Nat.reduceEqDiff, Nat.reduceAdd, Nat.reduceMul, Nat.reduceLT, Nat.reduceLeDiff, reduceCtorEq, ne_eq, Int.reduceEq, Int.reduceLT, Int.reduceLE, Int.reduceNeg, Int.reduceToNat]
          exact finish_flat rfl hpt
      · rw [decide_eq_false hA1] at ca
        cases hE : (!(sS s (1, false) 0).2 && decide ((sS s (1, false) 0).1 = s.size)) with
        | true =>
          rw [hE] at ce
          unfold askV at *
          simp only [hbw, c1, ct, lt', ca, ce, go_sem, reduceIte, Nat.reduceEqDiff, Nat.reduceAdd, Nat.reduceMul, Nat.reduceLT, Nat.reduceLeDiff, reduceCtorEq, ne_eq, Int.reduceEq, Int.reduceLT, Int.reduceLE, Int.reduceNeg, Int.reduceToNat]
          exact finish_flat rfl hpt
        | false =>
          rw [hE] at ce
          unfold askV at *
          simp only [hbw, c1, ct, lt', ca, ce, go_sem, reduceIte, Nat.reduceEqDiff, Nat.reduceAdd, Nat.reduceMul, Nat.reduceLT, Nat.reduceLeDiff, reduceCtorEq, ne_eq, Int.reduceEq, Int.reduceLT, Int.reduceLE, Int.reduceNeg, Int.reduceToNat]
          exact finish_flat rfl hpt
  · -- one
    rw [e] at lt
    have lt' : lnV hh v = some (.int .i64 1) := lt
    obtain ⟨x0, hx0⟩ : ∃ x, x = sV s (1, false) 0 := ⟨_, rfl⟩
    have d0' : C T X n_impl_reader_num [pk h.length 0] hh = some (.int .i64 x0, hh.set h.length (rdB y_reader s (sS s (1, false) 1))) := by rw [hx0]; exact d0
    have p1 := setp _ (rdB y_reader s (sS s (1, false) 1)) ⟨rfl, fun _ _ => rfl⟩
    have hpt := fin _ p1.1 p1.2
    obtain ⟨h1, hh1⟩ : ∃ g : Heap, g = hh.set h.length (rdB y_reader s (sS s (1, false) 1)) := ⟨_, rfl⟩
    rw [← hh1] at d0' b1 hpt
    have ca := k_impl_AskText (X := X) (h := h1) (op := op) (a := x0) (b := 0) (w1 := 0) (w2 := 0) (w3 := 0)
    have ce := k_impl_ends (X := X) b1
    have hlist : rdAL s 1 = [x0, 0, 0, 0, 0] := by rw [hx0]; rfl
    by_cases hA : (sS s (1, false) 1).2 = false ∧ AskOk op [x0, 0, 0, 0, 0] ∧ askText op [x0, 0, 0, 0, 0] = s
    · have hi : AskIs s := by
        refine ⟨by omega, ?_, ?_, ?_⟩
        · rw [← hop, e]; exact hA.1
        · rw [← hop, e, hlist]; exact hA.2.1
        · rw [← hop, e, hlist]; exact hA.2.2
      have hend := ask_ends hi
      rw [← hop, e] at hend
      have hr : askR s = .tuple ⟨[askV op x0 0 0 0 0, .bool true]⟩ := by unfold askR; rw [if_pos hi, ← hop, e, hx0]; rfl
      rw [hr]
      rw [if_pos hA.2.1, hA.2.2, decide_eq_true hA.2.1] at ca
      have ce' : C T X n_impl_reader_ends [pk h.length 0] h1 = some (.bool true, h1) := by rw [ce, decide_eq_true hend, hA.1]; rfl
      unfold askV at *
      simp only [hbw, c1, ct, lt', d0', ca, ce', BEq.rfl, go_sem, reduceIte, Nat.reduceEqDiff, Nat.reduceAdd, Nat.reduceMul, Nat.reduceLT, Nat.reduceLeDiff, reduceCtorEq, ne_eq, Int.reduceEq, Int.reduceLT, Int.reduceLE, Int.reduceNeg, Int.reduceToNat]
      exact finish_flat rfl hpt
    · have hi : ¬ AskIs s := fun q => hA (by have q2 := q.2.1; have q3 := q.2.2.1; have q4 := q.2.2.2; rw [← hop, e] at q2; rw [← hop, e, hlist] at q3 q4; exact ⟨q2, q3, q4⟩)
      have hr : askR s = .tuple ⟨[askV 0 0 0 0 0 0, .bool false]⟩ := by unfold askR; rw [if_neg hi]
      rw [hr]
      cases hE : (!(sS s (1, false) 1).2 && decide ((sS s (1, false) 1).1 = s.size)) with
      | false =>
        rw [hE] at ce
        unfold askV at *
        simp only [hbw, c1, ct, lt', d0', ca, ce, go_sem, reduceIte, Nat.reduceEqDiff, Nat.reduceAdd, Nat.reduceMul, Nat.reduceLT, Nat.reduceLeDiff, reduceCtorEq, ne_eq, Int.reduceEq, Int.reduceLT, Int.reduceLE, Int.reduceNeg, Int.reduceToNat]
        exact finish_flat rfl hpt
      | true =>
        rw [hE] at ce
        have hbad : (sS s (1, false) 1).2 = false := by
          cases hq : (sS s (1, false) 1).2 with
          | false => rfl
          | true => rw [hq] at hE; simp at hE
        by_cases hA1 : AskOk op [x0, 0, 0, 0, 0]
        · have hA2 : (decide (askText op [x0, 0, 0, 0, 0] = s)) = false := decide_eq_false fun q => hA ⟨hbad, hA1, q⟩
          rw [if_pos hA1, decide_eq_true hA1] at ca
          unfold askV at *
          simp only [hbw, c1, ct, lt', d0', ca, ce, str_eq, hA2, go_sem, reduceIte, Nat.reduceEqDiff, Nat.reduceAdd, Nat.reduceMul, Nat.reduceLT, Nat.reduceLeDiff, reduceCtorEq, ne_eq, Int.reduceEq, Int.reduceLT, Int.reduceLE, Int.reduceNeg, Int.reduceToNat]
          exact finish_flat rfl hpt
        · rw [decide_eq_false hA1] at ca
          unfold askV at *
          simp only [hbw, c1, ct, lt', d0', ca, ce, go_sem, reduceIte, Nat.reduceEqDiff, Nat.reduceAdd, Nat.reduceMul, Nat.reduceLT, Nat.reduceLeDiff, reduceCtorEq, ne_eq, Int.reduceEq, Int.reduceLT, Int.reduceLE, Int.reduceNeg, Int.reduceToNat]
          exact finish_flat rfl hpt
  · -- five
    rw [e] at lt
    have lt' : lnV hh v = some (.int .i64 5) := lt
    obtain ⟨x0, hx0⟩ : ∃ x, x = sV s (1, false) 0 := ⟨_, rfl⟩
    obtain ⟨x1, hx1⟩ : ∃ x, x = sV s (1, false) 1 := ⟨_, rfl⟩
    obtain ⟨x2, hx2⟩ : ∃ x, x = sV s (1, false) 2 := ⟨_, rfl⟩
    obtain ⟨x3, hx3⟩ : ∃ x, x = sV s (1, false) 3 := ⟨_, rfl⟩
    obtain ⟨x4, hx4⟩ : ∃ x, x = sV s (1, false) 4 := ⟨_, rfl⟩
    have p1 := setp _ (rdB y_reader s (sS s (1, false) 1)) ⟨rfl, fun _ _ => rfl⟩
    have p2 := setp _ (rdB y_reader s (sS s (1, false) 2)) p1
    have p3 := setp _ (rdB y_reader s (sS s (1, false) 3)) p2
    have p4 := setp _ (rdB y_reader s (sS s (1, false) 4)) p3
    have p5 := setp _ (rdB y_reader s (sS s (1, false) 5)) p4
    have hpt := fin _ p5.1 p5.2
    have d0' : C T X n_impl_reader_num [pk h.length 0] hh = some (.int .i64 x0, hh.set h.length (rdB y_reader s (sS s (1, false) 1))) := by rw [hx0]; exact d0
    obtain ⟨h1, hh1⟩ : ∃ g : Heap, g = hh.set h.length (rdB y_reader s (sS s (1, false) 1)) := ⟨_, rfl⟩
    rw [← hh1] at d0' d1 b2 d2 b3 d3 b4 d4 b5 hpt
    have d1' : C T X n_impl_reader_num [pk h.length 0] h1 = some (.int .i64 x1, h1.set h.length (rdB y_reader s (sS s (1, false) 2))) := by rw [hx1]; exact d1
    obtain ⟨h2, hh2⟩ : ∃ g : Heap, g = h1.set h.length (rdB y_reader s (sS s (1, false) 2)) := ⟨_, rfl⟩
    rw [← hh2] at d1' d2 b3 d3 b4 d4 b5 hpt
    have d2' : C T X n_impl_reader_num [pk h.length 0] h2 = some (.int .i64 x2, h2.set h.length (rdB y_reader s (sS s (1, false) 3))) := by rw [hx2]; exact d2
    obtain ⟨h3, hh3⟩ : ∃ g : Heap, g = h2.set h.length (rdB y_reader s (sS s (1, false) 3)) := ⟨_, rfl⟩
    rw [← hh3] at d2' d3 b4 d4 b5 hpt
    have d3' : C T X n_impl_reader_num [pk h.length 0] h3 = some (.int .i64 x3, h3.set h.length (rdB y_reader s (sS s (1, false) 4))) := by rw [hx3]; exact d3
    obtain ⟨h4, hh4⟩ : ∃ g : Heap, g = h3.set h.length (rdB y_reader s (sS s (1, false) 4)) := ⟨_, rfl⟩
    rw [← hh4] at d3' d4 b5 hpt
    have d4' : C T X n_impl_reader_num [pk h.length 0] h4 = some (.int .i64 x4, h4.set h.length (rdB y_reader s (sS s (1, false) 5))) := by rw [hx4]; exact d4
    obtain ⟨h5, hh5⟩ : ∃ g : Heap, g = h4.set h.length (rdB y_reader s (sS s (1, false) 5)) := ⟨_, rfl⟩
    rw [← hh5] at d4' b5 hpt
    have ca := k_impl_AskText (X := X) (h := h5) (op := op) (a := x0) (b := x1) (w1 := x2) (w2 := x3) (w3 := x4)
    have ce := k_impl_ends (X := X) b5
    have hlist : rdAL s 5 = [x0, x1, x2, x3, x4] := by rw [hx0, hx1, hx2, hx3, hx4]; rfl
    by_cases hA : (sS s (1, false) 5).2 = false ∧ AskOk op [x0, x1, x2, x3, x4] ∧ askText op [x0, x1, x2, x3, x4] = s
    · have hi : AskIs s := by
        refine ⟨by omega, ?_, ?_, ?_⟩
        · rw [← hop, e]; exact hA.1
        · rw [← hop, e, hlist]; exact hA.2.1
        · rw [← hop, e, hlist]; exact hA.2.2
      have hend := ask_ends hi
      rw [← hop, e] at hend
      have hr : askR s = .tuple ⟨[askV op x0 x1 x2 x3 x4, .bool true]⟩ := by unfold askR; rw [if_pos hi, ← hop, e, hx0, hx1, hx2, hx3, hx4]; rfl
      rw [hr]
      rw [if_pos hA.2.1, hA.2.2, decide_eq_true hA.2.1] at ca
      have ce' : C T X n_impl_reader_ends [pk h.length 0] h5 = some (.bool true, h5) := by rw [ce, decide_eq_true hend, hA.1]; rfl
      unfold askV at *
      simp only [hbw, c1, ct, lt', d0', d1', d2', d3', d4', ca, ce', BEq.rfl, go_sem, reduceIte, Nat.reduceEqDiff, Nat.reduceAdd, Nat.reduceMul, Nat.reduceLT, Nat.reduceLeDiff, reduceCtorEq, ne_eq, Int.reduceEq, Int.reduceLT, Int.reduceLE, Int.reduceNeg, Int.reduceToNat]
      exact finish_flat rfl hpt
    · have hi : ¬ AskIs s := fun q => hA (by have q2 := q.2.1; have q3 := q.2.2.1; have q4 := q.2.2.2; rw [← hop, e] at q2; rw [← hop, e, hlist] at q3 q4; exact ⟨q2, q3, q4⟩)
      have hr : askR s = .tuple ⟨[askV 0 0 0 0 0 0, .bool false]⟩ := by unfold askR; rw [if_neg hi]
      rw [hr]
      cases hE : (!(sS s (1, false) 5).2 && decide ((sS s (1, false) 5).1 = s.size)) with
      | false =>
        rw [hE] at ce
        unfold askV at *
        simp only [hbw, c1, ct, lt', d0', d1', d2', d3', d4', ca, ce, go_sem, reduceIte, Nat.reduceEqDiff, Nat.reduceAdd, Nat.reduceMul, Nat.reduceLT, Nat.reduceLeDiff, reduceCtorEq, ne_eq, Int.reduceEq, Int.reduceLT, Int.reduceLE, Int.reduceNeg, Int.reduceToNat]
        exact finish_flat rfl hpt
      | true =>
        rw [hE] at ce
        have hbad : (sS s (1, false) 5).2 = false := by
          cases hq : (sS s (1, false) 5).2 with
          | false => rfl
          | true => rw [hq] at hE; simp at hE
        by_cases hA1 : AskOk op [x0, x1, x2, x3, x4]
        · have hA2 : (decide (askText op [x0, x1, x2, x3, x4] = s)) = false := decide_eq_false fun q => hA ⟨hbad, hA1, q⟩
          rw [if_pos hA1, decide_eq_true hA1] at ca
          unfold askV at *
          simp only [hbw, c1, ct, lt', d0', d1', d2', d3', d4', ca, ce, str_eq, hA2, go_sem, reduceIte, Nat.reduceEqDiff, Nat.reduceAdd, Nat.reduceMul, Nat.reduceLT, Nat.reduceLeDiff, reduceCtorEq, ne_eq, Int.reduceEq, Int.reduceLT, Int.reduceLE, Int.reduceNeg, Int.reduceToNat]
          exact finish_flat rfl hpt
        · rw [decide_eq_false hA1] at ca
          unfold askV at *
          simp only [hbw, c1, ct, lt', d0', d1', d2', d3', d4', ca, ce, go_sem, reduceIte, Nat.reduceEqDiff, Nat.reduceAdd, Nat.reduceMul, Nat.reduceLT, Nat.reduceLeDiff, reduceCtorEq, ne_eq, Int.reduceEq, Int.reduceLT, Int.reduceLE, Int.reduceNeg, Int.reduceToNat]
          exact finish_flat rfl hpt

open Classical in
theorem k_spec_ReadAsk (hs : s.size ≤ lim) : C T X n_spec_ReadAsk [.string s] h = some (askR s, h) := by
  have hs' := hs
  unfold lim at hs'
  refine C_go t_spec_ReadAsk rfl ?_
  unfold F_spec_ReadAsk
  by_cases hz : s.size = 0
  · have hz' : (s.size : Int) = 0 := by omega
    have hno : ¬ AskIs s := fun q => by have := q.1; omega
    have hr : askR s = .tuple ⟨[askV 0 0 0 0 0 0, .bool false]⟩ := by unfold askR; rw [if_neg hno]
    rw [hr]
    unfold askV
    simp only [hz', go_sem, reduceIte, Nat.reduceEqDiff, Nat.reduceAdd, Nat.reduceMul, Nat.reduceLT, Nat.reduceLeDiff, reduceCtorEq, ne_eq, Int.reduceEq, Int.reduceLT, Int.reduceLE, Int.reduceNeg, Int.reduceToNat]
  have hz' : ¬ (s.size : Int) = 0 := by omega
  obtain ⟨op, hop⟩ : ∃ op, op = rdOp s := ⟨_, rfl⟩
  have hbt := byt_lt (s := s) (i := 0)
  have hix : ixV (.string s) (.int .i64 0) = some (.int .u8 (byt s 0 : Nat)) := ix_byt (i := 0) (by omega)
  have hw8 : IntKind.i64.wrap ((byt s 0 : Nat) : Int) = op := by rw [hop]; exact w64 (by omega) (by omega)
  obtain ⟨g, hg⟩ : ∃ g : Heap, g = h ++ [rdB y_l12Cur s (1, false)] := ⟨_, rfl⟩
  have hbw : bxW h y_l12Cur 3 (.agg ⟨[.string s, .int .i64 1, .bool false]⟩) = some (pk h.length 0, g) := by rw [hg]; rfl
  have hgl : g.length = h.length + 1 := by rw [hg]; simp
  have hb : g[h.length]? = some (rdB y_l12Cur s (1, false)) := by rw [hg]; simp
  obtain ⟨g2, hg2⟩ : ∃ g2 : Heap, g2 = g ++ [⟨[.int .i64 0, .int .i64 0, .int .i64 0, .int .i64 0, .int .i64 0], 1, y_int, true⟩] := ⟨_, rfl⟩
  have hb2 : g2[h.length]? = some (rdB y_l12Cur s (1, false)) := by rw [hg2]; exact pre_get (List.prefix_append _ _) hb
  have ol : Own g2 (h.length + 1) (h.length + 2) 1 y_int (.slice (some ⟨g.length, 0, none⟩) 5 5) (ints [0, 0, 0, 0, 0]) := by
    have := Own.made (h := g) (ty := y_int) (ints_row (l := [0, 0, 0, 0, 0]))
    rw [hgl] at this
    rw [hg2, hgl]
    exact this
  have hp2 : h <+: g2 := by rw [hg2, hg, List.append_assoc]; exact List.prefix_append _ _
  have hle : ∀ i, (sS s (1, false) i).1 ≤ s.size := sS_le (show (1, false).1 ≤ s.size by simp; omega)
  have cn := fun hh : Heap => k_spec_l14Numbers (X := X) (h := hh) (op := op)
  have hK := numK_cases op
  simp only [hz', hbw, zeros, fillAt, ← hg2, go_sem, reduceIte, Nat.reduceEqDiff, Nat.reduceAdd, Nat.reduceMul, Nat.reduceLT, Nat.reduceLeDiff, reduceCtorEq, ne_eq, Int.reduceEq, Int.reduceLT, Int.reduceLE, Int.reduceNeg, Int.reduceToNat]
  refine w_for (numK op) (fun i t loc h' => t 0 = .string s ∧ loc 2 = some [.int .i64 0, .int .i64 0, .int .i64 0, .int .i64 0, .int .i64 0, .int .i64 0] ∧ t 4 = pk h.length 0 ∧ t 5 = .slice (some ⟨g.length, 0, none⟩) 5 5 ∧ t 6 = .int .i64 i ∧ h <+: h' ∧ h'[h.length]? = some (rdB y_l12Cur s (sS s (1, false) i)) ∧ ∃ L : List Int, L.length = 5 ∧ (∀ j, j < 5 → L.getD j 0 = if j < i then sV s (1, false) j else 0) ∧ Own h' (h.length + 1) (h.length + 2) 1 y_int (.slice (some ⟨g.length, 0, none⟩) 5 5) (ints L))
    ⟨rfl, rfl, rfl, rfl, rfl, hp2, hb2, [0, 0, 0, 0, 0], rfl, fun j hj => by (have : j = 0 ∨ j = 1 ∨ j = 2 ∨ j = 3 ∨ j = 4 := by omega); rcases this with rfl | rfl | rfl | rfl | rfl <;> rfl, ol⟩ ?_
  rintro i t loc h' hi ⟨t0, l2, t4, t5, t6, hp, hbb, L, hL5, hLv, o⟩
  by_cases hi1 : i < numK op
  · have hi1' : (i : Int) < (numK op : Nat) := by omega
    have hw : IntKind.i64.wrap ((i : Int) + 1) = ((i + 1 : Nat) : Int) := w64 (by omega) (by omega)
    have dn := k_spec_l12Var (X := X) hbb hs (hle i)
    have hst : (numStep s (sS s (1, false) i)).2 = sS s (1, false) (i + 1) := rfl
    have hsv : (numStep s (sS s (1, false) i)).1 = sV s (1, false) i := rfl
    rw [hst, hsv] at dn
    obtain ⟨h1, hh1⟩ : ∃ g : Heap, g = h'.set h.length (rdB y_l12Cur s (sS s (1, false) (i + 1))) := ⟨_, rfl⟩
    have o1 : Own h1 (h.length + 1) (h.length + 2) 1 y_int (.slice (some ⟨g.length, 0, none⟩) 5 5) (ints L) := o.same (lo' := h.length) (hi' := h.length + 1) (by rw [hh1]; exact ⟨set_len, fun b hb => by rw [List.getElem?_set_ne (by omega)]⟩) (.inr (Nat.le_refl _))
    have hb1 : h1[h.length]? = some (rdB y_l12Cur s (sS s (1, false) (i + 1))) := by rw [hh1]; exact rd_set hbb
    have hp1 : h <+: h1 := pre_of_get (by rw [hh1, set_len]; exact pre_len hp) fun b hb => by rw [hh1, List.getElem?_set_ne (by omega), get_of_pre hp hb]
    rw [← hh1] at dn
    have el := int_el o1.rows (i := i) (by omega)
    obtain ⟨h2, c2, s2, o2⟩ := o1.sti (i := i) (by omega) (sV s (1, false) i)
    simp only [t0, l2, t4, t5, t6, hix, hw8, cn, hi1', dn, el.1, c2, hw, go_sem, reduceIte, Nat.reduceEqDiff, Nat.reduceAdd, Nat.reduceMul, Nat.reduceLT, Nat.reduceLeDiff, reduceCtorEq, ne_eq, Int.reduceEq, Int.reduceLT, Int.reduceLE, Int.reduceNeg, Int.reduceToNat]
    refine ⟨hi1, s2.pre hp1 (by omega), by rw [s2.blk _ (.inl (by omega))]; exact hb1, _, by simpa using hL5, fun j hj => ?_, o2⟩
    rw [getD_set (by omega)]
    by_cases e1 : j = i
    · subst e1; rw [if_pos rfl, if_pos (show j < j + 1 by omega)]
    · rw [if_neg e1, hLv j hj]
      by_cases e2 : j < i
      · rw [if_pos e2, if_pos (show j < i + 1 by omega)]
      · rw [if_neg e2, if_neg (show ¬ j < i + 1 by omega)]
  · have hik : i = numK op := by omega
    subst hik
    have hi1' : ¬ ((numK op : Nat) : Int) < (numK op : Nat) := by omega
    have e0 := int_el o.rows (i := 0) (by omega)
    have e1 := int_el o.rows (i := 1) (by omega)
    have e2 := int_el o.rows (i := 2) (by omega)
    have e3 := int_el o.rows (i := 3) (by omega)
    have e4 := int_el o.rows (i := 4) (by omega)
    have v0 : L.getD 0 0 = rdL s (numK op) 0 := hLv 0 (by omega)
    have v1 : L.getD 1 0 = rdL s (numK op) 1 := hLv 1 (by omega)
    have v2 : L.getD 2 0 = rdL s (numK op) 2 := hLv 2 (by omega)
    have v3 : L.getD 3 0 = rdL s (numK op) 3 := hLv 3 (by omega)
    have v4 : L.getD 4 0 = rdL s (numK op) 4 := hLv 4 (by omega)
    rw [v0] at e0; rw [v1] at e1; rw [v2] at e2; rw [v3] at e3; rw [v4] at e4
    have z1 : ((0 : Nat) : Int) = 0 := rfl
    have z2 : ((1 : Nat) : Int) = 1 := rfl
    have z3 : ((2 : Nat) : Int) = 2 := rfl
    have z4 : ((3 : Nat) : Int) = 3 := rfl
    have z5 : ((4 : Nat) : Int) = 4 := rfl
    rw [z1] at e0; rw [z2] at e1; rw [z3] at e2; rw [z4] at e3; rw [z5] at e4
    have hlist : rdAL s (numK op) = [rdL s (numK op) 0, rdL s (numK op) 1, rdL s (numK op) 2, rdL s (numK op) 3, rdL s (numK op) 4] := rfl
    have hrop : askR s = if AskIs s then .tuple ⟨[askV op (rdL s (numK op) 0) (rdL s (numK op) 1) (rdL s (numK op) 2) (rdL s (numK op) 3) (rdL s (numK op) 4), .bool true]⟩ else .tuple ⟨[askV 0 0 0 0 0 0, .bool false]⟩ := by rw [hop]; rfl
    have hAI : AskIs s ↔ (sS s (1, false) (numK op)).2 = false ∧ AskOk op (rdAL s (numK op)) ∧ askText op (rdAL s (numK op)) = s := by rw [hop]; exact ⟨fun q => q.2, fun q => ⟨by omega, q⟩⟩
    rw [hlist] at hAI
    obtain ⟨x0, hx0⟩ : ∃ x, x = rdL s (numK op) 0 := ⟨_, rfl⟩
    obtain ⟨x1, hx1⟩ : ∃ x, x = rdL s (numK op) 1 := ⟨_, rfl⟩
    obtain ⟨x2, hx2⟩ : ∃ x, x = rdL s (numK op) 2 := ⟨_, rfl⟩
    obtain ⟨x3, hx3⟩ : ∃ x, x = rdL s (numK op) 3 := ⟨_, rfl⟩
    obtain ⟨x4, hx4⟩ : ∃ x, x = rdL s (numK op) 4 := ⟨_, rfl⟩
    rw [← hx0, ← hx1, ← hx2, ← hx3, ← hx4] at hAI hrop
    rw [← hx0] at e0; rw [← hx1] at e1; rw [← hx2] at e2; rw [← hx3] at e3; rw [← hx4] at e4
    have ca := k_spec_AskText (X := X) (h := h') (op := op) (a := x0) (b := x1) (w1 := x2) (w2 := x3) (w3 := x4)
    have r0 := rd_fa hbb (k := 2)
    have r1 := rd_chk hbb
    have r2 := rd_ld2 hbb
    rw [hrop]
    cases hE : (sS s (1, false) (numK op)).2 with
    | true =>
      have hno : ¬ AskIs s := fun q => by have := (hAI.1 q).1; rw [hE] at this; cases this
      rw [if_neg hno]
      rw [hE] at r2
      unfold askV at *
      by_cases hA1 : AskOk op [x0, x1, x2, x3, x4]
      · rw [if_pos hA1, decide_eq_true hA1] at ca
        simp only [t0, l2, t4, t5, t6, hix, hw8, cn, hi1', e0.1, e0.2, e1.1, e1.2, e2.1, e2.2, e3.1, e3.2, e4.1, e4.2, r0, r1, r2, ca, str_eq, List.prefix_refl, go_sem, reduceIte, Nat.reduceEqDiff, Nat.reduceAdd, Nat.reduceMul, Nat.reduceLT, Nat.reduceLeDiff, reduceCtorEq, ne_eq, Int.reduceEq, Int.reduceLT, Int.reduceLE, Int.reduceNeg, Int.reduceToNat]
        exact finish_flat rfl hp
      · rw [if_neg hA1, decide_eq_false hA1] at ca
        simp only [t0, l2, t4, t5, t6, hix, hw8, cn, hi1', e0.1, e0.2, e1.1, e1.2, e2.1, e2.2, e3.1, e3.2, e4.1, e4.2, r0, r1, r2, ca, str_eq, List.prefix_refl, go_sem, reduceIte, Nat.reduceEqDiff, Nat.reduceAdd, Nat.reduceMul, Nat.reduceLT, Nat.reduceLeDiff, reduceCtorEq, ne_eq, Int.reduceEq, Int.reduceLT, Int.reduceLE, Int.reduceNeg, Int.reduceToNat]
        exact finish_flat rfl hp
    | false =>
      rw [hE] at r2
      by_cases hA1 : AskOk op [x0, x1, x2, x3, x4]
      · rw [if_pos hA1, decide_eq_true hA1] at ca
        by_cases hA2 : askText op [x0, x1, x2, x3, x4] = s
        · rw [if_pos (hAI.2 ⟨hE, hA1, hA2⟩)]
          rw [hA2] at ca
          unfold askV at *
          simp only [t0, l2, t4, t5, t6, hix, hw8, cn, hi1', e0.1, e0.2, e1.1, e1.2, e2.1, e2.2, e3.1, e3.2, e4.1, e4.2, r0, r1, r2, ca, BEq.rfl, List.prefix_refl, go_sem, reduceIte, Nat.reduceEqDiff, Nat.reduceAdd, Nat.reduceMul, Nat.reduceLT, Nat.reduceLeDiff, reduceCtorEq, ne_eq, Int.reduceEq, Int.reduceLT, Int.reduceLE, Int.reduceNeg, Int.reduceToNat]
          exact finish_flat rfl hp
        · rw [if_neg fun q => hA2 (hAI.1 q).2.2]
          have hA2' : (decide (askText op [x0, x1, x2, x3, x4] = s)) = false := decide_eq_false hA2
          unfold askV at *
          simp only [t0, l2, t4, t5, t6, hix, hw8, cn, hi1', e0.1, e0.2, e1.1, e1.2, e2.1, e2.2, e3.1, e3.2, e4.1, e4.2, r0, r1, r2, ca, str_eq, hA2', List.prefix_refl, go_sem, reduceIte, Nat.reduceEqDiff, Nat.reduceAdd, Nat.reduceMul, Nat.reduceLT, Nat.reduceLeDiff, reduceCtorEq, ne_eq, Int.reduceEq, Int.reduceLT, Int.reduceLE, Int.reduceNeg, Int.reduceToNat]
          exact finish_flat rfl hp
      · rw [if_neg hA1, decide_eq_false hA1] at ca
        rw [if_neg fun q => hA1 (hAI.1 q).2.1]
        unfold askV at *
        simp only [t0, l2, t4, t5, t6, hix, hw8, cn, hi1', e0.1, e0.2, e1.1, e1.2, e2.1, e2.2, e3.1, e3.2, e4.1, e4.2, r0, r1, r2, ca, str_eq, List.prefix_refl, go_sem, reduceIte, Nat.reduceEqDiff, Nat.reduceAdd, Nat.reduceMul, Nat.reduceLT, Nat.reduceLeDiff, reduceCtorEq, ne_eq, Int.reduceEq, Int.reduceLT, Int.reduceLE, Int.reduceNeg, Int.reduceToNat]
        exact finish_flat rfl hp
end
end Go.Proofs.Ytioogligololoaa.Ab
