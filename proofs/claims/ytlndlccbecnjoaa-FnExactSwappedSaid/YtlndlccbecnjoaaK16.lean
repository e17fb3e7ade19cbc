/- Contracts: the parts of a graph, how many are odd. No conditions. -/
import Derived.Test.YtlndlccbecnjoaaK15
set_option linter.unusedSimpArgs false
set_option linter.unusedVariables false
set_option linter.unnecessarySimpa false
set_option maxHeartbeats 4000000
namespace Go.Proofs.Ytlndlccbecnjoaa.Ab
open Go.RowKit
open Classical in
/-- The parts, where the graph is right. -/
noncomputable def piecesL (es : List E) (out : List Int) (size : Int) : List (List Int) := if GOk size es then comps es out size.toNat else []
open Classical in
noncomputable def oddN (es : List E) (out : List Int) (size : Int) : Int := if GOk size es then (oddSum (comps es out size.toNat) : Nat) else -1
theorem totLL_bnd {b : Nat} : ∀ {ll : List (List Int)}, (∀ l ∈ ll, l.length ≤ b) → totLL ll ≤ b * ll.length
  | [], _ => Nat.zero_le _
  | l :: ll, h => by
    have h1 := h l List.mem_cons_self
    have h2 := totLL_bnd (ll := ll) fun x hx => h x (List.mem_cons_of_mem _ hx)
    simp only [totLL, List.length_cons, Nat.mul_add, Nat.mul_one]
    omega
theorem piecesL_bnd {es : List E} {out : List Int} {size : Int} : (piecesL es out size).length ≤ lim ∧ (∀ l ∈ piecesL es out size, l.length ≤ lim) ∧ (piecesL es out size).length ≤ 1048576 ∧ totLL (piecesL es out size) ≤ 1152921504606846976 := by
  unfold piecesL
  split
  · rename_i g
    have h1 := compsTo_len (es := es) (out := out) (n := size.toNat) (k := size.toNat)
    have h2 : ∀ l ∈ comps es out size.toNat, l.length ≤ 9 := fun l hl => by have := comps_mem_len hl; have := g.1; omega
    have h3 := totLL_bnd h2
    have := g.1
    unfold comps at *
    refine ⟨by unfold lim; omega, fun l hl => by have := h2 l hl; unfold lim; omega, by omega, by omega⟩
  · exact ⟨Nat.zero_le _, (fun l hl => by cases hl), Nat.zero_le _, Nat.zero_le _⟩
section
variable {X : CallF} {h : Heap} {ev ov : Value} {es : List E} {out : List Int} {size : Int}

theorem k_impl_PiecesOf (he : Rows h 5 ev (edges es)) (hout : Rows h 1 ov (ints out)) (hl : es.length ≤ lim) (hol : out.length ≤ lim) :
    ∃ x hh, C T X n_impl_PiecesOf [graphV size ev, ov] h = some (x, hh) ∧ h <+: hh ∧ OwnLL hh h.length hh.length y_ints y_int x (piecesL es out size) := by
  have hk := k_impl_GraphOk (X := X) (size := size) he hl
  refine C_ex t_impl_PiecesOf rfl ?_
  unfold F_impl_PiecesOf piecesL
  by_cases g : GOk size es
  · obtain ⟨x, hh, c, p, o⟩ := k_impl_pieces (X := X) he hout hl hol g.1 (fun e he => gok_mem g he)
    unfold graphV at hk ⊢
    simp only [hk, g, c, go_sem, reduceIte, Nat.reduceEqDiff, Nat.reduceAdd, Nat.reduceMul, Nat.reduceLT, Nat.reduceLeDiff, reduceCtorEq, ne_eq, Int.reduceEq, Int.reduceLT, Int.reduceLE, Int.reduceNeg, Int.reduceToNat]
    exact ⟨o.live, o.fin p⟩
  · unfold graphV at hk ⊢
    simp only [hk, g, go_sem, reduceIte, Nat.reduceEqDiff, Nat.reduceAdd, Nat.reduceMul, Nat.reduceLT, Nat.reduceLeDiff, reduceCtorEq, ne_eq, Int.reduceEq, Int.reduceLT, Int.reduceLE, Int.reduceNeg, Int.reduceToNat]
    exact ⟨List.prefix_refl _, OwnLL.nil⟩

theorem k_spec_PiecesOf (he : Rows h 5 ev (edges es)) (hout : Rows h 1 ov (ints out)) (hl : es.length ≤ lim) (hol : out.length ≤ lim) :
    ∃ x hh, C T X n_spec_PiecesOf [graphV size ev, ov] h = some (x, hh) ∧ h <+: hh ∧ OwnLL hh h.length hh.length y_ints y_int x (piecesL es out size) := by
  have hk := k_spec_GraphOk (X := X) (size := size) he hl
  refine C_ex t_spec_PiecesOf rfl ?_
  unfold F_spec_PiecesOf piecesL
  by_cases g : GOk size es
  · obtain ⟨n, rfl⟩ := Int.eq_ofNat_of_zero_le g.1.1
    obtain ⟨x, hh, c, p, o⟩ := k_spec_l17Parts (X := X) he hout hl hol (n := n) (by have := g.1; omega) (fun e he => gok_mem g he)
    unfold graphV at hk c ⊢
    simp only [hk, g, c, Int.toNat_natCast, go_sem, reduceIte, Nat.reduceEqDiff, Nat.reduceAdd, Nat.reduceMul, Nat.reduceLT, Nat.reduceLeDiff, reduceCtorEq, ne_eq, Int.reduceEq, Int.reduceLT, Int.reduceLE, Int.reduceNeg, Int.reduceToNat]
    exact ⟨o.live, o.fin p⟩
  · unfold graphV at hk ⊢
    simp only [hk, g, zeros, fillAt, go_sem, reduceIte, Nat.reduceEqDiff, Nat.reduceAdd, Nat.reduceMul, Nat.reduceLT, Nat.reduceLeDiff, reduceCtorEq, ne_eq, Int.reduceEq, Int.reduceLT, Int.reduceLE, Int.reduceNeg, Int.reduceToNat]
    exact OwnLL.fin (List.prefix_append _ _) (OwnLL.zero Acc.new.own)

theorem k_impl_OddParts (he : Rows h 5 ev (edges es)) (hout : Rows h 1 ov (ints out)) (hl : es.length ≤ lim) (hol : out.length ≤ lim) :
    C T X n_impl_OddParts [graphV size ev, ov] h = some (.int .i64 (oddN es out size), h) := by
  have hk := k_impl_GraphOk (X := X) (size := size) he hl
  refine C_go t_impl_OddParts rfl ?_
  unfold F_impl_OddParts oddN
  by_cases g : GOk size es
  rotate_left
  · unfold graphV at hk ⊢
    simp only [hk, g, go_sem, reduceIte, Nat.reduceEqDiff, Nat.reduceAdd, Nat.reduceMul, Nat.reduceLT, Nat.reduceLeDiff, reduceCtorEq, ne_eq, Int.reduceEq, Int.reduceLT, Int.reduceLE, Int.reduceNeg, Int.reduceToNat]
  obtain ⟨x, hh, c, p, o⟩ := k_impl_pieces (X := X) he hout hl hol g.1 (fun e he => gok_mem g he)
  have hcl : (comps es out size.toNat).length ≤ 9 := by have := compsTo_len (es := es) (out := out) (n := size.toNat) (k := size.toNat); have := g.1; unfold comps; omega
  unfold graphV at hk ⊢
  simp only [hk, g, c, o.rows.ln, go_sem, reduceIte, Nat.reduceEqDiff, Nat.reduceAdd, Nat.reduceMul, Nat.reduceLT, Nat.reduceLeDiff, reduceCtorEq, ne_eq, Int.reduceEq, Int.reduceLT, Int.reduceLE, Int.reduceNeg, Int.reduceToNat]
  refine w_for (comps es out size.toNat).length (fun i t loc h' => h' = hh ∧ t 5 = .int .i64 (oddSum ((comps es out size.toNat).take i) : Nat) ∧ t 16 = x ∧ t 17 = .int .i64 (comps es out size.toNat).length ∧ t 18 = .int .i64 i) ⟨rfl, rfl, rfl, rfl, rfl⟩ ?_
  rintro i t loc h' hi ⟨rfl, t5, t16, t17, t18⟩
  simp only [t17, t18, go_sem, reduceIte, Nat.reduceEqDiff, Nat.reduceAdd, Nat.reduceMul, Nat.reduceLT, Nat.reduceLeDiff, reduceCtorEq, ne_eq, Int.reduceEq, Int.reduceLT, Int.reduceLE, Int.reduceNeg, Int.reduceToNat]
  refine w_open (by simp only [go_sem, reduceIte, Nat.reduceEqDiff, Nat.reduceAdd, Nat.reduceMul, Nat.reduceLT, Nat.reduceLeDiff, reduceCtorEq, ne_eq, Int.reduceEq, Int.reduceLT, Int.reduceLE, Int.reduceNeg, Int.reduceToNat]; rfl) ?_ ?_ <;> intro hc
  · have hi1 : i < (comps es out size.toNat).length := by omega
    have hw : IntKind.i64.wrap ((i : Int) + 1) = ((i + 1 : Nat) : Int) := w64 (by omega) (by omega)
    obtain ⟨y, e1, e2, e3⟩ := o.rows.el hi1
    have htk := oddSum_take hi1
    have hle : oddSum ((comps es out size.toNat).take i) ≤ 9 := Nat.le_trans oddSum_le (by simp; omega)
    have hm2 : ((((comps es out size.toNat).getD i []).length : Nat) : Int).tmod 2 = ((((comps es out size.toNat).getD i []).length % 2 : Nat) : Int) := rfl
    have hw2 : IntKind.i64.wrap (((oddSum ((comps es out size.toNat).take i) : Nat) : Int) + ((((comps es out size.toNat).getD i []).length % 2 : Nat) : Int)) = ((oddSum ((comps es out size.toNat).take (i + 1)) : Nat) : Int) := by rw [w64 (by omega) (by omega), htk]; omega
    simp only [t5, t16, t17, t18, e1, e2, ints_ln e3, hm2, hw2, hw, go_sem, reduceIte, Nat.reduceEqDiff, Nat.reduceAdd, Nat.reduceMul, Nat.reduceLT, Nat.reduceLeDiff, reduceCtorEq, ne_eq, Int.reduceEq, Int.reduceLT, Int.reduceLE, Int.reduceNeg, Int.reduceToNat]
    exact hi1
  · have hil : i = (comps es out size.toNat).length := by omega
    subst hil
    rw [List.take_length] at t5
    simp only [t5, go_sem, reduceIte, Nat.reduceEqDiff, Nat.reduceAdd, Nat.reduceMul, Nat.reduceLT, Nat.reduceLeDiff, reduceCtorEq, ne_eq, Int.reduceEq, Int.reduceLT, Int.reduceLE, Int.reduceNeg, Int.reduceToNat]
    exact finish_flat rfl p

theorem k_spec_l17Odd (he : Rows h 5 ev (edges es)) (hout : Rows h 1 ov (ints out)) (hl : es.length ≤ lim) (hol : out.length ≤ lim) {n : Nat} (hn : n ≤ 9) (hE : ∀ e ∈ es, EOk n e) :
    C T X n_spec_l17Odd [graphV n ev, ov] h = some (.int .i64 (oddSum (comps es out n) : Nat), h) := by
  refine C_go t_spec_l17Odd rfl ?_
  unfold F_spec_l17Odd
  obtain ⟨x, hh, c, p, o⟩ := k_spec_l17Parts (X := X) he hout hl hol hn hE
  have hcl : (comps es out n).length ≤ 9 := by have := compsTo_len (es := es) (out := out) (n := n) (k := n); unfold comps; omega
  unfold graphV at c ⊢
  simp only [c, go_sem, reduceIte, Nat.reduceEqDiff, Nat.reduceAdd, Nat.reduceMul, Nat.reduceLT, Nat.reduceLeDiff, reduceCtorEq, ne_eq, Int.reduceEq, Int.reduceLT, Int.reduceLE, Int.reduceNeg, Int.reduceToNat]
  refine w_for (comps es out n).length (fun i t loc h' => h' = hh ∧ t 5 = .int .i64 (oddSum ((comps es out n).take i) : Nat) ∧ t 6 = x ∧ t 7 = .int .i64 i) ⟨rfl, rfl, rfl, rfl⟩ ?_
  rintro i t loc h' hi ⟨rfl, t5, t6, t7⟩
  simp only [t6, t7, o.rows.ln, go_sem, reduceIte, Nat.reduceEqDiff, Nat.reduceAdd, Nat.reduceMul, Nat.reduceLT, Nat.reduceLeDiff, reduceCtorEq, ne_eq, Int.reduceEq, Int.reduceLT, Int.reduceLE, Int.reduceNeg, Int.reduceToNat]
  refine w_open (by simp only [go_sem, reduceIte, Nat.reduceEqDiff, Nat.reduceAdd, Nat.reduceMul, Nat.reduceLT, Nat.reduceLeDiff, reduceCtorEq, ne_eq, Int.reduceEq, Int.reduceLT, Int.reduceLE, Int.reduceNeg, Int.reduceToNat]; rfl) ?_ ?_ <;> intro hc
  · have hi1 : i < (comps es out n).length := by omega
    have hw : IntKind.i64.wrap ((i : Int) + 1) = ((i + 1 : Nat) : Int) := w64 (by omega) (by omega)
    obtain ⟨y, e1, e2, e3⟩ := o.rows.el hi1
    have htk := oddSum_take hi1
    have hle : oddSum ((comps es out n).take i) ≤ 9 := Nat.le_trans oddSum_le (by simp; omega)
    have hm2 : ((((comps es out n).getD i []).length : Nat) : Int).tmod 2 = ((((comps es out n).getD i []).length % 2 : Nat) : Int) := rfl
    have hw2 : IntKind.i64.wrap (((oddSum ((comps es out n).take i) : Nat) : Int) + ((((comps es out n).getD i []).length % 2 : Nat) : Int)) = ((oddSum ((comps es out n).take (i + 1)) : Nat) : Int) := by rw [w64 (by omega) (by omega), htk]; omega
    simp only [t5, t6, t7, e1, e2, ints_ln e3, hm2, hw2, hw, go_sem, reduceIte, Nat.reduceEqDiff, Nat.reduceAdd, Nat.reduceMul, Nat.reduceLT, Nat.reduceLeDiff, reduceCtorEq, ne_eq, Int.reduceEq, Int.reduceLT, Int.reduceLE, Int.reduceNeg, Int.reduceToNat]
    exact hi1
  · have hil : i = (comps es out n).length := by omega
    subst hil
    rw [List.take_length] at t5
    simp only [t5, go_sem, reduceIte, Nat.reduceEqDiff, Nat.reduceAdd, Nat.reduceMul, Nat.reduceLT, Nat.reduceLeDiff, reduceCtorEq, ne_eq, Int.reduceEq, Int.reduceLT, Int.reduceLE, Int.reduceNeg, Int.reduceToNat]
    exact finish_flat rfl p

theorem k_spec_OddParts (he : Rows h 5 ev (edges es)) (hout : Rows h 1 ov (ints out)) (hl : es.length ≤ lim) (hol : out.length ≤ lim) :
    C T X n_spec_OddParts [graphV size ev, ov] h = some (.int .i64 (oddN es out size), h) := by
  have hk := k_spec_GraphOk (X := X) (size := size) he hl
  refine C_go t_spec_OddParts rfl ?_
  unfold F_spec_OddParts oddN
  by_cases g : GOk size es
  · obtain ⟨n, rfl⟩ := Int.eq_ofNat_of_zero_le g.1.1
    have c := k_spec_l17Odd (X := X) he hout hl hol (n := n) (by have := g.1; omega) (fun e he => gok_mem g he)
    unfold graphV at hk c ⊢
    simp only [hk, g, c, Int.toNat_natCast, go_sem, reduceIte, Nat.reduceEqDiff, Nat.reduceAdd, Nat.reduceMul, Nat.reduceLT, Nat.reduceLeDiff, reduceCtorEq, ne_eq, Int.reduceEq, Int.reduceLT, Int.reduceLE, Int.reduceNeg, Int.reduceToNat]
  · unfold graphV at hk ⊢
    simp only [hk, g, go_sem, reduceIte, Nat.reduceEqDiff, Nat.reduceAdd, Nat.reduceMul, Nat.reduceLT, Nat.reduceLeDiff, reduceCtorEq, ne_eq, Int.reduceEq, Int.reduceLT, Int.reduceLE, Int.reduceNeg, Int.reduceToNat]
end
end Go.Proofs.Ytlndlccbecnjoaa.Ab
