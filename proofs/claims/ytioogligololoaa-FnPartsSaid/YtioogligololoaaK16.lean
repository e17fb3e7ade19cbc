/- Contracts: the parts of a graph, how many are odd. No conditions. -/
import Derived.Test.YtioogligololoaaK15
set_option linter.unusedSimpArgs false
set_option linter.unusedVariables false
set_option linter.unnecessarySimpa false
set_option maxHeartbeats 4000000
namespace Go.Proofs.Ytioogligololoaa.Ab
open Go.RowKit
open Classical in
/-- The parts, where the graph is right. -/
noncomputable def piecesL (es : List E) (out : List Int) (size : Int) : List (List Int) := if GOk size es then comps es out size.toNat else []
open Classical in
noncomputable def oddN (es : List E) (out : List Int) (size : Int) : Int := if GOk size es then (oddSum (comps es out size.toNat) : Nat) else -1
theorem totLL_bnd {b : Nat} : ∀ {ll : List (List Int)}, (∀ l ∈ ll, l.length ≤ b) → totLL ll ≤ b * ll.length
  | [], _ => Nat.zero_le _
  | l :: ll, h => by
    have h1 := h l List.mem_cons_self
    have h2 := totLL_bnd (ll := ll) fun x hx => h x (List.mem_cons_of_mem _ hx)
    simp only [totLL, List.length_cons, Nat.mul_add, Nat.mul_one]
    omega
theorem piecesL_bnd {es : List E} {out : List Int} {size : Int} : (piecesL es out size).length ≤ lim ∧ (∀ l ∈ piecesL es out size, l.length ≤ lim) ∧ (piecesL es out size).length ≤ 1048576 ∧ totLL (piecesL es out size) ≤ 1152921504606846976 := by
  unfold piecesL
  split
  · rename_i g
    have h1 := compsTo_len (es := es) (out := out) (n := size.toNat) (k := size.toNat)
    have h2 : ∀ l ∈ comps es out size.toNat, l.length ≤ 9 := fun l hl => by have := comps_mem_len hl; have := g.1; omega
    have h3 := totLL_bnd h2
    have := g.1
    unfold comps at *
    refine ⟨by unfold lim; omega, fun l hl => by have := h2 l hl; unfold lim; omega, by omega, by omega⟩
  · exact ⟨Nat.zero_le _, (fun l hl => by cases hl), Nat.zero_le _, Nat.zero_le _⟩
section
variable {X : CallF} {h : Heap} {ev ov : Value} {es : List E} {out : List Int} {size : Int}

theorem k_impl_PiecesOf (he : Rows h 5 ev (edges es)) (hout : Rows h 1 ov (ints out)) (hl : es.length ≤ lim) (hol : out.length ≤ lim) :
    ∃ x hh, C T X n_impl_PiecesOf [graphV size ev, ov] h = some (x, hh) ∧ h <+: hh ∧ OwnLL hh h.length hh.length y_ints y_int x (piecesL es out size) := by
  have hk := k_impl_GraphOk (X := X) (size := size) he hl
  refine C_ex t_impl_PiecesOf rfl ?_
  unfold F_impl_PiecesOf piecesL
  by_cases g : GOk size es
  · obtain ⟨x, hh, c, p, o⟩ := k_impl_pieces (X := X) he hout hl hol g.1 (fun e he => gok_mem g he)
    unfold graphV at hk ⊢
    simp only [hk, g, c, go_sem, reduceIte, Nat.reduceEqDiff, Nat.reduceAdd, Nat.reduceMul, Nat.reduceLT, Nat.reduceLeDiff, reduceCtorEq, ne_eq, Int.reduceEq, Int.reduceLT, Int.reduceLE, Int.reduceNeg, Int.reduceToNat]
    exact ⟨o.live, o.fin p⟩
  · unfold graphV at hk ⊢
    simp only [hk, g, go_sem, reduceIte, Nat.reduceEqDiff, Nat.reduceAdd, Nat.reduceMul, Nat.reduceLT, Nat.reduceLeDiff, reduceCtorEq, ne_eq, Int.reduceEq, Int.reduceLT, Int.reduceLE, Int.reduceNeg, Int.reduceToNat]
    exact ⟨List.prefix_refl _, OwnLL.nil⟩

theorem k_spec_PiecesOf (he : Rows h 5 ev (edges es)) (hout : Rows h 1 ov (ints out)) (hl : es.length ≤ lim) (hol : out.length ≤ lim) :
    ∃ x hh, C T X n_spec_PiecesOf [graphV size ev, ov] h = some (x, hh) ∧ h <+: hh ∧ OwnLL hh h.length hh.length y_ints y_int x (piecesL es out size) := by
  have hk := k_spec_GraphOk (X := X) (size := size) he hl
  refine C_ex t_spec_PiecesOf rfl ?_
  unfold F_spec_PiecesOf piecesL
  by_cases g : GOk size es
  · obtain ⟨n, rfl⟩ := Int.eq_ofNat_of_zero_le g.1.1
    obtain ⟨x, hh, c, p, o⟩ := k_spec_l17Parts (X := X) he hout hl hol (n := n) (by have := g.1; omega) (fun e he => gok_mem g he)
    unfold graphV at hk c ⊢
    simp only [hk, g, c, Int.toNat_natCast, go_sem, reduceIte, Nat.reduceEqDiff, Nat.reduceAdd, Nat.reduceMul, Nat.reduceLT, Nat.reduceLeDiff, reduceCtorEq, ne_eq, Int.reduceEq, Int.reduceLT, Int.reduceLE, Int.reduceNeg, Int.reduceToNat]
    exact ⟨o.live, o.fin p⟩
  · unfold graphV at hk ⊢
    simp only [hk, g, zeros, fillAt, go_sem, reduceIte, Nat.reduceEqDiff, Nat.reduceAdd, Nat.reduceMul, Nat.reduceLT, Nat.reduceLeDiff, reduceCtorEq, ne_eq, Int.reduceEq, Int.reduceLT, Int.reduceLE, Int.reduceNeg, Int.reduceToNat]
    exact OwnLL.fin (List.prefix_append _ _) (OwnLL.zero Acc.new.own)

end
end Go.Proofs.Ytioogligololoaa.Ab
