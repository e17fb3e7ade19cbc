/- A law's call, from the arguments as they are read to the answer. No conditions. -/
import Derived.Test.YtlndlccbecnjoaaOp0
import Derived.Test.YtlndlccbecnjoaaFT
import Derived.OpenShut
import Derived.Below
import Derived.Carry
import Derived.ChangeShapes
import Derived.WideShapes
namespace Go.Proofs.Ytlndlccbecnjoaa.Ab
set_option linter.unusedSimpArgs false
set_option linter.unusedVariables false
set_option linter.unnecessarySimpa false
open Go.RowKit

def isRow (P : Program) (t : TypeId) : Bool := match P.underlying t with
  | some (.struct _) => true
  | _ => false

def paramsK (P : Program) : List TypeId → Option (List (Bool × List CK))
  | [] => some []
  | t :: ts => match kindsOf P 12 t, paramsK P ts with
    | some ks, some ps => some ((isRow P t, ks) :: ps)
    | _, _ => none

/-- An argument of these cells. -/
def ArgOk (h : Heap) (p : Bool × List CK) (v : Value) : Prop := ∃ acs, All2 (Shape h) p.2 acs ∧ if p.1 = true then v = .agg ⟨acs⟩ else acs = [v]

theorem ArgOk.up {h h' : Heap} (hp : h <+: h') {p : Bool × List CK} {v : Value} (a : ArgOk h p v) : ArgOk h' p v := by
  obtain ⟨acs, h1, h2⟩ := a
  exact ⟨acs, h1.imp fun _ _ k => k.up hp, h2⟩

theorem HRel.empty {μ : Map} {w : World} : HRel μ [] w := ⟨fun b _ h => by simp at h, fun b _ h => by simp at h, fun b _ h => by simp at h, fun b _ h => by simp at h, fun b _ _ _ h => by simp at h⟩
theorem NoOwn.empty : NoOwn [] := fun b _ h => by simp at h

section
variable {H : Type} {enc : TypeId × Value → H} {P : Program} {W : World} {base : Nat}

theorem okWide_one {t : TypeId} {v : Value} {ks : List CK} {n : Nat} (hk : kindsOf P (n + 1) t = some ks) (hs : isRow P t = false) (h : Value.okWide P W .any base t v) : v.cells.toList = [v] := by
  unfold isRow at hs
  simp only [kindsOf] at hk
  unfold Value.okWide Cell.okWide Cell.ok at h
  cases hu : P.underlying t with
  | none => rw [hu] at hk; cases hk
  | some d =>
    rw [hu] at hk h hs
    cases d <;> simp only [Bool.true_eq_false] at hs <;> (try (cases hk; done)) <;> cases v <;> first | rfl | exact h.elim

theorem opens_args : ∀ (ts : List TypeId) (ps : List (Bool × List CK)) (vs : List Value) (ds : List (DataW H)) (pl : List MemPlace), paramsK P ts = some ps → DataW.TrodAll enc P W 0 (fun _ => true) true ts vs ds pl →
    (∀ (j : Nat) (t : TypeId) (v : Value), ts[j]? = some t → vs[j]? = some v → Value.okWide P W .any base t v) →
    ∀ (h : Heap) (μ : Map), HRel μ h W → NoOwn h → ∃ (h' : Heap) (μ' : Map) (avs : List Value), h <+: h' ∧ Up μ h μ' h' ∧ HRel μ' h' W ∧ NoOwn h' ∧ All2 (VR μ' h') avs vs ∧ All2 (ArgOk h') ps avs
  | [], ps, vs, ds, pl, hp, ht, _, h, μ, R, N => by
    simp [paramsK] at hp
    subst hp
    obtain ⟨rfl, _, _⟩ := Go.ChangeShapes.trodAll_nil ht
    exact ⟨h, μ, [], List.prefix_refl _, Up.refl _ _, R, N, All2.nil, All2.nil⟩
  | t :: ts, ps, vs, ds, pl, hp, ht, hw, h, μ, R, N => by
    simp only [paramsK] at hp
    split at hp
    · rename_i ks ps' hk hps
      cases hp
      obtain ⟨v, vs', d, ds', p, q, rfl, rfl, rfl, ⟨fuel, hf⟩, htr⟩ := Go.ChangeShapes.trodAll_cons ht
      obtain ⟨h1, μ1, acs, p1, u1, R1, N1, v1, s1⟩ := opens_kinds (fun _ => rfl) 12 t ks hk fuel _ _ hf h μ R N
      obtain ⟨h2, μ2, avs, p2, u2, R2, N2, v2, s2⟩ := opens_args ts ps' vs' ds' q hps htr (fun j t v h1 h2 => hw (j + 1) t v (by simpa using h1) (by simpa using h2)) h1 μ1 R1 N1
      have hv := hw 0 t v rfl rfl
      have vv : All2 (VR1 μ2 h2) acs v.cells.toList := v1.imp fun _ _ k => .base _ _ (k.up u2)
      cases hr : isRow P t with
      | true =>
        have hst : ∃ cs : Array Value, v = .agg cs := by
          unfold isRow at hr
          split at hr
          · rename_i fs hu
            obtain ⟨cs, hcs, _⟩ := Go.WideShapes.okWide_struct hu hv
            exact ⟨cs, hcs⟩
          · cases hr
        obtain ⟨⟨cs⟩, rfl⟩ := hst
        exact ⟨h2, μ2, .agg ⟨acs⟩ :: avs, p1.trans p2, u1.trans u2, R2, N2, All2.cons (.val _ _ (.agg _ _ vv)) v2, All2.cons ⟨acs, s1.imp fun _ _ k => k.up p2, by simp⟩ s2⟩
      | false =>
        have h1c := okWide_one hk hr hv
        rw [h1c] at vv
        have hal : acs.length = 1 := vv.1
        match acs, hal with
        | [av], _ =>
          exact ⟨h2, μ2, av :: avs, p1.trans p2, u1.trans u2, R2, N2, All2.cons (.val _ _ (.one _ _ (vv.2 0 av v rfl rfl))) v2, All2.cons ⟨[av], s1.imp fun _ _ k => k.up p2, by simp⟩ s2⟩
    · cases hp

theorem trodAll_below {W' : World} (hl : laidOutB P = true) : ∀ {ts : List TypeId} {vs : List Value} {ds : List (DataW H)} {pl : List MemPlace}, (ts.all fun t => P.readableRec t && decide (t < P.types.size)) = true → DataW.TrodAll enc P W 0 (fun _ => true) true ts vs ds pl →
    Below W.heap.size W W' → (∀ x ∈ pl, x.block < W.heap.size) → DataW.TrodAll enc P W' 0 (fun b => decide (b < W.heap.size)) true ts vs ds pl
  | [], vs, ds, pl, _, h, _, _ => by
    obtain ⟨rfl, rfl, rfl⟩ := Go.ChangeShapes.trodAll_nil h
    rfl
  | t :: ts, vs, ds, pl, hr, h, hb, hlt => by
    obtain ⟨v, vs', d, ds', p, q, rfl, rfl, rfl, h1, h2⟩ := Go.ChangeShapes.trodAll_cons h
    simp only [List.all_cons, Bool.and_eq_true, decide_eq_true_eq] at hr
    exact ⟨p, q, Below.trod hl hr.1.1 hr.1.2 h1 hb (fun x hx => hlt x (List.mem_append_left _ hx)), trodAll_below hl (by simpa using hr.2) h2 hb (fun x hx => hlt x (List.mem_append_right _ hx)), rfl⟩

end

def noX : CallF := fun _ _ _ => none

/-- A law that is true of all arguments, in the small language, is so in the machine. -/
theorem law_calls {H : Type} {enc : TypeId × Value → H} {P : Program} {f : FuncId} {ts : List TypeId} {ps : List (Bool × List CK)} (sound : ∀ n, SoundC P (call T noX n)) (hp : paramsK P ts = some ps)
    (law : ∀ (h : Heap) (avs : List Value), All2 (ArgOk h) ps avs → C T noX f avs h = some (.bool true, h))
    {W : World} {base : Nat} {args : Array Value} {ds : List (DataW H)} {pl : List MemPlace} (ht : DataW.TrodAll enc P W 0 (fun _ => true) true ts args.toList ds pl)
    (hw : ∀ (j : Nat) (t : TypeId) (v : Value), ts[j]? = some t → args.toList[j]? = some v → Value.okWide P W .any base t v) :
    Calls P f args W fun e W' => e = .returned (.bool true) ∧ Below W.heap.size W W' := by
  obtain ⟨h, μ, avs, _, _, R, N, va, sa⟩ := opens_args ts ps args.toList ds pl hp ht hw [] (fun _ => ⟨0, 0, 0⟩) HRel.empty NoOwn.empty
  obtain ⟨n, hn⟩ := C_to T noX (law h avs sa)
  obtain ⟨_, hc⟩ := sound n f avs h _ _ hn
  have := hc μ W args.toList R va
  refine this.mono fun e W' hq => ?_
  obtain ⟨v', μ', rfl, h1, h2, h3⟩ := hq
  refine ⟨by rw [h1.bool], h3.frame.os, h3.frame.tape, h3.frame.output, h3.frame.size, fun k hk => h3.frame.block k hk ?_⟩
  rintro ⟨b, blk, hb, ho, _⟩
  rw [N b blk hb] at ho
  cases ho

end Go.Proofs.Ytlndlccbecnjoaa.Ab
