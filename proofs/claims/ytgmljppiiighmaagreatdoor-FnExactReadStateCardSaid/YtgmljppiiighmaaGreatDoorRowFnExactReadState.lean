/- FnExactReadState: whatever the arguments, the law returns true and its arguments read as before. No conditions. -/
import Derived.Test.YtgmljppiiighmaaGreatDoorX2
import Derived.Test.YtgmljppiiighmaaGreatDoorX3
import Derived.Test.YtgmljppiiighmaaGreatDoorCards
import Derived.Test.YtgmljppiiighmaaGreatDoorTie
import Derived.SevenTiedAt
import Derived.Test.YtgmljppiiighmaaGreatDoorM20
import Derived.WalkKit
import Derived.ProofKit
import Derived.OpenShut
import Derived.ChangeOld
import Derived.Below
import Derived.SizedLaws
namespace Go.Proofs.YtgmljppiiighmaaGreatDoor.Ab.fnExactReadState
open Go.ChangeShapes Go.WideShapes Go.ChangeAt Go.RowKit
theorem own : ownKnob Tryz.prog.godebug = none := by kernel_rfl
theorem hp : paramsK Tryz.prog Tryz.f6.params.toList = some ps_FnExactReadState := by kernel_rfl
theorem rd : (Tryz.f6.params.toList.all fun t => Tryz.prog.readableRec t && decide (t < Tryz.prog.types.size)) = true := by kernel_rfl
theorem laid : laidOutB Tryz.prog = true := by kernel_rfl
set_option maxRecDepth 100000 in
theorem lifted (os : Os) (started : os.Started) (H : Type) (enc : TypeId × Value → H) :
    ReturnsInHanded {} Tryz.checked os 6 .any (fun w args => (Rows.fnExactReadStateSpec.pre enc Tryz.prog Tryz.f6 Rows.fnExactReadStateRow.domain false w args ∧ laidMetH Tryz.prog laidL w) ∧ sizedMet enc Tryz.prog Tryz.f6 (OpenSpec.ofChange Rows.fnExactReadStateSpec) false w args)
      (Rows.fnExactReadStateSpec.post enc Tryz.prog Tryz.f6 false true false false) := by
  refine returnsInHanded_of_change_and (C := Tryz.checked) (X := fun w _ => laidMetH Tryz.prog laidL w) (fun _ _ _ hh h => h.of_heap hh) own started (by kernel_rfl) Tryz.func6
    (ChangeSpec.witness_shaped (enc := enc) (C := Tryz.checked) (os := os) (X := fun w _ => laidMetH Tryz.prog laidL w) false (World.laidAll Tryz.prog os laidL) #[.string ByteArray.empty] 8 (World.laidAll_os _ _ _)
      (World.shaped_of_ZipB (by kernel_rfl) (by kernel_rfl)) (by kernel_rfl) (by kernel_rfl) (by kernel_rfl)
      (by rw [MakeChecks.laidMetH_plain _ _ _ (by kernel_rfl)]; exact laidMet_laidAll _ (by kernel_rfl) (by kernel_rfl))) ?_
  intro W base args ds gs before hval hW _ _ hL _
  have hW' := hW
  obtain ⟨p, q, hA, hV, rfl, _, _⟩ := hW
  obtain ⟨rfl, rfl⟩ := trodVars_none hV
  obtain ⟨d0, rfl⟩ := len1 ((trodAll_len hA).trans rfl : ds.length = 1)
  refine (law_calls (fun n => sound (lib_sound (libW_of hL)) n) hp law_FnExactReadState hA (fun j t v h1 h2 => hval j t v (by simpa using h1) (by simpa using h2))).mono fun e W' ⟨he, bel⟩ => ?_
  subst he
  have hlt : ∀ x ∈ p, x.block < W.heap.size := fun x hx => by simpa using hW'.lt x (by simpa using hx)
  exact ⟨_, rfl, _, _, _, [], _, [], hW', trodAll_mk1 (shut_bool Tryz.underlying4 _), trodAll_below laid rd hA bel hlt, rfl, bel.frame _, fun h => by cases h⟩
theorem j1 : (Rows.fnExactReadStateRow.inPlace == Tryz.pinned.checked.prog.inPlace 6) = true := by kernel_rfl
theorem j2 : (Rows.fnExactReadStateRow.unfollowed == Tryz.pinned.checked.prog.unfollowed 6) = true := by kernel_rfl
theorem j3 : (Rows.fnExactReadStateRow.recurses == Tryz.pinned.checked.prog.recurses 6) = true := by kernel_rfl
theorem j4 : (Rows.fnExactReadStateRow.named == Tryz.pinned.checked.prog.varsNamed 6) = true := by kernel_rfl
theorem j5' : (Rows.fnExactReadStateRow.plainKeys == Tryz.pinned.checked.prog.plainKeys) = true := j5
theorem j8' : (Rows.fnExactReadStateRow.lifted == Tryz.pinned.checked.prog.liftsFinal) = true := j8
theorem j9' : (Tryz.pinned.checked.prog.make == some Rows.fnExactReadStateRow.make) = true := j9
theorem closed : joinedFacts Tryz.pinned.checked.prog 6 Tryz.f6 Rows.fnExactReadStateSpec Rows.fnExactReadStateRow = true := by
  unfold joinedFacts
  rw [j1, j2, j3, j4, j5', j6, j7, j8', j9', j10, j11]
  kernel_rfl
theorem over : Rows.fnExactReadStateRow.holds Tryz.pinned (OpenSpec.ofChange Rows.fnExactReadStateSpec) :=
  OpenClaim.holds_of_wide 6 Tryz.f6 rfl rfl rfl rfl rfl rfl rfl ⟨rfl, rfl, rfl, rfl, rfl⟩ rfl rfl rfl rfl rfl (by kernel_rfl) Tryz.func6 closed
    (of_decide_eq_true (by kernel_rfl)) (by unfold Func.isWrapper; first | (rw [if_pos (by decide +kernel)]; kernel_rfl) | (rw [if_neg (by decide +kernel)]; exact ⟨rfl, rfl⟩))
    (fun os started H enc _ => lifted os started H enc)
theorem goes : false = Rows.fnExactReadStateRow.goesBy Tryz.pinned.checked.prog := by kernel_rfl
theorem card : Rows.FnExactReadStateCardSaid :=
  Claim7.holds_tied_plain_at .later [] [.data, .data, .data, .sentinel, .sentinel] true (true, "877b525deb360c29a8466a12d7e617f1cb2fb2ef1bd18d5f7237d30fcfaba503") true
    over (fun _ h => by cases h) (by kernel_rfl) (fun _ h => by cases h) fnExactReadState_row_tie rfl ⟨rfl, rfl⟩ mn rfl
    (fun f fn hf hfn => by
      obtain rfl : f = 6 := Option.some.inj ((show Tryz.prog.funcNamed "loop.example/g00105/laws.FnExactReadState" = some 6 by kernel_rfl).symm.trans hf) |>.symm
      obtain rfl : fn = Tryz.f6 := (Option.some.inj (Tryz.func6.symm.trans hfn)).symm
      have hall : (Tryz.f6.params.toList.all fun u => !Tryz.prog.wantsStandIn u) = true := by kernel_rfl
      exact ⟨lks, fun j t ht => by
        have hm : t ∈ Tryz.f6.params.toList := by simpa using Array.mem_of_getElem? ht
        exact (show Tryz.prog.wantsStandIn t = false by simpa using List.all_eq_true.1 hall t hm)⟩)
    goes
end Go.Proofs.YtgmljppiiighmaaGreatDoor.Ab.fnExactReadState
namespace Go.Proofs.YtgmljppiiighmaaGreatDoor
/-- The card, under a short name, for the claim. -/
theorem fnExactReadState_holds : Rows.FnExactReadStateCardSaid := Ab.fnExactReadState.card
#print axioms fnExactReadState_holds
end Go.Proofs.YtgmljppiiighmaaGreatDoor
