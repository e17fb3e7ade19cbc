/- FnExactReadScript: whatever the arguments, the law returns true and its arguments read as before. No conditions. -/
import Derived.Test.YthfeahanmbmjhaaGreatDoorM10
import Derived.Test.YthfeahanmbmjhaaGreatDoorX3
import Derived.Test.YthfeahanmbmjhaaGreatDoorCards
import Derived.Test.YthfeahanmbmjhaaGreatDoorTie
import Derived.SevenTiedAt
import Derived.Test.YthfeahanmbmjhaaGreatDoorM15
import Derived.WalkKit
import Derived.ProofKit
import Derived.OpenShut
import Derived.ChangeOld
import Derived.Below
import Derived.SizedLaws
namespace Go.Proofs.YthfeahanmbmjhaaGreatDoor.Ab.fnExactReadScript
open Go.ChangeShapes Go.WideShapes Go.ChangeAt Go.RowKit
theorem own : ownKnob Tryz.prog.godebug = none := by kernel_rfl
theorem hp : paramsK Tryz.prog Tryz.f3.params.toList = some ps_FnExactReadScript := by kernel_rfl
theorem rd : (Tryz.f3.params.toList.all fun t => Tryz.prog.readableRec t && decide (t < Tryz.prog.types.size)) = true := by kernel_rfl
theorem laid : laidOutB Tryz.prog = true := by kernel_rfl
set_option maxRecDepth 100000 in
theorem lifted (os : Os) (started : os.Started) (H : Type) (enc : TypeId × Value → H) :
    ReturnsInHanded {} Tryz.checked os 3 .any (fun w args => (Rows.fnExactReadScriptSpec.pre enc Tryz.prog Tryz.f3 Rows.fnExactReadScriptRow.domain false w args ∧ laidMetH Tryz.prog laidL w) ∧ sizedMet enc Tryz.prog Tryz.f3 (OpenSpec.ofChange Rows.fnExactReadScriptSpec) false w args)
      (Rows.fnExactReadScriptSpec.post enc Tryz.prog Tryz.f3 false true false false) := by
  refine returnsInHanded_of_change_and (C := Tryz.checked) (X := fun w _ => laidMetH Tryz.prog laidL w) (fun _ _ _ hh h => h.of_heap hh) own started (by kernel_rfl) Tryz.func3
    (ChangeSpec.witness_shaped (enc := enc) (C := Tryz.checked) (os := os) (X := fun w _ => laidMetH Tryz.prog laidL w) false (World.laidAll Tryz.prog os laidL) #[.string ByteArray.empty] 8 (World.laidAll_os _ _ _)
      (World.shaped_of_ZipB (by kernel_rfl) (by kernel_rfl)) (by kernel_rfl) (by kernel_rfl) (by kernel_rfl)
      (by rw [MakeChecks.laidMetH_plain _ _ _ (by kernel_rfl)]; exact laidMet_laidAll _ (by kernel_rfl) (by kernel_rfl))) ?_
  intro W base args ds gs before hval hW _ _ hL _
  have hW' := hW
  obtain ⟨p, q, hA, hV, rfl, _, _⟩ := hW
  obtain ⟨rfl, rfl⟩ := trodVars_none hV
  obtain ⟨d0, rfl⟩ := len1 ((trodAll_len hA).trans rfl : ds.length = 1)
  refine (law_calls (fun n => sound (lib_soundS (libW_of hL)) n) hp law_FnExactReadScript hA (fun j t v h1 h2 => hval j t v (by simpa using h1) (by simpa using h2))).mono fun e W' ⟨he, bel⟩ => ?_
  subst he
  have hlt : ∀ x ∈ p, x.block < W.heap.size := fun x hx => by simpa using hW'.lt x (by simpa using hx)
  exact ⟨_, rfl, _, _, _, [], _, [], hW', trodAll_mk1 (shut_bool Tryz.underlying4 _), trodAll_below laid rd hA bel hlt, rfl, bel.frame _, fun h => by cases h⟩
theorem j1 : (Rows.fnExactReadScriptRow.inPlace == Tryz.pinned.checked.prog.inPlace 3) = true := by kernel_rfl
theorem j2 : (Rows.fnExactReadScriptRow.unfollowed == Tryz.pinned.checked.prog.unfollowed 3) = true := by kernel_rfl
theorem j3 : (Rows.fnExactReadScriptRow.recurses == Tryz.pinned.checked.prog.recurses 3) = true := by kernel_rfl
theorem j4 : (Rows.fnExactReadScriptRow.named == Tryz.pinned.checked.prog.varsNamed 3) = true := by kernel_rfl
theorem j5' : (Rows.fnExactReadScriptRow.plainKeys == Tryz.pinned.checked.prog.plainKeys) = true := j5
theorem j8' : (Rows.fnExactReadScriptRow.lifted == Tryz.pinned.checked.prog.liftsFinal) = true := j8
theorem j9' : (Tryz.pinned.checked.prog.make == some Rows.fnExactReadScriptRow.make) = true := j9
theorem closed : joinedFacts Tryz.pinned.checked.prog 3 Tryz.f3 Rows.fnExactReadScriptSpec Rows.fnExactReadScriptRow = true := by
  unfold joinedFacts
  rw [j1, j2, j3, j4, j5', j6, j7, j8', j9', j10, j11]
  kernel_rfl
theorem over : Rows.fnExactReadScriptRow.holds Tryz.pinned (OpenSpec.ofChange Rows.fnExactReadScriptSpec) :=
  OpenClaim.holds_of_wide 3 Tryz.f3 rfl rfl rfl rfl rfl rfl rfl ⟨rfl, rfl, rfl, rfl, rfl⟩ rfl rfl rfl rfl rfl (by kernel_rfl) Tryz.func3 closed
    (of_decide_eq_true (by kernel_rfl)) (by unfold Func.isWrapper; first | (rw [if_pos (by decide +kernel)]; kernel_rfl) | (rw [if_neg (by decide +kernel)]; exact ⟨rfl, rfl⟩))
    (fun os started H enc _ => lifted os started H enc)
theorem goes : false = Rows.fnExactReadScriptRow.goesBy Tryz.pinned.checked.prog := by kernel_rfl
theorem card : Rows.FnExactReadScriptCardSaid :=
  Claim7.holds_tied_plain_at .later [] [.data, .data, .data, .data, .sentinel, .sentinel, .pinned] true (true, "c2be23ea4dc65acf5f70f4a1e17e71f7a39621635189f63a9cf51b75736daae5") true
    over (fun _ h => by cases h) (by kernel_rfl) (fun _ h => by cases h) fnExactReadScript_row_tie rfl ⟨rfl, rfl⟩ mn rfl
    (fun f fn hf hfn => by
      obtain rfl : f = 3 := Option.some.inj ((show Tryz.prog.funcNamed "loop.example/g00105/laws.FnExactReadScript" = some 3 by kernel_rfl).symm.trans hf) |>.symm
      obtain rfl : fn = Tryz.f3 := (Option.some.inj (Tryz.func3.symm.trans hfn)).symm
      have hall : (Tryz.f3.params.toList.all fun u => !Tryz.prog.wantsStandIn u) = true := by kernel_rfl
      exact ⟨lks, fun j t ht => by
        have hm : t ∈ Tryz.f3.params.toList := by simpa using Array.mem_of_getElem? ht
        exact (show Tryz.prog.wantsStandIn t = false by simpa using List.all_eq_true.1 hall t hm)⟩)
    goes
end Go.Proofs.YthfeahanmbmjhaaGreatDoor.Ab.fnExactReadScript
namespace Go.Proofs.YthfeahanmbmjhaaGreatDoor
/-- The card, under a short name, for the claim. -/
theorem fnExactReadScript_holds : Rows.FnExactReadScriptCardSaid := Ab.fnExactReadScript.card
#print axioms fnExactReadScript_holds
end Go.Proofs.YthfeahanmbmjhaaGreatDoor
