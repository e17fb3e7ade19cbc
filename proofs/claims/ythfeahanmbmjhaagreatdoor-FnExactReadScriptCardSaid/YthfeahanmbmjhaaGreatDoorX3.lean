/- What is asked of the program once, for all rows. No conditions. -/
import Derived.Test.YthfeahanmbmjhaaGreatDoorRows
import Derived.WalkKit
import Derived.ProofKit
import Derived.OpenShut
import Derived.SevenTiedAt
set_option linter.unusedSimpArgs false
set_option linter.unusedVariables false
set_option linter.unnecessarySimpa false
set_option maxHeartbeats 4000000
namespace Go.Proofs.YthfeahanmbmjhaaGreatDoor.Ab
open Go.ChangeShapes Go.WideShapes Go.ChangeAt Go.RowKit
theorem j5 : (Rows.fnExactReadScriptRow.plainKeys == Tryz.pinned.checked.prog.plainKeys) = true := by kernel_rfl
theorem j6 : Tryz.pinned.checked.prog.stopsHeard = true := by kernel_rfl
theorem j7 : Tryz.pinned.checked.prog.mayEnter = true := by kernel_rfl
theorem j8 : (Rows.fnExactReadScriptRow.lifted == Tryz.pinned.checked.prog.liftsFinal) = true := by kernel_rfl
theorem j9 : (Tryz.pinned.checked.prog.make == some Rows.fnExactReadScriptRow.make) = true := by kernel_rfl
theorem j10 : laidOutB Tryz.pinned.checked.prog = true := by kernel_rfl
theorem j11 : mapsRowed Tryz.pinned.checked.prog = true := by kernel_rfl
theorem mn : Tryz.pinned.checked.prog.mainIs = some ((true, "c2be23ea4dc65acf5f70f4a1e17e71f7a39621635189f63a9cf51b75736daae5").1, (true, "c2be23ea4dc65acf5f70f4a1e17e71f7a39621635189f63a9cf51b75736daae5").2.toList) := by kernel_rfl
theorem lks : true = Tryz.pinned.checked.prog.looks [] := by kernel_rfl
end Go.Proofs.YthfeahanmbmjhaaGreatDoor.Ab
