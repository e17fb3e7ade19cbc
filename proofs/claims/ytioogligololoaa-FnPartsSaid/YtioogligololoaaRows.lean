/-
  No cell of these rows narrows 'for every input' (looked for: loops, veiled, ifaces, maps, wideKeys, modest, calm, conditions, laid).
  DERIVED. THE GIVEN ROWS OF THIS SEAT. 5 by the template 'for every input the law returns true; each argument reads behind the call as it read before'; 0 by the template 'total and deterministic' (their statements: YtioogligololoaaTotals.lean).
  GIVEN WITH THE SEED: the statements are not yours to turn. If you find one false, say at which input.
  Laid BY PROGRAM, IN A SANDBOX (cutbox-rows.mjs): the forced cells as the released guide's own fill.sh prints them over the translation 322a471bb2f8dd4e… (all of the seat's roots in one cut). By AI agents, Wed Nov 11 2026. No macro, syntax, notation, axiom, sorry.
-/
import Derived.Test.YtioogligololoaaChecked
import GoSem.Claim
import GoSem.ClaimJoined
import GoSem.ClaimMapViews
import Derived.JoinedTies
import Derived.KernelRfl
namespace Go.Proofs.Ytioogligololoaa
/- THE CELL 'sum', in the pinned program and in every row, IS THE sha256 OF THE DUMP (.gsa) THAT YtioogligololoaaProg.lean LOADS. Nothing in Lean hashes anything: it is a label: what it is worth is what the hold of that sum in a sandbox is worth. -/
noncomputable def Try.pinned : Pinned := { name := "ytioogligololoaa", sum := "322a471bb2f8dd4e55f9e36d7fed40d780091956747334cb7e87e7fefca649e4", checked := Try.checked }
namespace Rows
def none {H : Type} : Left H := { results := [], args := [] }

/-- 'laws.FnExactMostCouples': WHATEVER THE INPUT: true; the input reads as it did. -/
def fnExactMostCouplesSpec : ChangeSpec := { name := "fnExactMostCouples", fn := fun _ => fun
  | [d] => { results := [.lit (.bool true)], args := [d] }
  | _ => none }
def fnExactMostCouplesRow : OpenClaim := { program := "ytioogligololoaa", sum := "322a471bb2f8dd4e55f9e36d7fed40d780091956747334cb7e87e7fefca649e4", func := "loop.example/g00105/laws.FnExactMostCouples", spec := "fnExactMostCouples", unfollowed := true, recurses := true, apart := false }
def FnExactMostCouplesSaid : Prop := fnExactMostCouplesRow.holds Try.pinned (OpenSpec.ofChange fnExactMostCouplesSpec)

/-- ITS FALSE NEIGHBOUR: 'it returns false'. Refute it at one input. -/
def fnExactMostCouplesWrong : ChangeSpec := { name := "fnExactMostCouples", fn := fun _ => fun
  | [d] => { results := [.lit (.bool false)], args := [d] }
  | _ => none }
def FnExactMostCouplesWrongFalsely : Prop := fnExactMostCouplesRow.holds Try.pinned (OpenSpec.ofChange fnExactMostCouplesWrong)

/-- 'laws.FnParts': WHATEVER THE INPUT: true; the input reads as it did. -/
def fnPartsSpec : ChangeSpec := { name := "fnParts", fn := fun _ => fun
  | [d] => { results := [.lit (.bool true)], args := [d] }
  | _ => none }
def fnPartsRow : OpenClaim := { program := "ytioogligololoaa", sum := "322a471bb2f8dd4e55f9e36d7fed40d780091956747334cb7e87e7fefca649e4", func := "loop.example/g00105/laws.FnParts", spec := "fnParts", apart := false }
def FnPartsSaid : Prop := fnPartsRow.holds Try.pinned (OpenSpec.ofChange fnPartsSpec)

/-- ITS FALSE NEIGHBOUR: 'it returns false'. Refute it at one input. -/
def fnPartsWrong : ChangeSpec := { name := "fnParts", fn := fun _ => fun
  | [d] => { results := [.lit (.bool false)], args := [d] }
  | _ => none }
def FnPartsWrongFalsely : Prop := fnPartsRow.holds Try.pinned (OpenSpec.ofChange fnPartsWrong)

/-- 'laws.FnAsks': WHATEVER THE INPUT: true; the input reads as it did. -/
def fnAsksSpec : ChangeSpec := { name := "fnAsks", fn := fun _ => fun
  | [d] => { results := [.lit (.bool true)], args := [d] }
  | _ => none }
def fnAsksRow : OpenClaim := { program := "ytioogligololoaa", sum := "322a471bb2f8dd4e55f9e36d7fed40d780091956747334cb7e87e7fefca649e4", func := "loop.example/g00105/laws.FnAsks", spec := "fnAsks", apart := false }
def FnAsksSaid : Prop := fnAsksRow.holds Try.pinned (OpenSpec.ofChange fnAsksSpec)

/-- ITS FALSE NEIGHBOUR: 'it returns false'. Refute it at one input. -/
def fnAsksWrong : ChangeSpec := { name := "fnAsks", fn := fun _ => fun
  | [d] => { results := [.lit (.bool false)], args := [d] }
  | _ => none }
def FnAsksWrongFalsely : Prop := fnAsksRow.holds Try.pinned (OpenSpec.ofChange fnAsksWrong)

/-- 'laws.FnExactCertText': WHATEVER THE INPUT: true; the input reads as it did. -/
def fnExactCertTextSpec : ChangeSpec := { name := "fnExactCertText", fn := fun _ => fun
  | [d] => { results := [.lit (.bool true)], args := [d] }
  | _ => none }
def fnExactCertTextRow : OpenClaim := { program := "ytioogligololoaa", sum := "322a471bb2f8dd4e55f9e36d7fed40d780091956747334cb7e87e7fefca649e4", func := "loop.example/g00105/laws.FnExactCertText", spec := "fnExactCertText", apart := false }
def FnExactCertTextSaid : Prop := fnExactCertTextRow.holds Try.pinned (OpenSpec.ofChange fnExactCertTextSpec)

/-- ITS FALSE NEIGHBOUR: 'it returns false'. Refute it at one input. -/
def fnExactCertTextWrong : ChangeSpec := { name := "fnExactCertText", fn := fun _ => fun
  | [d] => { results := [.lit (.bool false)], args := [d] }
  | _ => none }
def FnExactCertTextWrongFalsely : Prop := fnExactCertTextRow.holds Try.pinned (OpenSpec.ofChange fnExactCertTextWrong)

/-- 'laws.FnExactReadCert': WHATEVER THE INPUT: true; the input reads as it did. -/
def fnExactReadCertSpec : ChangeSpec := { name := "fnExactReadCert", fn := fun _ => fun
  | [d] => { results := [.lit (.bool true)], args := [d] }
  | _ => none }
def fnExactReadCertRow : OpenClaim := { program := "ytioogligololoaa", sum := "322a471bb2f8dd4e55f9e36d7fed40d780091956747334cb7e87e7fefca649e4", func := "loop.example/g00105/laws.FnExactReadCert", spec := "fnExactReadCert", apart := false }
def FnExactReadCertSaid : Prop := fnExactReadCertRow.holds Try.pinned (OpenSpec.ofChange fnExactReadCertSpec)

/-- ITS FALSE NEIGHBOUR: 'it returns false'. Refute it at one input. -/
def fnExactReadCertWrong : ChangeSpec := { name := "fnExactReadCert", fn := fun _ => fun
  | [d] => { results := [.lit (.bool false)], args := [d] }
  | _ => none }
def FnExactReadCertWrongFalsely : Prop := fnExactReadCertRow.holds Try.pinned (OpenSpec.ofChange fnExactReadCertWrong)

/- THE SECOND FORM. 'bulk': how many values and letters a reading holds, each counted each time it is reached (what is shared counts as often as it is met; a slice's spare places count too). A statement '..UptoSaid' is the law's where the arguments, and the package variables that the reading takes, are together of bulk at most 1048576: NARROWER than '..Said'. Prove '..Said' where nothing that the law and all that it calls make is longer than what came in: it says more and counts as full. Else prove '..UptoSaid'. A law counts once. -/
mutual
def uptoBulk {H : Type} : DataW H → Nat
  | .lit (.string bytes) => bytes.length + 1
  | .lit _ => 1
  | .nil => 1
  | .ptr d => uptoBulk d + 1
  | .slice elems spare => uptoBulkAll elems + uptoBulkAll spare + 1
  | .agg parts => uptoBulkAll parts + 1
  | .iface _ d => uptoBulk d + 1
  | .map entries => uptoBulkEntries entries + 1
  | .held _ => 1
def uptoBulkAll {H : Type} : List (DataW H) → Nat
  | [] => 0
  | d :: r => uptoBulk d + uptoBulkAll r
def uptoBulkEntries {H : Type} : List (Lit × DataW H) → Nat
  | [] => 0
  | x :: r => uptoBulkEntry x + uptoBulkEntries r
def uptoBulkEntry {H : Type} : Lit × DataW H → Nat
  | (.string bytes, d) => bytes.length + uptoBulk d + 1
  | (_, d) => uptoBulk d + 1
 end
def uptoSmall : (H : Type) → List (DataW H) → Bool := fun _ ds => decide (uptoBulkAll ds ≤ 1048576)
def OpenSpec.upto (s : _root_.Go.ChangeSpec) : _root_.Go.OpenSpec := { _root_.Go.OpenSpec.ofChange s with cond := some uptoSmall }

/-- 'laws.FnExactMostCouples', WHERE WHAT IT READS IS OF BULK AT MOST 1048576: true; the input reads as it did. -/
def fnExactMostCouplesUptoRow : OpenClaim := { program := "ytioogligololoaa", sum := "322a471bb2f8dd4e55f9e36d7fed40d780091956747334cb7e87e7fefca649e4", func := "loop.example/g00105/laws.FnExactMostCouples", spec := "fnExactMostCouples", unfollowed := true, recurses := true, apart := false, narrowed := true }
def FnExactMostCouplesUptoSaid : Prop := fnExactMostCouplesUptoRow.holds Try.pinned (OpenSpec.upto fnExactMostCouplesSpec)

/-- 'laws.FnParts', WHERE WHAT IT READS IS OF BULK AT MOST 1048576: true; the input reads as it did. -/
def fnPartsUptoRow : OpenClaim := { program := "ytioogligololoaa", sum := "322a471bb2f8dd4e55f9e36d7fed40d780091956747334cb7e87e7fefca649e4", func := "loop.example/g00105/laws.FnParts", spec := "fnParts", apart := false, narrowed := true }
def FnPartsUptoSaid : Prop := fnPartsUptoRow.holds Try.pinned (OpenSpec.upto fnPartsSpec)

/-- 'laws.FnAsks', WHERE WHAT IT READS IS OF BULK AT MOST 1048576: true; the input reads as it did. -/
def fnAsksUptoRow : OpenClaim := { program := "ytioogligololoaa", sum := "322a471bb2f8dd4e55f9e36d7fed40d780091956747334cb7e87e7fefca649e4", func := "loop.example/g00105/laws.FnAsks", spec := "fnAsks", apart := false, narrowed := true }
def FnAsksUptoSaid : Prop := fnAsksUptoRow.holds Try.pinned (OpenSpec.upto fnAsksSpec)

/-- 'laws.FnExactCertText', WHERE WHAT IT READS IS OF BULK AT MOST 1048576: true; the input reads as it did. -/
def fnExactCertTextUptoRow : OpenClaim := { program := "ytioogligololoaa", sum := "322a471bb2f8dd4e55f9e36d7fed40d780091956747334cb7e87e7fefca649e4", func := "loop.example/g00105/laws.FnExactCertText", spec := "fnExactCertText", apart := false, narrowed := true }
def FnExactCertTextUptoSaid : Prop := fnExactCertTextUptoRow.holds Try.pinned (OpenSpec.upto fnExactCertTextSpec)

/-- 'laws.FnExactReadCert', WHERE WHAT IT READS IS OF BULK AT MOST 1048576: true; the input reads as it did. -/
def fnExactReadCertUptoRow : OpenClaim := { program := "ytioogligololoaa", sum := "322a471bb2f8dd4e55f9e36d7fed40d780091956747334cb7e87e7fefca649e4", func := "loop.example/g00105/laws.FnExactReadCert", spec := "fnExactReadCert", apart := false, narrowed := true }
def FnExactReadCertUptoSaid : Prop := fnExactReadCertUptoRow.holds Try.pinned (OpenSpec.upto fnExactReadCertSpec)

end Rows
end Go.Proofs.Ytioogligololoaa
