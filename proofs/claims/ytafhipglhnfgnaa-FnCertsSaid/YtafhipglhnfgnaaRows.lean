/-
  No cell of these rows narrows 'for every input' (looked for: loops, veiled, ifaces, maps, wideKeys, modest, calm, conditions, laid).
  DERIVED. THE GIVEN ROWS OF THIS SEAT. 7 by the template 'for every input the law returns true; each argument reads behind the call as it read before'; 0 by the template 'total and deterministic' (their statements: YtafhipglhnfgnaaTotals.lean).
  GIVEN WITH THE SEED: the statements are not yours to turn. If you find one false, say at which input.
  Laid BY PROGRAM, IN A SANDBOX (cutbox-rows.mjs): the forced cells as the released guide's own fill.sh prints them over the translation 869f783f2caf2332… (all of the seat's roots in one cut). By AI agents, Wed Nov 11 2026. No macro, syntax, notation, axiom, sorry.
-/
import Derived.Test.YtafhipglhnfgnaaChecked
import GoSem.Claim
import GoSem.ClaimJoined
import GoSem.ClaimMapViews
import Derived.JoinedTies
import Derived.KernelRfl
namespace Go.Proofs.Ytafhipglhnfgnaa
/- THE CELL 'sum', in the pinned program and in every row, IS THE sha256 OF THE DUMP (.gsa) THAT YtafhipglhnfgnaaProg.lean LOADS. Nothing in Lean hashes anything: it is a label: what it is worth is what the hold of that sum in a sandbox is worth. -/
noncomputable def Try.pinned : Pinned := { name := "ytafhipglhnfgnaa", sum := "869f783f2caf233233cf9900aa6ac9a545fd571ea3f1908bc79b3bf6d8f1a7ef", checked := Try.checked }
namespace Rows
def none {H : Type} : Left H := { results := [], args := [] }

/-- 'laws.FnProves': WHATEVER THE INPUT: true; the input reads as it did. -/
def fnProvesSpec : ChangeSpec := { name := "fnProves", fn := fun _ => fun
  | [d] => { results := [.lit (.bool true)], args := [d] }
  | _ => none }
def fnProvesRow : OpenClaim := { program := "ytafhipglhnfgnaa", sum := "869f783f2caf233233cf9900aa6ac9a545fd571ea3f1908bc79b3bf6d8f1a7ef", func := "loop.example/g00105/laws.FnProves", spec := "fnProves", recurses := true, apart := false }
def FnProvesSaid : Prop := fnProvesRow.holds Try.pinned (OpenSpec.ofChange fnProvesSpec)

/-- ITS FALSE NEIGHBOUR: 'it returns false'. Refute it at one input. -/
def fnProvesWrong : ChangeSpec := { name := "fnProves", fn := fun _ => fun
  | [d] => { results := [.lit (.bool false)], args := [d] }
  | _ => none }
def FnProvesWrongFalsely : Prop := fnProvesRow.holds Try.pinned (OpenSpec.ofChange fnProvesWrong)

/-- 'laws.FnCertified': WHATEVER THE INPUT: true; the input reads as it did. -/
def fnCertifiedSpec : ChangeSpec := { name := "fnCertified", fn := fun _ => fun
  | [d] => { results := [.lit (.bool true)], args := [d] }
  | _ => none }
def fnCertifiedRow : OpenClaim := { program := "ytafhipglhnfgnaa", sum := "869f783f2caf233233cf9900aa6ac9a545fd571ea3f1908bc79b3bf6d8f1a7ef", func := "loop.example/g00105/laws.FnCertified", spec := "fnCertified", apart := false }
def FnCertifiedSaid : Prop := fnCertifiedRow.holds Try.pinned (OpenSpec.ofChange fnCertifiedSpec)

/-- ITS FALSE NEIGHBOUR: 'it returns false'. Refute it at one input. -/
def fnCertifiedWrong : ChangeSpec := { name := "fnCertified", fn := fun _ => fun
  | [d] => { results := [.lit (.bool false)], args := [d] }
  | _ => none }
def FnCertifiedWrongFalsely : Prop := fnCertifiedRow.holds Try.pinned (OpenSpec.ofChange fnCertifiedWrong)

/-- 'laws.FnSwaps': WHATEVER THE INPUT: true; the input reads as it did. -/
def fnSwapsSpec : ChangeSpec := { name := "fnSwaps", fn := fun _ => fun
  | [d] => { results := [.lit (.bool true)], args := [d] }
  | _ => none }
def fnSwapsRow : OpenClaim := { program := "ytafhipglhnfgnaa", sum := "869f783f2caf233233cf9900aa6ac9a545fd571ea3f1908bc79b3bf6d8f1a7ef", func := "loop.example/g00105/laws.FnSwaps", spec := "fnSwaps", apart := false }
def FnSwapsSaid : Prop := fnSwapsRow.holds Try.pinned (OpenSpec.ofChange fnSwapsSpec)

/-- ITS FALSE NEIGHBOUR: 'it returns false'. Refute it at one input. -/
def fnSwapsWrong : ChangeSpec := { name := "fnSwaps", fn := fun _ => fun
  | [d] => { results := [.lit (.bool false)], args := [d] }
  | _ => none }
def FnSwapsWrongFalsely : Prop := fnSwapsRow.holds Try.pinned (OpenSpec.ofChange fnSwapsWrong)

/-- 'laws.FnCerts': WHATEVER THE INPUT: true; the input reads as it did. -/
def fnCertsSpec : ChangeSpec := { name := "fnCerts", fn := fun _ => fun
  | [d] => { results := [.lit (.bool true)], args := [d] }
  | _ => none }
def fnCertsRow : OpenClaim := { program := "ytafhipglhnfgnaa", sum := "869f783f2caf233233cf9900aa6ac9a545fd571ea3f1908bc79b3bf6d8f1a7ef", func := "loop.example/g00105/laws.FnCerts", spec := "fnCerts", apart := false }
def FnCertsSaid : Prop := fnCertsRow.holds Try.pinned (OpenSpec.ofChange fnCertsSpec)

/-- ITS FALSE NEIGHBOUR: 'it returns false'. Refute it at one input. -/
def fnCertsWrong : ChangeSpec := { name := "fnCerts", fn := fun _ => fun
  | [d] => { results := [.lit (.bool false)], args := [d] }
  | _ => none }
def FnCertsWrongFalsely : Prop := fnCertsRow.holds Try.pinned (OpenSpec.ofChange fnCertsWrong)

/-- 'laws.FnBlocks': WHATEVER THE INPUT: true; the input reads as it did. -/
def fnBlocksSpec : ChangeSpec := { name := "fnBlocks", fn := fun _ => fun
  | [d] => { results := [.lit (.bool true)], args := [d] }
  | _ => none }
def fnBlocksRow : OpenClaim := { program := "ytafhipglhnfgnaa", sum := "869f783f2caf233233cf9900aa6ac9a545fd571ea3f1908bc79b3bf6d8f1a7ef", func := "loop.example/g00105/laws.FnBlocks", spec := "fnBlocks", unfollowed := true, recurses := true, apart := false }
def FnBlocksSaid : Prop := fnBlocksRow.holds Try.pinned (OpenSpec.ofChange fnBlocksSpec)

/-- ITS FALSE NEIGHBOUR: 'it returns false'. Refute it at one input. -/
def fnBlocksWrong : ChangeSpec := { name := "fnBlocks", fn := fun _ => fun
  | [d] => { results := [.lit (.bool false)], args := [d] }
  | _ => none }
def FnBlocksWrongFalsely : Prop := fnBlocksRow.holds Try.pinned (OpenSpec.ofChange fnBlocksWrong)

/-- 'laws.FnSolves': WHATEVER THE INPUT: true; the input reads as it did. -/
def fnSolvesSpec : ChangeSpec := { name := "fnSolves", fn := fun _ => fun
  | [d] => { results := [.lit (.bool true)], args := [d] }
  | _ => none }
def fnSolvesRow : OpenClaim := { program := "ytafhipglhnfgnaa", sum := "869f783f2caf233233cf9900aa6ac9a545fd571ea3f1908bc79b3bf6d8f1a7ef", func := "loop.example/g00105/laws.FnSolves", spec := "fnSolves", inPlace := ["internal/reflectlite.ValueOf", "internal/reflectlite.Swapper", "(internal/reflectlite.Value).Len"], unfollowed := true, recurses := true, apart := false }
def FnSolvesSaid : Prop := fnSolvesRow.holds Try.pinned (OpenSpec.ofChange fnSolvesSpec)

/-- ITS FALSE NEIGHBOUR: 'it returns false'. Refute it at one input. -/
def fnSolvesWrong : ChangeSpec := { name := "fnSolves", fn := fun _ => fun
  | [d] => { results := [.lit (.bool false)], args := [d] }
  | _ => none }
def FnSolvesWrongFalsely : Prop := fnSolvesRow.holds Try.pinned (OpenSpec.ofChange fnSolvesWrong)

/-- 'laws.FnSame': WHATEVER THE INPUT: true; the input reads as it did. -/
def fnSameSpec : ChangeSpec := { name := "fnSame", fn := fun _ => fun
  | [d] => { results := [.lit (.bool true)], args := [d] }
  | _ => none }
def fnSameRow : OpenClaim := { program := "ytafhipglhnfgnaa", sum := "869f783f2caf233233cf9900aa6ac9a545fd571ea3f1908bc79b3bf6d8f1a7ef", func := "loop.example/g00105/laws.FnSame", spec := "fnSame", inPlace := ["internal/reflectlite.ValueOf", "internal/reflectlite.Swapper", "(internal/reflectlite.Value).Len"], unfollowed := true, recurses := true, apart := false }
def FnSameSaid : Prop := fnSameRow.holds Try.pinned (OpenSpec.ofChange fnSameSpec)

/-- ITS FALSE NEIGHBOUR: 'it returns false'. Refute it at one input. -/
def fnSameWrong : ChangeSpec := { name := "fnSame", fn := fun _ => fun
  | [d] => { results := [.lit (.bool false)], args := [d] }
  | _ => none }
def FnSameWrongFalsely : Prop := fnSameRow.holds Try.pinned (OpenSpec.ofChange fnSameWrong)

/- THE SECOND FORM. 'bulk': how many values and letters a reading holds, each counted each time it is reached (what is shared counts as often as it is met; a slice's spare places count too). A statement '..UptoSaid' is the law's where the arguments, and the package variables that the reading takes, are together of bulk at most 1048576: NARROWER than '..Said'. Prove '..Said' where nothing that the law and all that it calls make is longer than what came in: it says more and counts as full. Else prove '..UptoSaid'. A law counts once. -/
mutual
def uptoBulk {H : Type} : DataW H → Nat
  | .lit (.string bytes) => bytes.length + 1
  | .lit _ => 1
  | .nil => 1
  | .ptr d => uptoBulk d + 1
  | .slice elems spare => uptoBulkAll elems + uptoBulkAll spare + 1
  | .agg parts => uptoBulkAll parts + 1
  | .iface _ d => uptoBulk d + 1
  | .map entries => uptoBulkEntries entries + 1
  | .held _ => 1
def uptoBulkAll {H : Type} : List (DataW H) → Nat
  | [] => 0
  | d :: r => uptoBulk d + uptoBulkAll r
def uptoBulkEntries {H : Type} : List (Lit × DataW H) → Nat
  | [] => 0
  | x :: r => uptoBulkEntry x + uptoBulkEntries r
def uptoBulkEntry {H : Type} : Lit × DataW H → Nat
  | (.string bytes, d) => bytes.length + uptoBulk d + 1
  | (_, d) => uptoBulk d + 1
 end
def uptoSmall : (H : Type) → List (DataW H) → Bool := fun _ ds => decide (uptoBulkAll ds ≤ 1048576)
def OpenSpec.upto (s : _root_.Go.ChangeSpec) : _root_.Go.OpenSpec := { _root_.Go.OpenSpec.ofChange s with cond := some uptoSmall }

/-- 'laws.FnProves', WHERE WHAT IT READS IS OF BULK AT MOST 1048576: true; the input reads as it did. -/
def fnProvesUptoRow : OpenClaim := { program := "ytafhipglhnfgnaa", sum := "869f783f2caf233233cf9900aa6ac9a545fd571ea3f1908bc79b3bf6d8f1a7ef", func := "loop.example/g00105/laws.FnProves", spec := "fnProves", recurses := true, apart := false, narrowed := true }
def FnProvesUptoSaid : Prop := fnProvesUptoRow.holds Try.pinned (OpenSpec.upto fnProvesSpec)

/-- 'laws.FnCertified', WHERE WHAT IT READS IS OF BULK AT MOST 1048576: true; the input reads as it did. -/
def fnCertifiedUptoRow : OpenClaim := { program := "ytafhipglhnfgnaa", sum := "869f783f2caf233233cf9900aa6ac9a545fd571ea3f1908bc79b3bf6d8f1a7ef", func := "loop.example/g00105/laws.FnCertified", spec := "fnCertified", apart := false, narrowed := true }
def FnCertifiedUptoSaid : Prop := fnCertifiedUptoRow.holds Try.pinned (OpenSpec.upto fnCertifiedSpec)

/-- 'laws.FnSwaps', WHERE WHAT IT READS IS OF BULK AT MOST 1048576: true; the input reads as it did. -/
def fnSwapsUptoRow : OpenClaim := { program := "ytafhipglhnfgnaa", sum := "869f783f2caf233233cf9900aa6ac9a545fd571ea3f1908bc79b3bf6d8f1a7ef", func := "loop.example/g00105/laws.FnSwaps", spec := "fnSwaps", apart := false, narrowed := true }
def FnSwapsUptoSaid : Prop := fnSwapsUptoRow.holds Try.pinned (OpenSpec.upto fnSwapsSpec)

/-- 'laws.FnCerts', WHERE WHAT IT READS IS OF BULK AT MOST 1048576: true; the input reads as it did. -/
def fnCertsUptoRow : OpenClaim := { program := "ytafhipglhnfgnaa", sum := "869f783f2caf233233cf9900aa6ac9a545fd571ea3f1908bc79b3bf6d8f1a7ef", func := "loop.example/g00105/laws.FnCerts", spec := "fnCerts", apart := false, narrowed := true }
def FnCertsUptoSaid : Prop := fnCertsUptoRow.holds Try.pinned (OpenSpec.upto fnCertsSpec)

/-- 'laws.FnBlocks', WHERE WHAT IT READS IS OF BULK AT MOST 1048576: true; the input reads as it did. -/
def fnBlocksUptoRow : OpenClaim := { program := "ytafhipglhnfgnaa", sum := "869f783f2caf233233cf9900aa6ac9a545fd571ea3f1908bc79b3bf6d8f1a7ef", func := "loop.example/g00105/laws.FnBlocks", spec := "fnBlocks", unfollowed := true, recurses := true, apart := false, narrowed := true }
def FnBlocksUptoSaid : Prop := fnBlocksUptoRow.holds Try.pinned (OpenSpec.upto fnBlocksSpec)

/-- 'laws.FnSolves', WHERE WHAT IT READS IS OF BULK AT MOST 1048576: true; the input reads as it did. -/
def fnSolvesUptoRow : OpenClaim := { program := "ytafhipglhnfgnaa", sum := "869f783f2caf233233cf9900aa6ac9a545fd571ea3f1908bc79b3bf6d8f1a7ef", func := "loop.example/g00105/laws.FnSolves", spec := "fnSolves", inPlace := ["internal/reflectlite.ValueOf", "internal/reflectlite.Swapper", "(internal/reflectlite.Value).Len"], unfollowed := true, recurses := true, apart := false, narrowed := true }
def FnSolvesUptoSaid : Prop := fnSolvesUptoRow.holds Try.pinned (OpenSpec.upto fnSolvesSpec)

/-- 'laws.FnSame', WHERE WHAT IT READS IS OF BULK AT MOST 1048576: true; the input reads as it did. -/
def fnSameUptoRow : OpenClaim := { program := "ytafhipglhnfgnaa", sum := "869f783f2caf233233cf9900aa6ac9a545fd571ea3f1908bc79b3bf6d8f1a7ef", func := "loop.example/g00105/laws.FnSame", spec := "fnSame", inPlace := ["internal/reflectlite.ValueOf", "internal/reflectlite.Swapper", "(internal/reflectlite.Value).Len"], unfollowed := true, recurses := true, apart := false, narrowed := true }
def FnSameUptoSaid : Prop := fnSameUptoRow.holds Try.pinned (OpenSpec.upto fnSameSpec)

end Rows
end Go.Proofs.Ytafhipglhnfgnaa
