/-
  No cell of these rows narrows 'for every input' (looked for: loops, veiled, ifaces, maps, wideKeys, modest, calm, conditions, laid).
  DERIVED. THE GIVEN ROWS OF THIS SEAT. 12 by the template 'for every input the law returns true; each argument reads behind the call as it read before'; 0 by the template 'total and deterministic' (their statements: YtlndlccbecnjoaaTotals.lean).
  GIVEN WITH THE SEED: the statements are not yours to turn. If you find one false, say at which input.
  Laid BY PROGRAM, IN A SANDBOX (cutbox-rows.mjs): the forced cells as the released guide's own fill.sh prints them over the translation 81bd13f530d65956… (all of the seat's roots in one cut). By AI agents, Wed Nov 11 2026. No macro, syntax, notation, axiom, sorry.
-/
import Derived.Test.YtlndlccbecnjoaaChecked
import GoSem.Claim
import GoSem.ClaimJoined
import GoSem.ClaimMapViews
import Derived.JoinedTies
import Derived.KernelRfl
namespace Go.Proofs.Ytlndlccbecnjoaa
/- THE CELL 'sum', in the pinned program and in every row, IS THE sha256 OF THE DUMP (.gsa) THAT YtlndlccbecnjoaaProg.lean LOADS. Nothing in Lean hashes anything: it is a label: what it is worth is what the hold of that sum in a sandbox is worth. -/
noncomputable def Try.pinned : Pinned := { name := "ytlndlccbecnjoaa", sum := "81bd13f530d659561164c2a571a5e3a0b8180128558b3f487c77a4cee2b1b6be", checked := Try.checked }
namespace Rows
def none {H : Type} : Left H := { results := [], args := [] }

/-- 'laws.FnExactCertParts': WHATEVER THE INPUT: true; the input reads as it did. -/
def fnExactCertPartsSpec : ChangeSpec := { name := "fnExactCertParts", fn := fun _ => fun
  | [d] => { results := [.lit (.bool true)], args := [d] }
  | _ => none }
def fnExactCertPartsRow : OpenClaim := { program := "ytlndlccbecnjoaa", sum := "81bd13f530d659561164c2a571a5e3a0b8180128558b3f487c77a4cee2b1b6be", func := "loop.example/g00105/laws.FnExactCertParts", spec := "fnExactCertParts", apart := false }
def FnExactCertPartsSaid : Prop := fnExactCertPartsRow.holds Try.pinned (OpenSpec.ofChange fnExactCertPartsSpec)

/-- ITS FALSE NEIGHBOUR: 'it returns false'. Refute it at one input. -/
def fnExactCertPartsWrong : ChangeSpec := { name := "fnExactCertParts", fn := fun _ => fun
  | [d] => { results := [.lit (.bool false)], args := [d] }
  | _ => none }
def FnExactCertPartsWrongFalsely : Prop := fnExactCertPartsRow.holds Try.pinned (OpenSpec.ofChange fnExactCertPartsWrong)

/-- 'laws.FnExactDeedOk': WHATEVER THE INPUT: true; the input reads as it did. -/
def fnExactDeedOkSpec : ChangeSpec := { name := "fnExactDeedOk", fn := fun _ => fun
  | [d] => { results := [.lit (.bool true)], args := [d] }
  | _ => none }
def fnExactDeedOkRow : OpenClaim := { program := "ytlndlccbecnjoaa", sum := "81bd13f530d659561164c2a571a5e3a0b8180128558b3f487c77a4cee2b1b6be", func := "loop.example/g00105/laws.FnExactDeedOk", spec := "fnExactDeedOk", apart := false }
def FnExactDeedOkSaid : Prop := fnExactDeedOkRow.holds Try.pinned (OpenSpec.ofChange fnExactDeedOkSpec)

/-- ITS FALSE NEIGHBOUR: 'it returns false'. Refute it at one input. -/
def fnExactDeedOkWrong : ChangeSpec := { name := "fnExactDeedOk", fn := fun _ => fun
  | [d] => { results := [.lit (.bool false)], args := [d] }
  | _ => none }
def FnExactDeedOkWrongFalsely : Prop := fnExactDeedOkRow.holds Try.pinned (OpenSpec.ofChange fnExactDeedOkWrong)

/-- 'laws.FnExactAskText': WHATEVER THE INPUT: true; the input reads as it did. -/
def fnExactAskTextSpec : ChangeSpec := { name := "fnExactAskText", fn := fun _ => fun
  | [d] => { results := [.lit (.bool true)], args := [d] }
  | _ => none }
def fnExactAskTextRow : OpenClaim := { program := "ytlndlccbecnjoaa", sum := "81bd13f530d659561164c2a571a5e3a0b8180128558b3f487c77a4cee2b1b6be", func := "loop.example/g00105/laws.FnExactAskText", spec := "fnExactAskText", apart := false }
def FnExactAskTextSaid : Prop := fnExactAskTextRow.holds Try.pinned (OpenSpec.ofChange fnExactAskTextSpec)

/-- ITS FALSE NEIGHBOUR: 'it returns false'. Refute it at one input. -/
def fnExactAskTextWrong : ChangeSpec := { name := "fnExactAskText", fn := fun _ => fun
  | [d] => { results := [.lit (.bool false)], args := [d] }
  | _ => none }
def FnExactAskTextWrongFalsely : Prop := fnExactAskTextRow.holds Try.pinned (OpenSpec.ofChange fnExactAskTextWrong)

/-- 'laws.FnExactReadAsk': WHATEVER THE INPUT: true; the input reads as it did. -/
def fnExactReadAskSpec : ChangeSpec := { name := "fnExactReadAsk", fn := fun _ => fun
  | [d] => { results := [.lit (.bool true)], args := [d] }
  | _ => none }
def fnExactReadAskRow : OpenClaim := { program := "ytlndlccbecnjoaa", sum := "81bd13f530d659561164c2a571a5e3a0b8180128558b3f487c77a4cee2b1b6be", func := "loop.example/g00105/laws.FnExactReadAsk", spec := "fnExactReadAsk", apart := false }
def FnExactReadAskSaid : Prop := fnExactReadAskRow.holds Try.pinned (OpenSpec.ofChange fnExactReadAskSpec)

/-- ITS FALSE NEIGHBOUR: 'it returns false'. Refute it at one input. -/
def fnExactReadAskWrong : ChangeSpec := { name := "fnExactReadAsk", fn := fun _ => fun
  | [d] => { results := [.lit (.bool false)], args := [d] }
  | _ => none }
def FnExactReadAskWrongFalsely : Prop := fnExactReadAskRow.holds Try.pinned (OpenSpec.ofChange fnExactReadAskWrong)

/-- 'laws.FnExactNeighbours': WHATEVER THE INPUT: true; the input reads as it did. -/
def fnExactNeighboursSpec : ChangeSpec := { name := "fnExactNeighbours", fn := fun _ => fun
  | [d1, d2] => { results := [.lit (.bool true)], args := [d1, d2] }
  | _ => none }
def fnExactNeighboursRow : OpenClaim := { program := "ytlndlccbecnjoaa", sum := "81bd13f530d659561164c2a571a5e3a0b8180128558b3f487c77a4cee2b1b6be", func := "loop.example/g00105/laws.FnExactNeighbours", spec := "fnExactNeighbours", apart := false }
def FnExactNeighboursSaid : Prop := fnExactNeighboursRow.holds Try.pinned (OpenSpec.ofChange fnExactNeighboursSpec)

/-- ITS FALSE NEIGHBOUR: 'it returns false'. Refute it at one input. -/
def fnExactNeighboursWrong : ChangeSpec := { name := "fnExactNeighbours", fn := fun _ => fun
  | [d1, d2] => { results := [.lit (.bool false)], args := [d1, d2] }
  | _ => none }
def FnExactNeighboursWrongFalsely : Prop := fnExactNeighboursRow.holds Try.pinned (OpenSpec.ofChange fnExactNeighboursWrong)

/-- 'laws.FnExactOddParts': WHATEVER THE INPUT: true; the input reads as it did. -/
def fnExactOddPartsSpec : ChangeSpec := { name := "fnExactOddParts", fn := fun _ => fun
  | [d1, d2] => { results := [.lit (.bool true)], args := [d1, d2] }
  | _ => none }
def fnExactOddPartsRow : OpenClaim := { program := "ytlndlccbecnjoaa", sum := "81bd13f530d659561164c2a571a5e3a0b8180128558b3f487c77a4cee2b1b6be", func := "loop.example/g00105/laws.FnExactOddParts", spec := "fnExactOddParts", apart := false }
def FnExactOddPartsSaid : Prop := fnExactOddPartsRow.holds Try.pinned (OpenSpec.ofChange fnExactOddPartsSpec)

/-- ITS FALSE NEIGHBOUR: 'it returns false'. Refute it at one input. -/
def fnExactOddPartsWrong : ChangeSpec := { name := "fnExactOddParts", fn := fun _ => fun
  | [d1, d2] => { results := [.lit (.bool false)], args := [d1, d2] }
  | _ => none }
def FnExactOddPartsWrongFalsely : Prop := fnExactOddPartsRow.holds Try.pinned (OpenSpec.ofChange fnExactOddPartsWrong)

/-- 'laws.FnExactLonely': WHATEVER THE INPUT: true; the input reads as it did. -/
def fnExactLonelySpec : ChangeSpec := { name := "fnExactLonely", fn := fun _ => fun
  | [d1, d2] => { results := [.lit (.bool true)], args := [d1, d2] }
  | _ => none }
def fnExactLonelyRow : OpenClaim := { program := "ytlndlccbecnjoaa", sum := "81bd13f530d659561164c2a571a5e3a0b8180128558b3f487c77a4cee2b1b6be", func := "loop.example/g00105/laws.FnExactLonely", spec := "fnExactLonely", apart := false }
def FnExactLonelySaid : Prop := fnExactLonelyRow.holds Try.pinned (OpenSpec.ofChange fnExactLonelySpec)

/-- ITS FALSE NEIGHBOUR: 'it returns false'. Refute it at one input. -/
def fnExactLonelyWrong : ChangeSpec := { name := "fnExactLonely", fn := fun _ => fun
  | [d1, d2] => { results := [.lit (.bool false)], args := [d1, d2] }
  | _ => none }
def FnExactLonelyWrongFalsely : Prop := fnExactLonelyRow.holds Try.pinned (OpenSpec.ofChange fnExactLonelyWrong)

/-- 'laws.FnExactPiecesOf': WHATEVER THE INPUT: true; the input reads as it did. -/
def fnExactPiecesOfSpec : ChangeSpec := { name := "fnExactPiecesOf", fn := fun _ => fun
  | [d1, d2] => { results := [.lit (.bool true)], args := [d1, d2] }
  | _ => none }
def fnExactPiecesOfRow : OpenClaim := { program := "ytlndlccbecnjoaa", sum := "81bd13f530d659561164c2a571a5e3a0b8180128558b3f487c77a4cee2b1b6be", func := "loop.example/g00105/laws.FnExactPiecesOf", spec := "fnExactPiecesOf", apart := false }
def FnExactPiecesOfSaid : Prop := fnExactPiecesOfRow.holds Try.pinned (OpenSpec.ofChange fnExactPiecesOfSpec)

/-- ITS FALSE NEIGHBOUR: 'it returns false'. Refute it at one input. -/
def fnExactPiecesOfWrong : ChangeSpec := { name := "fnExactPiecesOf", fn := fun _ => fun
  | [d1, d2] => { results := [.lit (.bool false)], args := [d1, d2] }
  | _ => none }
def FnExactPiecesOfWrongFalsely : Prop := fnExactPiecesOfRow.holds Try.pinned (OpenSpec.ofChange fnExactPiecesOfWrong)

/-- 'laws.FnExactBlocks': WHATEVER THE INPUT: true; the input reads as it did. -/
def fnExactBlocksSpec : ChangeSpec := { name := "fnExactBlocks", fn := fun _ => fun
  | [d] => { results := [.lit (.bool true)], args := [d] }
  | _ => none }
def fnExactBlocksRow : OpenClaim := { program := "ytlndlccbecnjoaa", sum := "81bd13f530d659561164c2a571a5e3a0b8180128558b3f487c77a4cee2b1b6be", func := "loop.example/g00105/laws.FnExactBlocks", spec := "fnExactBlocks", apart := false }
def FnExactBlocksSaid : Prop := fnExactBlocksRow.holds Try.pinned (OpenSpec.ofChange fnExactBlocksSpec)

/-- ITS FALSE NEIGHBOUR: 'it returns false'. Refute it at one input. -/
def fnExactBlocksWrong : ChangeSpec := { name := "fnExactBlocks", fn := fun _ => fun
  | [d] => { results := [.lit (.bool false)], args := [d] }
  | _ => none }
def FnExactBlocksWrongFalsely : Prop := fnExactBlocksRow.holds Try.pinned (OpenSpec.ofChange fnExactBlocksWrong)

/-- 'laws.FnExactBound': WHATEVER THE INPUT: true; the input reads as it did. -/
def fnExactBoundSpec : ChangeSpec := { name := "fnExactBound", fn := fun _ => fun
  | [d1, d2] => { results := [.lit (.bool true)], args := [d1, d2] }
  | _ => none }
def fnExactBoundRow : OpenClaim := { program := "ytlndlccbecnjoaa", sum := "81bd13f530d659561164c2a571a5e3a0b8180128558b3f487c77a4cee2b1b6be", func := "loop.example/g00105/laws.FnExactBound", spec := "fnExactBound", apart := false }
def FnExactBoundSaid : Prop := fnExactBoundRow.holds Try.pinned (OpenSpec.ofChange fnExactBoundSpec)

/-- ITS FALSE NEIGHBOUR: 'it returns false'. Refute it at one input. -/
def fnExactBoundWrong : ChangeSpec := { name := "fnExactBound", fn := fun _ => fun
  | [d1, d2] => { results := [.lit (.bool false)], args := [d1, d2] }
  | _ => none }
def FnExactBoundWrongFalsely : Prop := fnExactBoundRow.holds Try.pinned (OpenSpec.ofChange fnExactBoundWrong)

/-- 'laws.FnExactSwapped': WHATEVER THE INPUT: true; the input reads as it did. -/
def fnExactSwappedSpec : ChangeSpec := { name := "fnExactSwapped", fn := fun _ => fun
  | [d1, d2, d3] => { results := [.lit (.bool true)], args := [d1, d2, d3] }
  | _ => none }
def fnExactSwappedRow : OpenClaim := { program := "ytlndlccbecnjoaa", sum := "81bd13f530d659561164c2a571a5e3a0b8180128558b3f487c77a4cee2b1b6be", func := "loop.example/g00105/laws.FnExactSwapped", spec := "fnExactSwapped", apart := false }
def FnExactSwappedSaid : Prop := fnExactSwappedRow.holds Try.pinned (OpenSpec.ofChange fnExactSwappedSpec)

/-- ITS FALSE NEIGHBOUR: 'it returns false'. Refute it at one input. -/
def fnExactSwappedWrong : ChangeSpec := { name := "fnExactSwapped", fn := fun _ => fun
  | [d1, d2, d3] => { results := [.lit (.bool false)], args := [d1, d2, d3] }
  | _ => none }
def FnExactSwappedWrongFalsely : Prop := fnExactSwappedRow.holds Try.pinned (OpenSpec.ofChange fnExactSwappedWrong)

/-- 'laws.FnExactCertifies': WHATEVER THE INPUT: true; the input reads as it did. -/
def fnExactCertifiesSpec : ChangeSpec := { name := "fnExactCertifies", fn := fun _ => fun
  | [d1, d2, d3] => { results := [.lit (.bool true)], args := [d1, d2, d3] }
  | _ => none }
def fnExactCertifiesRow : OpenClaim := { program := "ytlndlccbecnjoaa", sum := "81bd13f530d659561164c2a571a5e3a0b8180128558b3f487c77a4cee2b1b6be", func := "loop.example/g00105/laws.FnExactCertifies", spec := "fnExactCertifies", apart := false }
def FnExactCertifiesSaid : Prop := fnExactCertifiesRow.holds Try.pinned (OpenSpec.ofChange fnExactCertifiesSpec)

/-- ITS FALSE NEIGHBOUR: 'it returns false'. Refute it at one input. -/
def fnExactCertifiesWrong : ChangeSpec := { name := "fnExactCertifies", fn := fun _ => fun
  | [d1, d2, d3] => { results := [.lit (.bool false)], args := [d1, d2, d3] }
  | _ => none }
def FnExactCertifiesWrongFalsely : Prop := fnExactCertifiesRow.holds Try.pinned (OpenSpec.ofChange fnExactCertifiesWrong)

/- THE SECOND FORM. 'bulk': how many values and letters a reading holds, each counted each time it is reached (what is shared counts as often as it is met; a slice's spare places count too). A statement '..UptoSaid' is the law's where the arguments, and the package variables that the reading takes, are together of bulk at most 1048576: NARROWER than '..Said'. Prove '..Said' where nothing that the law and all that it calls make is longer than what came in: it says more and counts as full. Else prove '..UptoSaid'. A law counts once. -/
mutual
def uptoBulk {H : Type} : DataW H → Nat
  | .lit (.string bytes) => bytes.length + 1
  | .lit _ => 1
  | .nil => 1
  | .ptr d => uptoBulk d + 1
  | .slice elems spare => uptoBulkAll elems + uptoBulkAll spare + 1
  | .agg parts => uptoBulkAll parts + 1
  | .iface _ d => uptoBulk d + 1
  | .map entries => uptoBulkEntries entries + 1
  | .held _ => 1
def uptoBulkAll {H : Type} : List (DataW H) → Nat
  | [] => 0
  | d :: r => uptoBulk d + uptoBulkAll r
def uptoBulkEntries {H : Type} : List (Lit × DataW H) → Nat
  | [] => 0
  | x :: r => uptoBulkEntry x + uptoBulkEntries r
def uptoBulkEntry {H : Type} : Lit × DataW H → Nat
  | (.string bytes, d) => bytes.length + uptoBulk d + 1
  | (_, d) => uptoBulk d + 1
 end
def uptoSmall : (H : Type) → List (DataW H) → Bool := fun _ ds => decide (uptoBulkAll ds ≤ 1048576)
def OpenSpec.upto (s : _root_.Go.ChangeSpec) : _root_.Go.OpenSpec := { _root_.Go.OpenSpec.ofChange s with cond := some uptoSmall }

/-- 'laws.FnExactCertParts', WHERE WHAT IT READS IS OF BULK AT MOST 1048576: true; the input reads as it did. -/
def fnExactCertPartsUptoRow : OpenClaim := { program := "ytlndlccbecnjoaa", sum := "81bd13f530d659561164c2a571a5e3a0b8180128558b3f487c77a4cee2b1b6be", func := "loop.example/g00105/laws.FnExactCertParts", spec := "fnExactCertParts", apart := false, narrowed := true }
def FnExactCertPartsUptoSaid : Prop := fnExactCertPartsUptoRow.holds Try.pinned (OpenSpec.upto fnExactCertPartsSpec)

/-- 'laws.FnExactDeedOk', WHERE WHAT IT READS IS OF BULK AT MOST 1048576: true; the input reads as it did. -/
def fnExactDeedOkUptoRow : OpenClaim := { program := "ytlndlccbecnjoaa", sum := "81bd13f530d659561164c2a571a5e3a0b8180128558b3f487c77a4cee2b1b6be", func := "loop.example/g00105/laws.FnExactDeedOk", spec := "fnExactDeedOk", apart := false, narrowed := true }
def FnExactDeedOkUptoSaid : Prop := fnExactDeedOkUptoRow.holds Try.pinned (OpenSpec.upto fnExactDeedOkSpec)

/-- 'laws.FnExactAskText', WHERE WHAT IT READS IS OF BULK AT MOST 1048576: true; the input reads as it did. -/
def fnExactAskTextUptoRow : OpenClaim := { program := "ytlndlccbecnjoaa", sum := "81bd13f530d659561164c2a571a5e3a0b8180128558b3f487c77a4cee2b1b6be", func := "loop.example/g00105/laws.FnExactAskText", spec := "fnExactAskText", apart := false, narrowed := true }
def FnExactAskTextUptoSaid : Prop := fnExactAskTextUptoRow.holds Try.pinned (OpenSpec.upto fnExactAskTextSpec)

/-- 'laws.FnExactReadAsk', WHERE WHAT IT READS IS OF BULK AT MOST 1048576: true; the input reads as it did. -/
def fnExactReadAskUptoRow : OpenClaim := { program := "ytlndlccbecnjoaa", sum := "81bd13f530d659561164c2a571a5e3a0b8180128558b3f487c77a4cee2b1b6be", func := "loop.example/g00105/laws.FnExactReadAsk", spec := "fnExactReadAsk", apart := false, narrowed := true }
def FnExactReadAskUptoSaid : Prop := fnExactReadAskUptoRow.holds Try.pinned (OpenSpec.upto fnExactReadAskSpec)

/-- 'laws.FnExactNeighbours', WHERE WHAT IT READS IS OF BULK AT MOST 1048576: true; the input reads as it did. -/
def fnExactNeighboursUptoRow : OpenClaim := { program := "ytlndlccbecnjoaa", sum := "81bd13f530d659561164c2a571a5e3a0b8180128558b3f487c77a4cee2b1b6be", func := "loop.example/g00105/laws.FnExactNeighbours", spec := "fnExactNeighbours", apart := false, narrowed := true }
def FnExactNeighboursUptoSaid : Prop := fnExactNeighboursUptoRow.holds Try.pinned (OpenSpec.upto fnExactNeighboursSpec)

/-- 'laws.FnExactOddParts', WHERE WHAT IT READS IS OF BULK AT MOST 1048576: true; the input reads as it did. -/
def fnExactOddPartsUptoRow : OpenClaim := { program := "ytlndlccbecnjoaa", sum := "81bd13f530d659561164c2a571a5e3a0b8180128558b3f487c77a4cee2b1b6be", func := "loop.example/g00105/laws.FnExactOddParts", spec := "fnExactOddParts", apart := false, narrowed := true }
def FnExactOddPartsUptoSaid : Prop := fnExactOddPartsUptoRow.holds Try.pinned (OpenSpec.upto fnExactOddPartsSpec)

/-- 'laws.FnExactLonely', WHERE WHAT IT READS IS OF BULK AT MOST 1048576: true; the input reads as it did. -/
def fnExactLonelyUptoRow : OpenClaim := { program := "ytlndlccbecnjoaa", sum := "81bd13f530d659561164c2a571a5e3a0b8180128558b3f487c77a4cee2b1b6be", func := "loop.example/g00105/laws.FnExactLonely", spec := "fnExactLonely", apart := false, narrowed := true }
def FnExactLonelyUptoSaid : Prop := fnExactLonelyUptoRow.holds Try.pinned (OpenSpec.upto fnExactLonelySpec)

/-- 'laws.FnExactPiecesOf', WHERE WHAT IT READS IS OF BULK AT MOST 1048576: true; the input reads as it did. -/
def fnExactPiecesOfUptoRow : OpenClaim := { program := "ytlndlccbecnjoaa", sum := "81bd13f530d659561164c2a571a5e3a0b8180128558b3f487c77a4cee2b1b6be", func := "loop.example/g00105/laws.FnExactPiecesOf", spec := "fnExactPiecesOf", apart := false, narrowed := true }
def FnExactPiecesOfUptoSaid : Prop := fnExactPiecesOfUptoRow.holds Try.pinned (OpenSpec.upto fnExactPiecesOfSpec)

/-- 'laws.FnExactBlocks', WHERE WHAT IT READS IS OF BULK AT MOST 1048576: true; the input reads as it did. -/
def fnExactBlocksUptoRow : OpenClaim := { program := "ytlndlccbecnjoaa", sum := "81bd13f530d659561164c2a571a5e3a0b8180128558b3f487c77a4cee2b1b6be", func := "loop.example/g00105/laws.FnExactBlocks", spec := "fnExactBlocks", apart := false, narrowed := true }
def FnExactBlocksUptoSaid : Prop := fnExactBlocksUptoRow.holds Try.pinned (OpenSpec.upto fnExactBlocksSpec)

/-- 'laws.FnExactBound', WHERE WHAT IT READS IS OF BULK AT MOST 1048576: true; the input reads as it did. -/
def fnExactBoundUptoRow : OpenClaim := { program := "ytlndlccbecnjoaa", sum := "81bd13f530d659561164c2a571a5e3a0b8180128558b3f487c77a4cee2b1b6be", func := "loop.example/g00105/laws.FnExactBound", spec := "fnExactBound", apart := false, narrowed := true }
def FnExactBoundUptoSaid : Prop := fnExactBoundUptoRow.holds Try.pinned (OpenSpec.upto fnExactBoundSpec)

/-- 'laws.FnExactSwapped', WHERE WHAT IT READS IS OF BULK AT MOST 1048576: true; the input reads as it did. -/
def fnExactSwappedUptoRow : OpenClaim := { program := "ytlndlccbecnjoaa", sum := "81bd13f530d659561164c2a571a5e3a0b8180128558b3f487c77a4cee2b1b6be", func := "loop.example/g00105/laws.FnExactSwapped", spec := "fnExactSwapped", apart := false, narrowed := true }
def FnExactSwappedUptoSaid : Prop := fnExactSwappedUptoRow.holds Try.pinned (OpenSpec.upto fnExactSwappedSpec)

/-- 'laws.FnExactCertifies', WHERE WHAT IT READS IS OF BULK AT MOST 1048576: true; the input reads as it did. -/
def fnExactCertifiesUptoRow : OpenClaim := { program := "ytlndlccbecnjoaa", sum := "81bd13f530d659561164c2a571a5e3a0b8180128558b3f487c77a4cee2b1b6be", func := "loop.example/g00105/laws.FnExactCertifies", spec := "fnExactCertifies", apart := false, narrowed := true }
def FnExactCertifiesUptoSaid : Prop := fnExactCertifiesUptoRow.holds Try.pinned (OpenSpec.upto fnExactCertifiesSpec)

end Rows
end Go.Proofs.Ytlndlccbecnjoaa
