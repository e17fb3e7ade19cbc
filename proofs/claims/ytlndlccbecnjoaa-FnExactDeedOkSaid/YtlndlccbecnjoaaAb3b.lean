/- Which slots are boxes of the call's own, which are aliases: found by a look over a function's operations. No conditions. -/
import Derived.Test.YtlndlccbecnjoaaAb3
namespace Go.Proofs.Ytlndlccbecnjoaa.Ab
set_option linter.unusedSimpArgs false
set_option linter.unusedVariables false
set_option linter.unnecessarySimpa false

def opsOf : Code → List Oper
  | .region _ ops _ => ops.toList
  | .seq a b => opsOf a ++ opsOf b
  | .cond _ a b => opsOf a ++ opsOf b
  | .block _ a => opsOf a
  | .loop a => opsOf a
  | .scope a => opsOf a
  | _ => []

def condsOf : Code → List Operand
  | .seq a b => condsOf a ++ condsOf b
  | .cond c a b => c :: (condsOf a ++ condsOf b)
  | .block _ a => condsOf a
  | .loop a => condsOf a
  | .scope a => condsOf a
  | _ => []

def tmpsOf (l : List Operand) : List Nat := l.filterMap fun | .tmp t => some t | _ => none

/-- The slots that an operation uses as values, not as places. -/
def valueUses (o : Oper) : List Nat := match o.op with
  | .load _ _ => []
  | .store _ _ v => tmpsOf [v]
  | .fieldAddr _ _ _ => []
  | op => tmpsOf op.operands.toList

def boxesOf (fn : Func) (c : Code) : List Nat :=
  let ops := opsOf c
  let made := ops.filterMap fun o => match o.op, o.dst with
    | .alloc _, some d | .box _ _, some d => some d
    | _, _ => none
  let bad := ops.flatMap valueUses ++ tmpsOf (condsOf c) ++ (ops.filterMap fun o => match o.op, o.dst with
    | .alloc _, _ | .box _ _, _ => none
    | _, d => d) ++ (fn.results.toList.filterMap fun | .tmp t => some t | _ => none) ++ List.range fn.params.size
  (made.filter fun d => !bad.contains d).eraseDups

/-- Each alias, with its box. -/
def aliasesOf (D : List Nat) (c : Code) : List (Nat × Nat) :=
  (opsOf c).foldl (fun E o => match o.op, o.dst with
    | .fieldAddr _ (.tmp x) _, some e => if D.contains x then (e, x) :: E else match E.lookup x with
      | some d => (e, d) :: E
      | none => E
    | _, _ => E) []

/-- The literal lists that are only appended or turned into a text, with their lengths. -/
def litsOf (fn : Func) (c : Code) : List (Nat × Nat) :=
  let ops := opsOf c
  let used := ops.flatMap fun o => match o.op with
    | .call { callee := .builtin .append, args, argTypes := _ } => tmpsOf (args.toList.take 1)
    | .convert _ _ _ => []
    | op => tmpsOf op.operands.toList
  let bad := used ++ tmpsOf (condsOf c) ++ (fn.results.toList.filterMap fun | .tmp t => some t | _ => none)
  ops.filterMap fun o => match o.op, o.dst with
    | .buildSlice _ n _, some d => if n = 0 || bad.contains d then none else some (d, n)
    | _, _ => none

def compFun (P : Program) (fn : Func) : Option Fun := match fn.body with
  | some c =>
    let D := boxesOf fn c
    let E := aliasesOf D c
    let L := litsOf fn c
    match compCode P D E L fn.ntmps c, fn.results.toList.mapM (compRes P D E L) with
    | some ir, some rs => if fn.params.size + fn.nfree ≤ fn.ntmps ∧ (fn.name == "runtime.NumGoroutine") = false then some ⟨fn.params.size + fn.nfree, ir, rs⟩ else none
    | _, _ => none
  | none => none

end Go.Proofs.Ytlndlccbecnjoaa.Ab
