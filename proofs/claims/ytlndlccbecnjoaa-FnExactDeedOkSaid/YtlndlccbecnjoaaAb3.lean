/- The reading of a loaded function into the small language: a check that the kernel computes. No conditions. -/
import Derived.Test.YtlndlccbecnjoaaAb2
namespace Go.Proofs.Ytlndlccbecnjoaa.Ab
set_option linter.unusedSimpArgs false
set_option linter.unusedVariables false
set_option linter.unnecessarySimpa false

def constOk : Value → Bool
  | .bool _ | .int _ _ | .string _ | .slice none 0 0 | .pointer none | .nilFunc | .nilIface => true
  | _ => false

def opd : Operand → Option Opd
  | .tmp t => some (.t t)
  | .const v => if constOk v then some (.c v) else none
  | .func f => some (.c (.func (.func f) #[] #[]))
  | .global _ => none

def opds : List Operand → Option (List Opd)
  | [] => some []
  | x :: xs => match opd x, opds xs with
    | some y, some ys => some (y :: ys)
    | _, _ => none

def oopd : Option Operand → Option (Option Opd)
  | none => some none
  | some x => (opd x).map some

/-- A row's type, an array's, any other. -/
def descAgg : TypeDesc → Option Bool
  | .struct _ => some true
  | .array _ _ => none
  | _ => some false

/-- How many cells a type has, and whether its values are rows. -/
def rowOf (P : Program) (t : TypeId) : Option (Nat × Bool) := match P.underlying t with
  | some d => match descAgg d, P.info? t with
    | some true, some i => some (i.size, true)
    | some false, some i => if i.size = 1 then some (1, false) else none
    | _, _ => none
  | none => none

def zeroOf (P : Program) (t : TypeId) : Option (List Value) := match P.info? t with
  | some i => match i.zero with
    | some z => match cellsOf z with
      | some cs => if cs.length = i.size ∧ cs.all prim then some cs else none
      | none => none
    | none => none
  | none => none

def fieldOf (P : Program) (t : TypeId) (f : Nat) : Option (Nat × Nat × Bool) := match P.underlying t with
  | some (.struct fs) => match fs[f]? with
    | some fd => match rowOf P fd.type, P.info? fd.type with
      | some (n, agg), some i => if n = 0 ∨ i.size ≠ n then none else some (fd.offset, n, agg)
      | _, _ => none
    | none => none
  | _ => none

/-- A slice's element: type, cells, bytes, zero. -/
def elemOf (P : Program) (t : TypeId) : Option (TypeId × Nat × Nat × List Value) := match P.underlying t with
  | some (.slice e) => match P.info? e, zeroOf P e with
    | some i, some z => if 0 < i.size ∧ i.bytes ≤ 64 ∧ 0 < i.bytes then some (e, i.size, i.bytes, z) else none
    | _, _ => none
  | _ => none

/-- Is it a string's type, a byte slice's type? -/
def isStr (P : Program) (t : TypeId) : Bool := match P.underlying t with
  | some .string => true
  | _ => false
def isSlice (P : Program) (t : TypeId) : Bool := match P.underlying t with
  | some (.slice _) => true
  | _ => false
def isBytes (P : Program) (t : TypeId) : Bool := match P.underlying t with
  | some (.slice e) => match P.underlying e with
    | some (.int .u8) => true
    | _ => false
  | _ => false

/-- The kinds of a struct's fields, where they are one cell each, numbers, texts, bools, and may be compared cell by cell. -/
def eqKinds (P : Program) : Nat → List Field → Option (List Nat)
  | _, [] => some []
  | i, f :: fs => match (if f.name = "_" ∨ f.offset ≠ i then none else match P.underlying f.type with
      | some (.int _) => some 0
      | some .string => some 1
      | some .bool => some 2
      | _ => none : Option Nat), eqKinds P (i + 1) fs with
    | some k, some ks => some (k :: ks)
    | _, _ => none

def eqOk (P : Program) (t : TypeId) : Bool := !P.stoodInHeld t && !P.eqGuardType P.depth t

def fieldsOf (P : Program) (t : TypeId) : Option (List (Nat × Nat)) := match P.underlying t with
  | some (.struct fs) => fs.toList.mapM fun f => (P.info? f.type).map fun i => (f.offset, i.size)
  | _ => none

def placesOf (fs : List (Nat × Nat)) : List Nat → Option (List (Nat × Nat))
  | [] => some []
  | i :: is => match fs[i]?, placesOf fs is with
    | some p, some ps => some (p :: ps)
    | _, _ => none

def compIns (P : Program) (D : List Nat) (E : List (Nat × Nat)) (L : List (Nat × Nat)) (o : Oper) : Option MI := match o.op with
  | .move x => (opd x).map .mov
  | .assign x => (opd x).map .mov
  | .pick c a b => match opd c, opd a, opd b with
    | some c, some a, some b => some (.pick c a b)
    | _, _, _ => none
  | .binOp op t x y _ => match opd x, opd y, P.underlying t with
    | some x, some y, some (.int _) => some (.bin op x y)
    | some x, some y, some .string => some (.bin op x y)
    | some x, some y, some .bool => some (.binB op x y)
    | some x, some y, some (.struct fs) => match eqOk P t, eqKinds P 0 fs.toList, op with
        | true, some ks, .eql => some (.eqS ks false x y)
        | true, some ks, .neq => some (.eqS ks true x y)
        | _, _, _ => none
    | _, _, _ => none
  | .unOp op _ x => (opd x).map (.un op)
  | .convert s t x => match opd x, P.underlying s, P.underlying t with
    | some x, some (.int _), some (.int k) => some (.conv k x)
    | some x, some (.slice e), some .string => match P.underlying e with
      | some (.int .u8) => match x with
        | .t e => match L.lookup e with
          | some n => some (.strL n e)
          | none => some (.str (.t e))
        | _ => none
      | _ => none
    | _, _, _ => none
  | .load t x => match rowOf P t, x with
    | some (n, agg), .tmp x => if D.contains x then some (.ldB n agg x) else match E.lookup x with | some d => some (.ldE n agg d x) | none => some (.ld n agg (.t x))
    | _, _ => none
  | .store t x v => match rowOf P t, P.info? t, x, opd v with
    | some (n, _), some i, .tmp x, some v => if i.size = n then (if D.contains x then some (.stB n x v) else match E.lookup x with | some d => some (.stE n d x v) | none => some (.st n (.t x) v)) else none
    | _, _, _, _ => none
  | .fieldAddr t x f => match fieldOf P t f, x with
    | some (off, _, _), .tmp x => if D.contains x then some (.faB off x) else match E.lookup x with | some d => some (.faE off d x) | none => some (.fa off (.t x))
    | _, _ => none
  | .field t x f => match fieldOf P t f, opd x with
    | some (off, n, agg), some x => some (.fl off n agg x)
    | _, _ => none
  | .indexAddr t x i => match elemOf P t, opd x, opd i with
    | some (_, sz, _, _), some x, some i => some (.ia sz x i)
    | _, _, _ => none
  | .index t x i => match isStr P t, opd x, opd i with
    | true, some x, some i => some (.ix x i)
    | _, _, _ => none
  | .slice t x lo hi none => match isStr P t, elemOf P t, opd x, oopd lo, oopd hi with
    | true, _, some x, some lo, some hi => some (.slS x lo hi)
    | false, some (_, sz, _, _), some x, some lo, some hi => some (.slL sz x lo hi)
    | _, _, _, _, _ => none
  | .buildSlice t n parts => match elemOf P t, opds (parts.toList.map (·.2)) with
    | some (e, sz, _, z), some xs => if n * sz ≤ 16777216 then (match o.dst with
      | some d => match L.lookup d with
        | some m => if m = n ∧ 0 < n then some (.litL n sz z ((parts.toList.map (·.1)).zip xs)) else none
        | none => some (.lit n sz e z ((parts.toList.map (·.1)).zip xs))
      | none => none) else none
    | _, _ => none
  | .build t parts => match zeroOf P t, fieldsOf P t, opds (parts.toList.map (·.2)) with
    | some z, some fs, some xs => match placesOf fs (parts.toList.map (·.1)) with
      | some ps => some (.bld z ((ps.zip xs).map fun p => (p.1.1, p.1.2, p.2)))
      | none => none
    | _, _, _ => none
  | .makeSlice t n c => match elemOf P t, n, c with
    | some (e, sz, b, z), .tmp n, .tmp c => if n = c then some (.mk sz e b z (.t n)) else none
    | some (e, sz, b, z), .const (.int .i64 n), .const (.int .i64 c) => if n = c then some (.mk sz e b z (.c (.int .i64 n))) else none
    | _, _, _ => none
  | .alloc t => match rowOf P t, zeroOf P t, o.dst with
    | some (n, _), some z, some d => if n = z.length ∧ 0 < n then (if D.contains d then some (.newL z) else some (.nw t z)) else none
    | _, _, _ => none
  | .box t x => match rowOf P t, opd x, o.dst with
    | some (n, _), some x, some d => if 0 < n then (if D.contains d then some (.boxL n x) else some (.bx t n x)) else none
    | _, _, _ => none
  | .extract x i => (opd x).map (.ext i)
  | .nilCheck x => (opd x).map .chk
  | .makeFunc f first caps => if first.size = 0 then (opds caps.toList).map (.fn f) else none
  | .call { callee := .value (.func f), args, argTypes := _ } => (opds args.toList).map (.call f)
  | .call { callee := .value (.tmp f), args, argTypes := _ } => (opds args.toList).map (.callV (.t f))
  | .call { callee := .builtin .len, args, argTypes } => match args.toList, argTypes.toList with
    | [x], [t] => if isStr P t then (opd x).map .lnS else if isSlice P t then (opd x).map .ln else none
    | _, _ => none
  | .call { callee := .builtin .append, args, argTypes } => match args.toList, argTypes.toList with
    | [s, x], [t, u] => match elemOf P t, opd s, opd x with
      | some (e, sz, b, _), some s, some (.t x) => if u = t then (match L.lookup x with
        | some n => some (.appL sz e b n s x)
        | none => some (.app sz e b s (.t x))) else none
      | some (e, sz, b, _), some s, some (.c x) => if u = t then some (.app sz e b s (.c x)) else none
      | _, _, _ => none
    | _, _ => none
  | .call { callee := .builtin .max, args, argTypes := _ } => match args.toList with
    | [x, y] => match opd x, opd y with
      | some x, some y => some (.mm true x y)
      | _, _ => none
    | _ => none
  | .call { callee := .builtin .min, args, argTypes := _ } => match args.toList with
    | [x, y] => match opd x, opd y with
      | some x, some y => some (.mm false x y)
      | _, _ => none
    | _ => none
  | _ => none

/-- Is it a slot of the common kind: no own box, no alias, no literal? -/
def plain (D : List Nat) (E L : List (Nat × Nat)) (d : Nat) : Bool := !D.contains d && (E.lookup d).isNone && (L.lookup d).isNone

/-- A slot is written as what it is: an own box, an alias, a literal, or any other. -/
def dstOk (D : List Nat) (E L : List (Nat × Nat)) (N : Nat) : MI → Option Nat → Bool
  | .newL _, some d => D.contains d && (L.lookup d).isNone && decide (d < N)
  | .boxL _ _, some d => D.contains d && (L.lookup d).isNone && decide (d < N)
  | .faB _ x, some d => (E.lookup d == some x) && !D.contains d && (L.lookup d).isNone && decide (d < N)
  | .faE _ x _, some d => (E.lookup d == some x) && !D.contains d && (L.lookup d).isNone && decide (d < N)
  | .litL .., some d => (L.lookup d).isSome && !D.contains d && (E.lookup d).isNone && decide (d < N)
  | .stB .., none => true
  | .stE .., none => true
  | .st .., none => true
  | .call .., none => true
  | .callV .., none => true
  | .newL _, none => false
  | .boxL .., none => false
  | .faB .., none => false
  | .faE .., none => false
  | .litL .., none => false
  | .stB .., some _ => false
  | .stE .., some _ => false
  | .st .., some _ => false
  | _, some d => plain D E L d && decide (d < N)
  | _, none => false

/-- The operands of an instruction are common slots. -/
def Opd.ok (D : List Nat) (E L : List (Nat × Nat)) : Opd → Bool
  | .t n => plain D E L n
  | .c _ => true

def compOp (P : Program) (D : List Nat) (E L : List (Nat × Nat)) (N : Nat) (ops : List Oper) (o : Oper) : Option MOp := match compIns P D E L o with
  | some i => if dstOk D E L N i o.dst then match o.guard with
      | none => some ⟨o.dst, i, none⟩
      | some (j, b) => match ops[j]? with
        | some g => match g.dst with
          | some d => if plain D E L d then some ⟨o.dst, i, some (d, b)⟩ else none
          | none => none
        | none => none
    else none
  | none => none

def compOps (P : Program) (D : List Nat) (E L : List (Nat × Nat)) (N : Nat) (ops : List Oper) : List Oper → Option (List MOp)
  | [] => some []
  | o :: os => match compOp P D E L N ops o, compOps P D E L N ops os with
    | some m, some ms => some (m :: ms)
    | _, _ => none

/-- The slots that an instruction looks at. -/
def Opd.slots : Opd → List Nat
  | .t n => [n]
  | .c _ => []
def oSlots : Option Opd → List Nat
  | some x => x.slots
  | none => []
def MI.slots : MI → List Nat
  | .mov x | .un _ x | .conv _ x | .str x | .ld _ _ x | .fa _ x | .fl _ _ _ x | .ln x | .lnS x | .ext _ x | .chk x => x.slots
  | .pick c a b => c.slots ++ a.slots ++ b.slots
  | .bin _ x y | .binB _ x y | .eqS _ _ x y | .ia _ x y | .ix x y | .mm _ x y => x.slots ++ y.slots
  | .slS x lo hi | .slL _ x lo hi => x.slots ++ oSlots lo ++ oSlots hi
  | .bld _ ps => ps.flatMap fun p => p.2.2.slots
  | .fn _ xs | .call _ xs => xs.flatMap Opd.slots
  | .faB _ d | .ldB _ _ d => [d]
  | .faE _ d e | .ldE _ _ d e => [d, e]
  | .stB _ d v => d :: v.slots
  | .stE _ d e v => d :: e :: v.slots
  | .litL _ _ _ ps => ps.flatMap fun p => p.2.slots
  | .appL _ _ _ _ s e => e :: s.slots
  | .app _ _ _ s x => s.slots ++ x.slots
  | .strL _ e => [e]
  | _ => []
def MOp.slots (o : MOp) : List Nat := o.ins.slots ++ (match o.guard with | some (j, _) => [j] | none => [])
/-- The slots that an operation writes; a new box lets go all aliases of its slot. -/
def MOp.outs (E : List (Nat × Nat)) (o : MOp) : List Nat := match o.ins, o.dst with
  | .stB _ d _, _ => [d]
  | .stE _ d _ _, _ => [d]
  | .newL _, some d => d :: (E.filter fun p => p.2 == d).map (·.1)
  | _, some d => [d]
  | _, none => []

/-- Operations that may stand in a region whose order is open. -/
def MI.freely : MI → Bool
  | .faB .. | .faE .. | .stB .. | .stE .. | .litL .. | .newL _ => true
  | i => i.reads || i.makes

/-- Two operations of a region that may change places. -/
def MOp.apart (E : List (Nat × Nat)) (x y : MOp) : Bool := !(x.ins.makes && y.ins.makes) && ((x.outs E).all fun d => !(y.outs E).contains d && !y.slots.contains d) && (y.outs E).all fun d => !x.slots.contains d

/-- Does operation 'a' stand ahead of 'i', by the region's own edges? -/
def anc (ops : List Oper) : Nat → Nat → Nat → Bool
  | 0, _, _ => false
  | n + 1, i, a => match ops[i]? with
    | some o => o.after.toList.any fun e => Region.binds .any e && (e.on == a || anc ops n e.on a)
    | none => false

/-- A region whose order is open: each two operations stand one ahead of the other, or may change places. -/
def freeOk (E : List (Nat × Nat)) (ops : List Oper) (ms : List MOp) : Bool :=
  Region.noSelect ops.toArray &&
  (ms.all fun m => m.ins.freely) &&
  ((List.range ops.length).all fun i => match ops[i]? with
    | some o => o.after.toList.all fun e => !Region.binds .any e || decide (e.on < i)
    | none => true) &&
  (List.range ms.length).all fun i => (List.range i).all fun a => match ms[a]?, ms[i]? with
    | some x, some y => x.apart E y || anc ops 12 i a
    | _, _ => false

/-- All that look into the memory stand ahead of all that turn it. -/
def lastOk (ops : List Oper) (ms : List MOp) : Bool :=
  (List.range ms.length).all fun i => (List.range ms.length).all fun a => match ms[a]?, ms[i]? with
    | some x, some y => !(y.ins.makes && x.ins.looks) || anc ops 12 i a
    | _, _ => false

def compCode (P : Program) (D : List Nat) (E : List (Nat × Nat)) (L : List (Nat × Nat)) (N : Nat) : Code → Option IR
  | .skip => some .skip
  | .region _ ops draw => match compOps P D E L N ops.toList ops.toList with
    | some ms => if draw then (if freeOk E ops.toList ms && P.follows .mixedOrders then some (.free (lastOk ops.toList ms) ms) else none) else some (.ops ms)
    | none => none
  | .seq a b => match compCode P D E L N a, compCode P D E L N b with
    | some a, some b => some (.seq a b)
    | _, _ => none
  | .cond c a b => match opd c, compCode P D E L N a, compCode P D E L N b with
    | some c, some a, some b => some (.cond c a b)
    | _, _, _ => none
  | .block id a => (compCode P D E L N a).map (.block id)
  | .loop a => (compCode P D E L N a).map .loop
  | .exit id => some (.exit id)
  | .ret => some .ret
  | _ => none

def compRes (P : Program) (D : List Nat) (E L : List (Nat × Nat)) : ResultVar → Option Res
  | .tmp t => if plain D E L t then some (.slot t) else none
  | .cell a t => match rowOf P t with
    | some (n, agg) => if D.contains a then some (.box a n agg) else none
    | none => none

end Go.Proofs.Ytlndlccbecnjoaa.Ab
