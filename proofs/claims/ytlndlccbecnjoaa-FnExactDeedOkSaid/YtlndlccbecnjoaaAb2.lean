/- The small language into which a function's operations are read, and its run over the abstract memory: no order is open, no capacity is drawn. No conditions. -/
import Derived.Test.YtlndlccbecnjoaaAb1
import Derived.Laws.BytesArg
namespace Go.Proofs.Ytlndlccbecnjoaa.Ab
set_option linter.unusedSimpArgs false
set_option linter.unusedVariables false
set_option linter.unnecessarySimpa false

/-- Operands: a slot, a constant. -/
inductive Opd where
  | t (n : Nat)
  | c (v : Value)

inductive MI where
  | mov (x : Opd)
  | pick (c a b : Opd)
  | bin (op : BinOp) (x y : Opd)
  | binB (op : BinOp) (x y : Opd)
  | eqS (ks : List Nat) (neg : Bool) (x y : Opd)
  | un (op : UnOp) (x : Opd)
  | conv (k : IntKind) (x : Opd)
  | str (x : Opd)
  | ld (n : Nat) (agg : Bool) (x : Opd)
  | fa (off : Nat) (x : Opd)
  | ia (sz : Nat) (x i : Opd)
  | ix (x i : Opd)
  | fl (off n : Nat) (agg : Bool) (x : Opd)
  | slS (x : Opd) (lo hi : Option Opd)
  | slL (sz : Nat) (x : Opd) (lo hi : Option Opd)
  | ln (x : Opd)
  | lnS (x : Opd)
  | app (sz : Nat) (ty : TypeId) (bytes : Nat) (s x : Opd)
  | lit (n sz : Nat) (ty : TypeId) (zero : List Value) (parts : List (Nat × Opd))
  | bld (zero : List Value) (parts : List (Nat × Nat × Opd))
  | mk (sz : Nat) (ty : TypeId) (bytes : Nat) (zero : List Value) (n : Opd)
  | nw (ty : TypeId) (cells : List Value)
  | bx (ty : TypeId) (n : Nat) (x : Opd)
  | ext (i : Nat) (x : Opd)
  | chk (x : Opd)
  | mm (isMax : Bool) (x y : Opd)
  | fn (f : Fn) (caps : List Opd)
  -- a box of the call's own, known by its slot; an alias, a slot that points into it
  | newL (cells : List Value)
  | boxL (n : Nat) (x : Opd)
  | faB (off : Nat) (d : Nat)
  | faE (off : Nat) (d e : Nat)
  | ldB (n : Nat) (agg : Bool) (d : Nat)
  | ldE (n : Nat) (agg : Bool) (d e : Nat)
  | stB (n : Nat) (d : Nat) (v : Opd)
  | stE (n : Nat) (d e : Nat) (v : Opd)
  -- a literal list of the call's own, known by its slot, that is appended or turned into a text
  | litL (n sz : Nat) (zero : List Value) (parts : List (Nat × Opd))
  | appL (sz : Nat) (ty : TypeId) (bytes n : Nat) (s : Opd) (e : Nat)
  | strL (n e : Nat)
  | st (n : Nat) (x v : Opd)
  | call (f : FuncId) (args : List Opd)
  | callV (f : Opd) (args : List Opd)

structure MOp where
  dst : Option Nat
  ins : MI
  guard : Option (Nat × Bool)

/-- The slots, the own boxes, the aliases, the memory. -/
structure St where
  t : Nat → Value
  loc : Nat → Option (List Value)
  al : Nat → Option (Nat × Nat)
  h : Heap

def upd {α : Type} (f : Nat → α) (i : Nat) (v : α) : Nat → α := fun j => if j = i then v else f j
theorem upd_same {α : Type} (f : Nat → α) (i : Nat) (v : α) : upd f i v i = v := by simp [upd]
theorem upd_ne {α : Type} (f : Nat → α) {i j : Nat} (v : α) (h : j ≠ i) : upd f i v j = f j := by simp [upd, h]

/-- No slot points into the box any more. -/
def unal (al : Nat → Option (Nat × Nat)) (d : Nat) : Nat → Option (Nat × Nat) := fun e => match al e with
  | some (d', off) => if d' = d then none else some (d', off)
  | none => none

/-- The mark of an operation that was not taken. -/
def gone : Value := .map none

def St.val (s : St) : Opd → Value
  | .t n => s.t n
  | .c v => v

def St.put (s : St) (d : Option Nat) (v : Value) : St := match d with
  | some d => { s with t := upd s.t d v }
  | none => s

/-- The cells of a value. -/
def cellsOf : Value → Option (List Value)
  | .agg ⟨xs⟩ => some xs
  | .tuple _ => none
  | .map _ => none
  | v => some [v]

def ofCells (agg : Bool) (cs : List Value) : Option Value := if agg then some (.agg ⟨cs⟩) else match cs with
  | [v] => some v
  | _ => none

def ldC (h : Heap) (p : Value) (n : Nat) : Option (List Value) := match p with
  | .pointer (some ⟨b, off, some L⟩) => match h[b]? with
    | some blk => if L = blk.cells.length ∧ off + n ≤ L then some ((blk.cells.drop off).take n) else none
    | none => none
  | _ => none

def putAt (cs : List Value) (off : Nat) (vs : List Value) : List Value := cs.take off ++ vs ++ cs.drop (off + vs.length)

def stC (h : Heap) (p : Value) (vs : List Value) : Option Heap := match p with
  | .pointer (some ⟨b, off, some L⟩) => match h[b]? with
    | some blk => if L = blk.cells.length ∧ off + vs.length ≤ L ∧ blk.own = true then some (h.set b { blk with cells := putAt blk.cells off vs }) else none
    | none => none
  | _ => none

def faV (h : Heap) (p : Value) (off : Nat) : Option Value := match p with
  | .pointer (some ⟨b, o, some L⟩) => match h[b]? with
    | some blk => if L = blk.cells.length then some (.pointer (some ⟨b, o + off, some L⟩)) else none
    | none => none
  | _ => none

/-- A slice is as long as it was made: its block has not grown. -/
def iaV (h : Heap) (sz : Nat) (x i : Value) : Option Value := match x, i with
  | .slice (some ⟨b, off, none⟩) len cap, .int _ i => match h[b]? with
    | some blk => if 0 ≤ i ∧ i < len ∧ blk.sz = sz ∧ off + cap * sz = blk.cells.length then some (.pointer (some ⟨b, off + i.toNat * sz, some blk.cells.length⟩)) else none
    | none => none
  | _, _ => none

def ixV (x i : Value) : Option Value := match x, i with
  | .string s, .int _ i => if 0 ≤ i ∧ i < (s.size : Int) then some (.int .u8 (s.data.toList.getD i.toNat 0).toNat) else none
  | _, _ => none

def bnd (d : Int) : Option Value → Option Int
  | none => some d
  | some (.int _ i) => some i
  | some _ => none

def slSV (x : Value) (lo hi : Option Value) : Option Value := match x with
  | .string s => match bnd 0 lo, bnd s.size hi with
    | some l, some r => if 0 ≤ l ∧ l ≤ r ∧ r ≤ (s.size : Int) then some (.string (s.extract l.toNat r.toNat)) else none
    | _, _ => none
  | _ => none

def slLV (sz : Nat) (x : Value) (lo hi : Option Value) (h : Heap) : Option Value := match x with
  | .slice none 0 0 => match bnd 0 lo, bnd 0 hi with
    | some 0, some 0 => some x
    | _, _ => none
  | .slice (some ⟨b, off, none⟩) len cap => match h[b]? with
    | some blk => match bnd 0 lo, bnd len hi with
      | some l, some r => if 0 ≤ l ∧ l ≤ r ∧ r ≤ (len : Int) ∧ blk.sz = sz ∧ off + cap * sz = blk.cells.length then some (.slice (some ⟨b, off + l.toNat * sz, none⟩) (r - l).toNat (cap - l.toNat)) else none
      | _, _ => none
    | none => none
  | _ => none

def lnV (h : Heap) (x : Value) : Option Value := match x with
  | .slice none 0 0 => some (.int .i64 0)
  | .slice (some ⟨b, off, none⟩) n cap => match h[b]? with
    | some blk => if off + cap * blk.sz = blk.cells.length then some (.int .i64 n) else none
    | none => none
  | _ => none

/-- The cells that a slice shows. -/
def rowC (h : Heap) (sz : Nat) (x : Value) : Option (List Value) := match x with
  | .slice none 0 0 => some []
  | .slice (some ⟨b, off, none⟩) len cap => match h[b]? with
    | some blk => if blk.sz = sz ∧ off + cap * sz = blk.cells.length then some ((blk.cells.drop off).take (len * sz)) else none
    | none => none
  | _ => none

def lim : Nat := 1099511627776

def appV (h : Heap) (sz : Nat) (ty : TypeId) (s : Value) (news : List Value) (n : Nat) : Option (Value × Heap) :=
  match s with
  | .slice none 0 0 => if n = 0 then some (s, h) else if n ≤ lim then some (.slice (some ⟨h.length, 0, none⟩) n n, h ++ [⟨news, sz, ty, true⟩]) else none
  | .slice (some ⟨b, off, none⟩) len cap => match h[b]? with
    | some blk => if off + cap * blk.sz = blk.cells.length then (if n = 0 then some (s, h) else
        if off = 0 ∧ blk.sz = sz ∧ blk.ty = ty ∧ blk.own = true ∧ len = cap ∧ len + n ≤ lim then
          some (.slice (some ⟨b, 0, none⟩) (len + n) (len + n), h.set b { blk with cells := blk.cells ++ news }) else none) else none
    | none => none
  | _ => none

def bytesC (s : ByteArray) : List Value := s.data.toList.map fun b => .int .u8 (b.toNat : Int)

def isInt8 : Value → Option Int
  | .int .u8 n => some n
  | _ => none

def ints8 : List Value → Option (List Int)
  | [] => some []
  | v :: vs => match isInt8 v, ints8 vs with
    | some n, some ns => some (n :: ns)
    | _, _ => none

def strV (h : Heap) (x : Value) : Option Value := match rowC h 1 x with
  | some cs => (ints8 cs).map fun ns => .string (strOfNums ns)
  | none => none

def binV (op : BinOp) (x y : Value) : Option Value := match x, y with
  | .int k a, .int k' b => match op with
    | .shl => if b < 0 then none else some (.int k (k.wrap (a * 2 ^ min b.toNat k.bits)))
    | .shr => if b < 0 then none else some (.int k (a.fdiv (2 ^ min b.toNat k.bits)))
    | .add => if k = k' then some (.int k (k.wrap (a + b))) else none
    | .sub => if k = k' then some (.int k (k.wrap (a - b))) else none
    | .mul => if k = k' then some (.int k (k.wrap (a * b))) else none
    | .quo => if k = k' ∧ b ≠ 0 then some (.int k (k.wrap (a.tdiv b))) else none
    | .rem => if k = k' ∧ b ≠ 0 then some (.int k (a.tmod b)) else none
    | .and => if k = k' then some (.int k (k.wrap (BitVec.ofInt k.bits a &&& BitVec.ofInt k.bits b).toNat)) else none
    | .or => if k = k' then some (.int k (k.wrap (BitVec.ofInt k.bits a ||| BitVec.ofInt k.bits b).toNat)) else none
    | .xor => if k = k' then some (.int k (k.wrap (BitVec.ofInt k.bits a ^^^ BitVec.ofInt k.bits b).toNat)) else none
    | .andNot => none
    | .eql => if k = k' then some (.bool (decide (a = b))) else none
    | .neq => if k = k' then some (.bool (!decide (a = b))) else none
    | .lss => if k = k' then some (.bool (decide (a < b))) else none
    | .leq => if k = k' then some (.bool (decide (a ≤ b))) else none
    | .gtr => if k = k' then some (.bool (decide (a > b))) else none
    | .geq => if k = k' then some (.bool (decide (a ≥ b))) else none
  | .string a, .string b => match op with
    | .add => if a.size + b.size ≤ 9223372036854775807 then some (.string (a ++ b)) else none
    | .eql => some (.bool (a.toList == b.toList))
    | .neq => some (.bool (!(a.toList == b.toList)))
    | .lss => some (.bool (Op.bytesLess a.toList b.toList))
    | .leq => some (.bool (Op.bytesLess a.toList b.toList || a.toList == b.toList))
    | .gtr => some (.bool !(Op.bytesLess a.toList b.toList || a.toList == b.toList))
    | .geq => some (.bool !(Op.bytesLess a.toList b.toList))
    | _ => none
  | _, _ => none

def binBV (op : BinOp) (x y : Value) : Option Value := match x, y with
  | .bool a, .bool b => match op with
    | .eql => some (.bool (a == b))
    | .neq => some (.bool !(a == b))
    | _ => none
  | _, _ => none

def eqCell : Nat → Value → Value → Option Bool
  | 0, .int k a, .int k' b => if k = k' then some (a == b) else none
  | 1, .string a, .string b => some (a.toList == b.toList)
  | 2, .bool a, .bool b => some (a == b)
  | _, _, _ => none

def eqCells : List Nat → List Value → List Value → Option Bool
  | [], _, _ => some true
  | k :: ks, x :: xs, y :: ys => match eqCell k x y with
    | some true => eqCells ks xs ys
    | some false => some false
    | none => none
  | _, _, _ => none

def unV (op : UnOp) (x : Value) : Option Value := match op, x with
  | .not, .bool b => some (.bool !b)
  | .neg, .int k n => some (.int k (k.wrap (0 - n)))
  | _, _ => none

def fillAt (sz : Nat) (cells : List Value) : List (Nat × Value) → Option (List Value)
  | [] => some cells
  | (i, v) :: rest => match cellsOf v with
    | some vs => if vs.length = sz ∧ i * sz + sz ≤ cells.length then fillAt sz (putAt cells (i * sz) vs) rest else none
    | none => none

def fillOff (cells : List Value) : List (Nat × Nat × Value) → Option (List Value)
  | [] => some cells
  | (off, n, v) :: rest => match cellsOf v with
    | some vs => if vs.length = n ∧ off + n ≤ cells.length then fillOff (putAt cells off vs) rest else none
    | none => none

def zeros (zero : List Value) : Nat → List Value
  | 0 => []
  | n + 1 => zero ++ zeros zero n

/-- A value of one cell that bears no function. -/
def isBase : Value → Bool
  | .slice (some _) _ _ => true
  | .pointer (some _) => true
  | v => prim v

/-- The value that an instruction gives, and the memory behind it. -/
def MI.run (s : St) : MI → Option (Value × Heap)
  | .mov x => some (s.val x, s.h)
  | .pick c a b => match s.val c with
    | .bool c => some (if c = true then s.val a else s.val b, s.h)
    | _ => none
  | .bin op x y => (binV op (s.val x) (s.val y)).map fun v => (v, s.h)
  | .binB op x y => (binBV op (s.val x) (s.val y)).map fun v => (v, s.h)
  | .eqS ks neg x y => match s.val x, s.val y with
    | .agg ⟨xs⟩, .agg ⟨ys⟩ => (eqCells ks xs ys).map fun b => (.bool (if neg = true then !b else b), s.h)
    | _, _ => none
  | .un op x => (unV op (s.val x)).map fun v => (v, s.h)
  | .conv k x => match s.val x with
    | .int _ n => some (.int k (k.wrap n), s.h)
    | _ => none
  | .str x => (strV s.h (s.val x)).map fun v => (v, s.h)
  | .ld n agg x => ((ldC s.h (s.val x) n).bind (ofCells agg)).map fun v => (v, s.h)
  | .fa off x => (faV s.h (s.val x) off).map fun v => (v, s.h)
  | .ia sz x i => (iaV s.h sz (s.val x) (s.val i)).map fun v => (v, s.h)
  | .ix x i => (ixV (s.val x) (s.val i)).map fun v => (v, s.h)
  | .fl off n agg x => match s.val x with
    | .agg ⟨xs⟩ => if off + n ≤ xs.length then (ofCells agg ((xs.drop off).take n)).map fun v => (v, s.h) else none
    | _ => none
  | .slS x lo hi => (slSV (s.val x) (lo.map s.val) (hi.map s.val)).map fun v => (v, s.h)
  | .slL sz x lo hi => (slLV sz (s.val x) (lo.map s.val) (hi.map s.val) s.h).map fun v => (v, s.h)
  | .ln x => (lnV s.h (s.val x)).map fun v => (v, s.h)
  | .lnS x => match s.val x with
    | .string b => some (.int .i64 b.size, s.h)
    | _ => none
  | .app sz ty _ d x => match s.val x with
    | .slice a n c => (rowC s.h sz (.slice a n c)).bind fun cs => appV s.h sz ty (s.val d) cs n
    | _ => none
  | .lit n sz ty zero parts => (fillAt sz (zeros zero n) (parts.map fun p => (p.1, s.val p.2))).map fun cs => (.slice (some ⟨s.h.length, 0, none⟩) n n, s.h ++ [⟨cs, sz, ty, true⟩])
  | .bld zero parts => (fillOff zero (parts.map fun p => (p.1, p.2.1, s.val p.2.2))).map fun cs => (.agg ⟨cs⟩, s.h)
  | .mk sz ty _ zero n => match s.val n with
    | .int .i64 n => if 0 ≤ n ∧ n ≤ lim then some (.slice (some ⟨s.h.length, 0, none⟩) n.toNat n.toNat, s.h ++ [⟨zeros zero n.toNat, sz, ty, true⟩]) else none
    | _ => none
  | .nw ty cells => some (.pointer (some ⟨s.h.length, 0, some cells.length⟩), s.h ++ [⟨cells, cells.length, ty, true⟩])
  | .bx ty n x => match cellsOf (s.val x) with
    | some cs => if cs.length = n then some (.pointer (some ⟨s.h.length, 0, some n⟩), s.h ++ [⟨cs, n, ty, true⟩]) else none
    | none => none
  | .ext i x => match s.val x with
    | .tuple ⟨xs⟩ => xs[i]?.map fun v => (v, s.h)
    | _ => none
  | .chk x => (ldC s.h (s.val x) 0).map fun _ => (s.val x, s.h)
  | .mm isMax x y => match s.val x, s.val y with
    | .int k a, .int _ b => some (.int k (if isMax = true then (if b > a then b else a) else (if b < a then b else a)), s.h)
    | _, _ => none
  | .fn f caps => if (caps.map s.val).all isBase = true then some (.func f #[] ⟨caps.map s.val⟩, s.h) else none
  | .ldB n agg d => match s.loc d with
    | some cs => if n ≤ cs.length then (ofCells agg (cs.take n)).map fun v => (v, s.h) else none
    | none => none
  | .ldE n agg d e => match s.al e, s.loc d with
    | some (d', off), some cs => if d' = d ∧ off + n ≤ cs.length then (ofCells agg ((cs.drop off).take n)).map fun v => (v, s.h) else none
    | _, _ => none
  | .appL sz ty _ n d e => match s.loc e with
    | some cs => if cs.length = n * sz then appV s.h sz ty (s.val d) cs n else none
    | none => none
  | .strL n e => match s.loc e with
    | some cs => if cs.length = n then (ints8 cs).map fun ns => (.string (strOfNums ns), s.h) else none
    | none => none
  | _ => none

/-- One operation, its guard taken: 'call' tells what calls come to. -/
def MOp.go (call : FuncId → List Value → Heap → Option (Value × Heap)) (o : MOp) (s : St) : Option St := match o.ins with
  | .newL cells => match o.dst with
    | some d => some { s with t := upd s.t d undef, loc := upd s.loc d (some cells), al := unal s.al d }
    | none => none
  | .boxL n x => match o.dst, cellsOf (s.val x) with
    | some d, some cs => if cs.length = n then some { s with t := upd s.t d undef, loc := upd s.loc d (some cs), al := unal s.al d } else none
    | _, _ => none
  | .faB off d => match o.dst, s.loc d with
    | some e, some _ => some { s with t := upd s.t e undef, al := upd s.al e (some (d, off)) }
    | _, _ => none
  | .faE off d e => match o.dst, s.al e, s.loc d with
    | some e', some (d', off'), some _ => if d' = d then some { s with t := upd s.t e' undef, al := upd s.al e' (some (d, off' + off)) } else none
    | _, _, _ => none
  | .stB n d v => match o.dst, s.loc d, cellsOf (s.val v) with
    | none, some cs, some vs => if vs.length = n ∧ n ≤ cs.length then some { s with loc := upd s.loc d (some (putAt cs 0 vs)) } else none
    | _, _, _ => none
  | .stE n d e v => match o.dst, s.al e, cellsOf (s.val v), s.loc d with
    | none, some (d', off), some vs, some cs => if d' = d ∧ vs.length = n ∧ off + n ≤ cs.length then some { s with loc := upd s.loc d (some (putAt cs off vs)) } else none
    | _, _, _, _ => none
  | .litL n sz zero parts => match o.dst, fillAt sz (zeros zero n) (parts.map fun p => (p.1, s.val p.2)) with
    | some e, some cs => some { s with t := upd s.t e undef, loc := upd s.loc e (some cs) }
    | _, _ => none
  | .st n x v => match o.dst, cellsOf (s.val v) with
    | none, some vs => if vs.length = n then (stC s.h (s.val x) vs).map fun h => { s with h := h } else none
    | _, _ => none
  | .call f args => (call f (args.map s.val) s.h).map fun r => { s.put o.dst r.1 with h := r.2 }
  | .callV f args => match s.val f with
    | .func (.func g) ⟨[]⟩ ⟨caps⟩ => (call g (args.map s.val ++ caps) s.h).map fun r => { s.put o.dst r.1 with h := r.2 }
    | _ => none
  | i => (i.run s).map fun r => { s.put o.dst r.1 with h := r.2 }

/-- Is it wanted? -/
def MOp.want (o : MOp) (s : St) : Option Bool := match o.guard with
  | none => some true
  | some (j, b) => match s.t j with
    | .bool c => some (c == b)
    | .map none => some false
    | _ => none

/-- Not taken: its slot says nothing. -/
def MOp.skip (o : MOp) (s : St) : St := match o.dst with
  | some d => { s with t := upd s.t d gone, loc := upd s.loc d none, al := upd s.al d none }
  | none => s

def MOp.step (call : FuncId → List Value → Heap → Option (Value × Heap)) (o : MOp) (s : St) : Option St := match o.want s with
  | some true => o.go call s
  | some false => some (o.skip s)
  | none => none

def runOps (call : FuncId → List Value → Heap → Option (Value × Heap)) : List MOp → St → Option St
  | [], s => some s
  | o :: os, s => (o.step call s).bind (runOps call os)

/-- Operations that only reckon and read: they may stand in any order. -/
def MI.reads : MI → Bool
  | .mov _ | .pick .. | .bin .. | .binB .. | .eqS .. | .un .. | .conv .. | .str _ | .ld .. | .fa .. | .ia .. | .ix .. | .fl .. | .slS .. | .slL .. | .ln _ | .lnS _ | .bld .. | .ext .. | .chk _ | .mm .. | .fn .. | .ldB .. | .ldE .. | .strL .. => true
  | _ => false

/-- .. of which these look into the memory. -/
def MI.looks : MI → Bool
  | .str _ | .ld .. | .fa .. | .ia .. | .slL .. | .ln _ | .chk _ => true
  | _ => false

/-- Operations that turn the memory. -/
def MI.makes : MI → Bool
  | .call .. | .app .. | .appL .. => true
  | _ => false

open Classical in
/-- One operation of a region whose order is open: reads see the memory as it was when the region began; what turns the memory leaves all that was there as it was, or stands behind all that look into it ('last'). -/
noncomputable def MOp.free (call : FuncId → List Value → Heap → Option (Value × Heap)) (last : Bool) (h0 : Heap) (o : MOp) (s : St) : Option St := match o.want s with
  | some true => match o.ins with
    | .faB .. | .faE .. | .stB .. | .stE .. | .litL .. | .newL _ => o.go call s
    | .call f args => (call f (args.map s.val) s.h).bind fun r => if s.h <+: r.2 then some { s.put o.dst r.1 with h := r.2 } else none
    | i => if i.makes = true then (i.run s).bind fun r => if last = true ∨ h0 <+: r.2 then some { s.put o.dst r.1 with h := r.2 } else none
      else if i.reads = true then (i.run { s with h := h0 }).map fun r => s.put o.dst r.1 else none
  | some false => some (o.skip s)
  | none => none

noncomputable def runFree (call : FuncId → List Value → Heap → Option (Value × Heap)) (last : Bool) (h0 : Heap) : List MOp → St → Option St
  | [], s => some s
  | o :: os, s => (o.free call last h0 s).bind (runFree call last h0 os)

/-- Code. -/
inductive IR where
  | skip
  | ops (l : List MOp)
  | free (last : Bool) (l : List MOp)
  | seq (a b : IR)
  | cond (c : Opd) (a b : IR)
  | block (id : Nat) (a : IR)
  | loop (a : IR)
  | exit (id : Nat)
  | ret

def iter (f : St → Option (Exit × St)) : Nat → St → Option (Exit × St)
  | 0, _ => none
  | n + 1, s => match f s with
    | some (.normal, s') => iter f n s'
    | r => r

/-- At a region's end no alias is left. -/
def St.close (s : St) : St := { s with al := fun _ => none }

/-- Code's run with 'n' rounds for each loop. -/
noncomputable def exec (call : FuncId → List Value → Heap → Option (Value × Heap)) (n : Nat) : IR → St → Option (Exit × St)
  | .skip, s => some (.normal, s)
  | .ops l, s => (runOps call l s).map fun s' => (.normal, s'.close)
  | .free last l, s => (runFree call last s.h l s).map fun s' => (.normal, s'.close)
  | .seq a b, s => match exec call n a s with
    | some (.normal, s') => exec call n b s'
    | r => r
  | .cond c a b, s => match s.val c with
    | .bool c => if c = true then exec call n a s else exec call n b s
    | _ => none
  | .block id a, s => match exec call n a s with
    | some (.exit id', s') => if id' = id then some (.normal, s') else some (.exit id', s')
    | r => r
  | .loop a, s => iter (exec call n a) n s
  | .exit id, s => some (.exit id, s)
  | .ret, s => some (.ret, s)

/-- A function: code, and where its results lie (a slot, an own box). -/
inductive Res where
  | slot (t : Nat)
  | box (d n : Nat) (agg : Bool)

structure Fun where
  np : Nat
  body : IR
  res : List Res

def Res.get (s : St) : Res → Option Value
  | .slot t => some (s.t t)
  | .box d n agg => match s.loc d with
    | some cs => if n ≤ cs.length then ofCells agg (cs.take n) else none
    | none => none

def live : Value → Bool
  | .tuple _ => false
  | .map _ => false
  | _ => true

def results1 (s : St) (rs : List Res) : Option Value := match rs.mapM (Res.get s) with
  | some [v] => if live v = true then some v else none
  | some vs => if vs.all live = true then some (.tuple ⟨vs⟩) else none
  | none => none

def start (args : List Value) (h : Heap) : St := { t := fun i => args.getD i undef, loc := fun _ => none, al := fun _ => none, h := h }

/-- Values that bear no place in memory. -/
def flat1 : Value → Bool
  | .agg ⟨cs⟩ => cs.all prim
  | v => prim v
def flat : Value → Bool
  | .tuple ⟨vs⟩ => vs.all flat1
  | .agg ⟨cs⟩ => cs.all prim
  | v => prim v

open Classical in
/-- What a function comes to: a flat answer, where nothing that was there has turned, leaves the memory as it was. -/
noncomputable def finish (h : Heap) (r : Value × Heap) : Value × Heap := if flat r.1 = true ∧ h <+: r.2 then (r.1, h) else r

noncomputable def call (T : FuncId → Option Fun) (X : FuncId → List Value → Heap → Option (Value × Heap)) : Nat → FuncId → List Value → Heap → Option (Value × Heap)
  | 0, _, _, _ => none
  | n + 1, f, args, h => match T f with
    | some F => if args.length = F.np then
        match exec (call T X n) n F.body (start args h) with
        | some (.normal, s) => (results1 s F.res).map fun v => finish h (v, s.h)
        | some (.ret, s) => (results1 s F.res).map fun v => finish h (v, s.h)
        | _ => none
      else none
    | none => X f args h

end Go.Proofs.Ytlndlccbecnjoaa.Ab
