/- The rules by which the small language is stepped. No conditions. -/
import Derived.Test.YtlndlccbecnjoaaAb19
namespace Go.Proofs.Ytlndlccbecnjoaa.Ab
set_option linter.unusedSimpArgs false
set_option linter.unusedVariables false
set_option linter.unnecessarySimpa false
open Go.RowKit

def ov (t : Nat → Value) : Opd → Value
  | .t n => t n
  | .c v => v
theorem ov_t {t : Nat → Value} {n : Nat} : ov t (.t n) = t n := rfl
theorem ov_c {t : Nat → Value} {v : Value} : ov t (.c v) = v := rfl
def oov (t : Nat → Value) : Option Opd → Option Value
  | some x => some (ov t x)
  | none => none
theorem oov_some {t : Nat → Value} {x : Opd} : oov t (some x) = some (ov t x) := rfl
theorem oov_none {t : Nat → Value} : oov t none = none := rfl
def ovs (t : Nat → Value) : List Opd → List Value
  | [] => []
  | x :: l => ov t x :: ovs t l
theorem ovs_nil {t : Nat → Value} : ovs t [] = [] := rfl
theorem ovs_cons {t : Nat → Value} {x : Opd} {l : List Opd} : ovs t (x :: l) = ov t x :: ovs t l := rfl
def pls (t : Nat → Value) : List (Nat × Nat × Opd) → List (Nat × Nat × Value)
  | [] => []
  | (a, b, x) :: l => (a, b, ov t x) :: pls t l
theorem pls_nil {t : Nat → Value} : pls t [] = [] := rfl
theorem pls_cons {t : Nat → Value} {a b : Nat} {x : Opd} {l : List (Nat × Nat × Opd)} : pls t ((a, b, x) :: l) = (a, b, ov t x) :: pls t l := rfl
def prs (t : Nat → Value) : List (Nat × Opd) → List (Nat × Value)
  | [] => []
  | (a, x) :: l => (a, ov t x) :: prs t l
theorem prs_nil {t : Nat → Value} : prs t [] = [] := rfl
theorem prs_cons {t : Nat → Value} {a : Nat} {x : Opd} {l : List (Nat × Opd)} : prs t ((a, x) :: l) = (a, ov t x) :: prs t l := rfl

theorem pls_map {t : Nat → Value} {l : List (Nat × Nat × Opd)} : (l.map fun p => (p.1, p.2.1, ov t p.2.2)) = pls t l := by
  induction l with
  | nil => rfl
  | cons x l ih => obtain ⟨a, b, x⟩ := x; rw [List.map_cons, ih]; rfl
theorem prs_map {t : Nat → Value} {l : List (Nat × Opd)} : (l.map fun p => (p.1, ov t p.2)) = prs t l := by
  induction l with
  | nil => rfl
  | cons x l ih => obtain ⟨a, x⟩ := x; rw [List.map_cons, ih]; rfl

def pickV (c a b : Value) : Option Value := match c with
  | .bool c => some (if c = true then a else b)
  | _ => none
def eqSV (ks : List Nat) (neg : Bool) (x y : Value) : Option Value := match x, y with
  | .agg ⟨xs⟩, .agg ⟨ys⟩ => (eqCells ks xs ys).map fun b => .bool (if neg = true then !b else b)
  | _, _ => none
def convV (k : IntKind) : Value → Option Value
  | .int _ n => some (.int k (k.wrap n))
  | _ => none
def flV (off n : Nat) (agg : Bool) : Value → Option Value
  | .agg ⟨xs⟩ => if off + n ≤ xs.length then ofCells agg ((xs.drop off).take n) else none
  | _ => none
def lnSV : Value → Option Value
  | .string b => some (.int .i64 b.size)
  | _ => none
def extV (i : Nat) : Value → Option Value
  | .tuple ⟨xs⟩ => xs[i]?
  | _ => none
def chkV (h : Heap) (x : Value) : Option Value := (ldC h x 0).map fun _ => x
def mmV (isMax : Bool) : Value → Value → Option Value
  | .int k a, .int _ b => some (.int k (if isMax = true then (if b > a then b else a) else (if b < a then b else a)))
  | _, _ => none
def fnV (f : Fn) (l : List Value) : Option Value := if l.all isBase = true then some (.func f #[] ⟨l⟩) else none
def ldBV (n : Nat) (agg : Bool) : Option (List Value) → Option Value
  | some cs => if n ≤ cs.length then ofCells agg (cs.take n) else none
  | none => none
def ldEV (n : Nat) (agg : Bool) (d : Nat) : Option (Nat × Nat) → Option (List Value) → Option Value
  | some (d', off), some cs => if d' = d ∧ off + n ≤ cs.length then ofCells agg ((cs.drop off).take n) else none
  | _, _ => none
def strLV (n : Nat) : Option (List Value) → Option Value
  | some cs => if cs.length = n then (ints8 cs).map fun ns => .string (strOfNums ns) else none
  | none => none
def appW (h : Heap) (sz : Nat) (ty : TypeId) (x : Value) : Value → Option (Value × Heap)
  | .slice a n c => (rowC h sz (.slice a n c)).bind fun cs => appV h sz ty x cs n
  | _ => none
def appLW (h : Heap) (sz : Nat) (ty : TypeId) (n : Nat) (x : Value) : Option (List Value) → Option (Value × Heap)
  | some cs => if cs.length = n * sz then appV h sz ty x cs n else none
  | none => none
def mkW (h : Heap) (sz : Nat) (ty : TypeId) (z : List Value) : Value → Option (Value × Heap)
  | .int .i64 n => if 0 ≤ n ∧ n ≤ lim then some (.slice (some ⟨h.length, 0, none⟩) n.toNat n.toNat, h ++ [⟨zeros z n.toNat, sz, ty, true⟩]) else none
  | _ => none
def bxW (h : Heap) (ty : TypeId) (n : Nat) (x : Value) : Option (Value × Heap) := match cellsOf x with
  | some cs => if cs.length = n then some (.pointer (some ⟨h.length, 0, some n⟩), h ++ [⟨cs, n, ty, true⟩]) else none
  | none => none

/-- What goes on with a value, if there is one. -/
def VK {α : Type} (o : Option α) (K : α → Prop) : Prop := ∃ v, o = some v ∧ K v
theorem VK_some {α : Type} {v : α} {K : α → Prop} : VK (some v) K ↔ K v := by simp [VK]
theorem VK_none {α : Type} {K : α → Prop} : VK (none : Option α) K ↔ False := by simp [VK]
theorem VK_ite {α : Type} {c : Prop} [Decidable c] {a b : Option α} {K : α → Prop} : VK (if c then a else b) K ↔ if c then VK a K else VK b K := by split <;> rfl
theorem VK_must {α : Type} {c : Prop} [Decidable c] {a : Option α} {K : α → Prop} : VK (if c then a else none) K ↔ c ∧ VK a K := by split <;> simp [VK, *]
theorem VK_map {α β : Type} {o : Option α} {f : α → β} {K : β → Prop} : VK (o.map f) K ↔ VK o fun v => K (f v) := by
  cases o <;> simp [VK]
theorem VK_bind {α β : Type} {o : Option α} {f : α → Option β} {K : β → Prop} : VK (o.bind f) K ↔ VK o fun v => VK (f v) K := by
  cases o <;> simp [VK]

section
variable {T : FuncId → Option Fun} {X : CallF} {t : Nat → Value} {loc : Nat → Option (List Value)} {al : Nat → Option (Nat × Nat)} {h h0 : Heap} {d : Nat} {K : St → Prop} {Q : Exit → St → Prop} {last : Bool}

theorem val_ov {x : Opd} : St.val ⟨t, loc, al, h⟩ x = ov t x := by cases x <;> rfl
theorem oval_ov {x : Option Opd} : x.map (St.val ⟨t, loc, al, h⟩) = oov t x := by cases x <;> simp [oov, val_ov]
theorem vals_ov {l : List Opd} : l.map (St.val ⟨t, loc, al, h⟩) = ovs t l := by
  induction l with
  | nil => rfl
  | cons x l ih => rw [List.map_cons, ih, val_ov]; rfl
theorem places_ov {l : List (Nat × Nat × Opd)} : (l.map fun p => (p.1, p.2.1, St.val ⟨t, loc, al, h⟩ p.2.2)) = pls t l := by
  induction l with
  | nil => rfl
  | cons x l ih => obtain ⟨a, b, x⟩ := x; rw [List.map_cons, ih, val_ov]; rfl
theorem parts_ov {l : List (Nat × Opd)} : (l.map fun p => (p.1, St.val ⟨t, loc, al, h⟩ p.2)) = prs t l := by
  induction l with
  | nil => rfl
  | cons x l ih => obtain ⟨a, x⟩ := x; rw [List.map_cons, ih, val_ov]; rfl

theorem so_val {i : MI} {o : Option Value} (hg : ∀ s, MOp.go (C T X) ⟨some d, i, none⟩ s = (i.run s).map fun r => { s.put (some d) r.1 with h := r.2 }) (hr : i.run ⟨t, loc, al, h⟩ = o.map fun v => (v, h)) :
    SO T X ⟨some d, i, none⟩ ⟨t, loc, al, h⟩ K ↔ VK o fun v => K ⟨upd t d v, loc, al, h⟩ := by
  unfold SO MOp.step
  simp only [MOp.want, hg, hr, Option.map_map, VK]
  cases o <;> simp [St.put]
open Classical in
theorem sf_val {i : MI} {o : Option Value} (hg : ∀ s, MOp.free (C T X) last h0 ⟨some d, i, none⟩ s = (i.run { s with h := h0 }).map fun r => s.put (some d) r.1) (hr : i.run ⟨t, loc, al, h0⟩ = o.map fun v => (v, h0)) :
    SF T X last h0 ⟨some d, i, none⟩ ⟨t, loc, al, h⟩ K ↔ VK o fun v => K ⟨upd t d v, loc, al, h⟩ := by
  unfold SF
  simp only [hg, hr, Option.map_map, VK]
  cases o <;> simp [St.put]
theorem so_make {i : MI} {o : Option (Value × Heap)} (hg : ∀ s, MOp.go (C T X) ⟨some d, i, none⟩ s = (i.run s).map fun r => { s.put (some d) r.1 with h := r.2 }) (hr : i.run ⟨t, loc, al, h⟩ = o) :
    SO T X ⟨some d, i, none⟩ ⟨t, loc, al, h⟩ K ↔ VK o fun r => K ⟨upd t d r.1, loc, al, r.2⟩ := by
  unfold SO MOp.step
  simp only [MOp.want, hg, hr, VK]
  cases o <;> simp [St.put]
open Classical in
theorem sf_make {i : MI} {o : Option (Value × Heap)} (hg : ∀ s, MOp.free (C T X) last h0 ⟨some d, i, none⟩ s = (i.run s).bind fun r => if last = true ∨ h0 <+: r.2 then some { s.put (some d) r.1 with h := r.2 } else none) (hr : i.run ⟨t, loc, al, h⟩ = o) :
    SF T X last h0 ⟨some d, i, none⟩ ⟨t, loc, al, h⟩ K ↔ VK o fun r => (last = true ∨ h0 <+: r.2) ∧ K ⟨upd t d r.1, loc, al, r.2⟩ := by
  unfold SF
  simp only [hg, hr, VK]
  cases o with
  | none => simp
  | some r =>
    simp only [Option.bind_some, Option.some.injEq, exists_eq_left']
    by_cases hc : last = true ∨ h0 <+: r.2
    · simp [hc, St.put]
    · simp [hc]

theorem so_mov {x : Opd} : SO T X ⟨some d, .mov x, none⟩ ⟨t, loc, al, h⟩ K ↔ VK (some (ov t x)) fun v => K ⟨upd t d v, loc, al, h⟩ :=
  so_val (fun s => rfl) (by simp only [MI.run, val_ov, oval_ov, vals_ov, places_ov]; (try rfl))
theorem sf_mov {x : Opd} : SF T X last h0 ⟨some d, .mov x, none⟩ ⟨t, loc, al, h⟩ K ↔ VK (some (ov t x)) fun v => K ⟨upd t d v, loc, al, h⟩ :=
  sf_val (fun s => by simp [MOp.free, MOp.want, MI.makes, MI.reads]) (by simp only [MI.run, val_ov, oval_ov, vals_ov, places_ov]; (try rfl))
theorem so_pick {c a b : Opd} : SO T X ⟨some d, .pick c a b, none⟩ ⟨t, loc, al, h⟩ K ↔ VK (pickV (ov t c) (ov t a) (ov t b)) fun v => K ⟨upd t d v, loc, al, h⟩ :=
  so_val (fun s => rfl) (by simp only [MI.run, val_ov, oval_ov, vals_ov, places_ov]; unfold pickV; cases ov t c <;> rfl)
theorem sf_pick {c a b : Opd} : SF T X last h0 ⟨some d, .pick c a b, none⟩ ⟨t, loc, al, h⟩ K ↔ VK (pickV (ov t c) (ov t a) (ov t b)) fun v => K ⟨upd t d v, loc, al, h⟩ :=
  sf_val (fun s => by simp [MOp.free, MOp.want, MI.makes, MI.reads]) (by simp only [MI.run, val_ov, oval_ov, vals_ov, places_ov]; unfold pickV; cases ov t c <;> rfl)
theorem so_bin {op : BinOp} {x y : Opd} : SO T X ⟨some d, .bin op x y, none⟩ ⟨t, loc, al, h⟩ K ↔ VK (binV op (ov t x) (ov t y)) fun v => K ⟨upd t d v, loc, al, h⟩ :=
  so_val (fun s => rfl) (by simp only [MI.run, val_ov, oval_ov, vals_ov, places_ov]; (try rfl))
theorem sf_bin {op : BinOp} {x y : Opd} : SF T X last h0 ⟨some d, .bin op x y, none⟩ ⟨t, loc, al, h⟩ K ↔ VK (binV op (ov t x) (ov t y)) fun v => K ⟨upd t d v, loc, al, h⟩ :=
  sf_val (fun s => by simp [MOp.free, MOp.want, MI.makes, MI.reads]) (by simp only [MI.run, val_ov, oval_ov, vals_ov, places_ov]; (try rfl))
theorem so_binB {op : BinOp} {x y : Opd} : SO T X ⟨some d, .binB op x y, none⟩ ⟨t, loc, al, h⟩ K ↔ VK (binBV op (ov t x) (ov t y)) fun v => K ⟨upd t d v, loc, al, h⟩ :=
  so_val (fun s => rfl) (by simp only [MI.run, val_ov, oval_ov, vals_ov, places_ov]; (try rfl))
theorem sf_binB {op : BinOp} {x y : Opd} : SF T X last h0 ⟨some d, .binB op x y, none⟩ ⟨t, loc, al, h⟩ K ↔ VK (binBV op (ov t x) (ov t y)) fun v => K ⟨upd t d v, loc, al, h⟩ :=
  sf_val (fun s => by simp [MOp.free, MOp.want, MI.makes, MI.reads]) (by simp only [MI.run, val_ov, oval_ov, vals_ov, places_ov]; (try rfl))
theorem so_eqS {ks : List Nat} {neg : Bool} {x y : Opd} : SO T X ⟨some d, .eqS ks neg x y, none⟩ ⟨t, loc, al, h⟩ K ↔ VK (eqSV ks neg (ov t x) (ov t y)) fun v => K ⟨upd t d v, loc, al, h⟩ :=
  so_val (fun s => rfl) (by simp only [MI.run, val_ov, oval_ov, vals_ov, places_ov]; unfold eqSV; (cases ov t x with | agg a => (cases ov t y with | agg b => (obtain ⟨a⟩ := a; obtain ⟨b⟩ := b; simp [Option.map_map, Function.comp_def]) | _ => rfl) | _ => rfl))
theorem sf_eqS {ks : List Nat} {neg : Bool} {x y : Opd} : SF T X last h0 ⟨some d, .eqS ks neg x y, none⟩ ⟨t, loc, al, h⟩ K ↔ VK (eqSV ks neg (ov t x) (ov t y)) fun v => K ⟨upd t d v, loc, al, h⟩ :=
  sf_val (fun s => by simp [MOp.free, MOp.want, MI.makes, MI.reads]) (by simp only [MI.run, val_ov, oval_ov, vals_ov, places_ov]; unfold eqSV; (cases ov t x with | agg a => (cases ov t y with | agg b => (obtain ⟨a⟩ := a; obtain ⟨b⟩ := b; simp [Option.map_map, Function.comp_def]) | _ => rfl) | _ => rfl))
theorem so_un {op : UnOp} {x : Opd} : SO T X ⟨some d, .un op x, none⟩ ⟨t, loc, al, h⟩ K ↔ VK (unV op (ov t x)) fun v => K ⟨upd t d v, loc, al, h⟩ :=
  so_val (fun s => rfl) (by simp only [MI.run, val_ov, oval_ov, vals_ov, places_ov]; (try rfl))
theorem sf_un {op : UnOp} {x : Opd} : SF T X last h0 ⟨some d, .un op x, none⟩ ⟨t, loc, al, h⟩ K ↔ VK (unV op (ov t x)) fun v => K ⟨upd t d v, loc, al, h⟩ :=
  sf_val (fun s => by simp [MOp.free, MOp.want, MI.makes, MI.reads]) (by simp only [MI.run, val_ov, oval_ov, vals_ov, places_ov]; (try rfl))
theorem so_conv {k : IntKind} {x : Opd} : SO T X ⟨some d, .conv k x, none⟩ ⟨t, loc, al, h⟩ K ↔ VK (convV k (ov t x)) fun v => K ⟨upd t d v, loc, al, h⟩ :=
  so_val (fun s => rfl) (by simp only [MI.run, val_ov, oval_ov, vals_ov, places_ov]; unfold convV; cases ov t x <;> rfl)
theorem sf_conv {k : IntKind} {x : Opd} : SF T X last h0 ⟨some d, .conv k x, none⟩ ⟨t, loc, al, h⟩ K ↔ VK (convV k (ov t x)) fun v => K ⟨upd t d v, loc, al, h⟩ :=
  sf_val (fun s => by simp [MOp.free, MOp.want, MI.makes, MI.reads]) (by simp only [MI.run, val_ov, oval_ov, vals_ov, places_ov]; unfold convV; cases ov t x <;> rfl)
theorem so_str {x : Opd} : SO T X ⟨some d, .str x, none⟩ ⟨t, loc, al, h⟩ K ↔ VK (strV h (ov t x)) fun v => K ⟨upd t d v, loc, al, h⟩ :=
  so_val (fun s => rfl) (by simp only [MI.run, val_ov, oval_ov, vals_ov, places_ov]; (try rfl))
theorem sf_str {x : Opd} : SF T X last h0 ⟨some d, .str x, none⟩ ⟨t, loc, al, h⟩ K ↔ VK (strV h0 (ov t x)) fun v => K ⟨upd t d v, loc, al, h⟩ :=
  sf_val (fun s => by simp [MOp.free, MOp.want, MI.makes, MI.reads]) (by simp only [MI.run, val_ov, oval_ov, vals_ov, places_ov]; (try rfl))
theorem so_ld {n : Nat} {agg : Bool} {x : Opd} : SO T X ⟨some d, .ld n agg x, none⟩ ⟨t, loc, al, h⟩ K ↔ VK ((ldC h (ov t x) n).bind (ofCells agg)) fun v => K ⟨upd t d v, loc, al, h⟩ :=
  so_val (fun s => rfl) (by simp only [MI.run, val_ov, oval_ov, vals_ov, places_ov]; (try rfl))
theorem sf_ld {n : Nat} {agg : Bool} {x : Opd} : SF T X last h0 ⟨some d, .ld n agg x, none⟩ ⟨t, loc, al, h⟩ K ↔ VK ((ldC h0 (ov t x) n).bind (ofCells agg)) fun v => K ⟨upd t d v, loc, al, h⟩ :=
  sf_val (fun s => by simp [MOp.free, MOp.want, MI.makes, MI.reads]) (by simp only [MI.run, val_ov, oval_ov, vals_ov, places_ov]; (try rfl))
theorem so_fa {off : Nat} {x : Opd} : SO T X ⟨some d, .fa off x, none⟩ ⟨t, loc, al, h⟩ K ↔ VK (faV h (ov t x) off) fun v => K ⟨upd t d v, loc, al, h⟩ :=
  so_val (fun s => rfl) (by simp only [MI.run, val_ov, oval_ov, vals_ov, places_ov]; (try rfl))
theorem sf_fa {off : Nat} {x : Opd} : SF T X last h0 ⟨some d, .fa off x, none⟩ ⟨t, loc, al, h⟩ K ↔ VK (faV h0 (ov t x) off) fun v => K ⟨upd t d v, loc, al, h⟩ :=
  sf_val (fun s => by simp [MOp.free, MOp.want, MI.makes, MI.reads]) (by simp only [MI.run, val_ov, oval_ov, vals_ov, places_ov]; (try rfl))
theorem so_ia {sz : Nat} {x i : Opd} : SO T X ⟨some d, .ia sz x i, none⟩ ⟨t, loc, al, h⟩ K ↔ VK (iaV h sz (ov t x) (ov t i)) fun v => K ⟨upd t d v, loc, al, h⟩ :=
  so_val (fun s => rfl) (by simp only [MI.run, val_ov, oval_ov, vals_ov, places_ov]; (try rfl))
theorem sf_ia {sz : Nat} {x i : Opd} : SF T X last h0 ⟨some d, .ia sz x i, none⟩ ⟨t, loc, al, h⟩ K ↔ VK (iaV h0 sz (ov t x) (ov t i)) fun v => K ⟨upd t d v, loc, al, h⟩ :=
  sf_val (fun s => by simp [MOp.free, MOp.want, MI.makes, MI.reads]) (by simp only [MI.run, val_ov, oval_ov, vals_ov, places_ov]; (try rfl))
theorem so_ix {x i : Opd} : SO T X ⟨some d, .ix x i, none⟩ ⟨t, loc, al, h⟩ K ↔ VK (ixV (ov t x) (ov t i)) fun v => K ⟨upd t d v, loc, al, h⟩ :=
  so_val (fun s => rfl) (by simp only [MI.run, val_ov, oval_ov, vals_ov, places_ov]; (try rfl))
theorem sf_ix {x i : Opd} : SF T X last h0 ⟨some d, .ix x i, none⟩ ⟨t, loc, al, h⟩ K ↔ VK (ixV (ov t x) (ov t i)) fun v => K ⟨upd t d v, loc, al, h⟩ :=
  sf_val (fun s => by simp [MOp.free, MOp.want, MI.makes, MI.reads]) (by simp only [MI.run, val_ov, oval_ov, vals_ov, places_ov]; (try rfl))
theorem so_fl {off n : Nat} {agg : Bool} {x : Opd} : SO T X ⟨some d, .fl off n agg x, none⟩ ⟨t, loc, al, h⟩ K ↔ VK (flV off n agg (ov t x)) fun v => K ⟨upd t d v, loc, al, h⟩ :=
  so_val (fun s => rfl) (by simp only [MI.run, val_ov, oval_ov, vals_ov, places_ov]; unfold flV; (cases ov t x with | agg a => (obtain ⟨a⟩ := a; simp only []; split <;> rfl) | _ => rfl))
theorem sf_fl {off n : Nat} {agg : Bool} {x : Opd} : SF T X last h0 ⟨some d, .fl off n agg x, none⟩ ⟨t, loc, al, h⟩ K ↔ VK (flV off n agg (ov t x)) fun v => K ⟨upd t d v, loc, al, h⟩ :=
  sf_val (fun s => by simp [MOp.free, MOp.want, MI.makes, MI.reads]) (by simp only [MI.run, val_ov, oval_ov, vals_ov, places_ov]; unfold flV; (cases ov t x with | agg a => (obtain ⟨a⟩ := a; simp only []; split <;> rfl) | _ => rfl))
theorem so_slS {x : Opd} {lo hi : Option Opd} : SO T X ⟨some d, .slS x lo hi, none⟩ ⟨t, loc, al, h⟩ K ↔ VK (slSV (ov t x) (oov t lo) (oov t hi)) fun v => K ⟨upd t d v, loc, al, h⟩ :=
  so_val (fun s => rfl) (by simp only [MI.run, val_ov, oval_ov, vals_ov, places_ov]; (try rfl))
theorem sf_slS {x : Opd} {lo hi : Option Opd} : SF T X last h0 ⟨some d, .slS x lo hi, none⟩ ⟨t, loc, al, h⟩ K ↔ VK (slSV (ov t x) (oov t lo) (oov t hi)) fun v => K ⟨upd t d v, loc, al, h⟩ :=
  sf_val (fun s => by simp [MOp.free, MOp.want, MI.makes, MI.reads]) (by simp only [MI.run, val_ov, oval_ov, vals_ov, places_ov]; (try rfl))
theorem so_slL {sz : Nat} {x : Opd} {lo hi : Option Opd} : SO T X ⟨some d, .slL sz x lo hi, none⟩ ⟨t, loc, al, h⟩ K ↔ VK (slLV sz (ov t x) (oov t lo) (oov t hi) h) fun v => K ⟨upd t d v, loc, al, h⟩ :=
  so_val (fun s => rfl) (by simp only [MI.run, val_ov, oval_ov, vals_ov, places_ov]; (try rfl))
theorem sf_slL {sz : Nat} {x : Opd} {lo hi : Option Opd} : SF T X last h0 ⟨some d, .slL sz x lo hi, none⟩ ⟨t, loc, al, h⟩ K ↔ VK (slLV sz (ov t x) (oov t lo) (oov t hi) h0) fun v => K ⟨upd t d v, loc, al, h⟩ :=
  sf_val (fun s => by simp [MOp.free, MOp.want, MI.makes, MI.reads]) (by simp only [MI.run, val_ov, oval_ov, vals_ov, places_ov]; (try rfl))
theorem so_ln {x : Opd} : SO T X ⟨some d, .ln x, none⟩ ⟨t, loc, al, h⟩ K ↔ VK (lnV h (ov t x)) fun v => K ⟨upd t d v, loc, al, h⟩ :=
  so_val (fun s => rfl) (by simp only [MI.run, val_ov, oval_ov, vals_ov, places_ov]; (try rfl))
theorem sf_ln {x : Opd} : SF T X last h0 ⟨some d, .ln x, none⟩ ⟨t, loc, al, h⟩ K ↔ VK (lnV h0 (ov t x)) fun v => K ⟨upd t d v, loc, al, h⟩ :=
  sf_val (fun s => by simp [MOp.free, MOp.want, MI.makes, MI.reads]) (by simp only [MI.run, val_ov, oval_ov, vals_ov, places_ov]; (try rfl))
theorem so_lnS {x : Opd} : SO T X ⟨some d, .lnS x, none⟩ ⟨t, loc, al, h⟩ K ↔ VK (lnSV (ov t x)) fun v => K ⟨upd t d v, loc, al, h⟩ :=
  so_val (fun s => rfl) (by simp only [MI.run, val_ov, oval_ov, vals_ov, places_ov]; unfold lnSV; cases ov t x <;> rfl)
theorem sf_lnS {x : Opd} : SF T X last h0 ⟨some d, .lnS x, none⟩ ⟨t, loc, al, h⟩ K ↔ VK (lnSV (ov t x)) fun v => K ⟨upd t d v, loc, al, h⟩ :=
  sf_val (fun s => by simp [MOp.free, MOp.want, MI.makes, MI.reads]) (by simp only [MI.run, val_ov, oval_ov, vals_ov, places_ov]; unfold lnSV; cases ov t x <;> rfl)
theorem so_bld {z : List Value} {ps : List (Nat × Nat × Opd)} : SO T X ⟨some d, .bld z ps, none⟩ ⟨t, loc, al, h⟩ K ↔ VK ((fillOff z (pls t ps)).map fun cs => .agg ⟨cs⟩) fun v => K ⟨upd t d v, loc, al, h⟩ :=
  so_val (fun s => rfl) (by simp only [MI.run, val_ov, oval_ov, vals_ov, places_ov]; rw [pls_map]; simp [Option.map_map, Function.comp_def])
theorem sf_bld {z : List Value} {ps : List (Nat × Nat × Opd)} : SF T X last h0 ⟨some d, .bld z ps, none⟩ ⟨t, loc, al, h⟩ K ↔ VK ((fillOff z (pls t ps)).map fun cs => .agg ⟨cs⟩) fun v => K ⟨upd t d v, loc, al, h⟩ :=
  sf_val (fun s => by simp [MOp.free, MOp.want, MI.makes, MI.reads]) (by simp only [MI.run, val_ov, oval_ov, vals_ov, places_ov]; rw [pls_map]; simp [Option.map_map, Function.comp_def])
theorem so_ext {i : Nat} {x : Opd} : SO T X ⟨some d, .ext i x, none⟩ ⟨t, loc, al, h⟩ K ↔ VK (extV i (ov t x)) fun v => K ⟨upd t d v, loc, al, h⟩ :=
  so_val (fun s => rfl) (by simp only [MI.run, val_ov, oval_ov, vals_ov, places_ov]; unfold extV; (cases ov t x with | tuple a => (obtain ⟨a⟩ := a; rfl) | _ => rfl))
theorem sf_ext {i : Nat} {x : Opd} : SF T X last h0 ⟨some d, .ext i x, none⟩ ⟨t, loc, al, h⟩ K ↔ VK (extV i (ov t x)) fun v => K ⟨upd t d v, loc, al, h⟩ :=
  sf_val (fun s => by simp [MOp.free, MOp.want, MI.makes, MI.reads]) (by simp only [MI.run, val_ov, oval_ov, vals_ov, places_ov]; unfold extV; (cases ov t x with | tuple a => (obtain ⟨a⟩ := a; rfl) | _ => rfl))
theorem so_chk {x : Opd} : SO T X ⟨some d, .chk x, none⟩ ⟨t, loc, al, h⟩ K ↔ VK (chkV h (ov t x)) fun v => K ⟨upd t d v, loc, al, h⟩ :=
  so_val (fun s => rfl) (by simp only [MI.run, val_ov, oval_ov, vals_ov, places_ov]; simp [chkV, Option.map_map, Function.comp_def])
theorem sf_chk {x : Opd} : SF T X last h0 ⟨some d, .chk x, none⟩ ⟨t, loc, al, h⟩ K ↔ VK (chkV h0 (ov t x)) fun v => K ⟨upd t d v, loc, al, h⟩ :=
  sf_val (fun s => by simp [MOp.free, MOp.want, MI.makes, MI.reads]) (by simp only [MI.run, val_ov, oval_ov, vals_ov, places_ov]; simp [chkV, Option.map_map, Function.comp_def])
theorem so_mm {m : Bool} {x y : Opd} : SO T X ⟨some d, .mm m x y, none⟩ ⟨t, loc, al, h⟩ K ↔ VK (mmV m (ov t x) (ov t y)) fun v => K ⟨upd t d v, loc, al, h⟩ :=
  so_val (fun s => rfl) (by simp only [MI.run, val_ov, oval_ov, vals_ov, places_ov]; unfold mmV; (cases ov t x with | int k a => (cases ov t y <;> rfl) | _ => rfl))
theorem sf_mm {m : Bool} {x y : Opd} : SF T X last h0 ⟨some d, .mm m x y, none⟩ ⟨t, loc, al, h⟩ K ↔ VK (mmV m (ov t x) (ov t y)) fun v => K ⟨upd t d v, loc, al, h⟩ :=
  sf_val (fun s => by simp [MOp.free, MOp.want, MI.makes, MI.reads]) (by simp only [MI.run, val_ov, oval_ov, vals_ov, places_ov]; unfold mmV; (cases ov t x with | int k a => (cases ov t y <;> rfl) | _ => rfl))
theorem so_fn {f : Fn} {l : List Opd} : SO T X ⟨some d, .fn f l, none⟩ ⟨t, loc, al, h⟩ K ↔ VK (fnV f (ovs t l)) fun v => K ⟨upd t d v, loc, al, h⟩ :=
  so_val (fun s => rfl) (by simp only [MI.run, val_ov, oval_ov, vals_ov, places_ov]; unfold fnV; split <;> rfl)
theorem sf_fn {f : Fn} {l : List Opd} : SF T X last h0 ⟨some d, .fn f l, none⟩ ⟨t, loc, al, h⟩ K ↔ VK (fnV f (ovs t l)) fun v => K ⟨upd t d v, loc, al, h⟩ :=
  sf_val (fun s => by simp [MOp.free, MOp.want, MI.makes, MI.reads]) (by simp only [MI.run, val_ov, oval_ov, vals_ov, places_ov]; unfold fnV; split <;> rfl)
theorem so_ldB {n : Nat} {agg : Bool} {e : Nat} : SO T X ⟨some d, .ldB n agg e, none⟩ ⟨t, loc, al, h⟩ K ↔ VK (ldBV n agg (loc e)) fun v => K ⟨upd t d v, loc, al, h⟩ :=
  so_val (fun s => rfl) (by simp only [MI.run, val_ov, oval_ov, vals_ov, places_ov]; unfold ldBV; (cases loc e with | none => rfl | some cs => (simp only []; split <;> rfl)))
theorem sf_ldB {n : Nat} {agg : Bool} {e : Nat} : SF T X last h0 ⟨some d, .ldB n agg e, none⟩ ⟨t, loc, al, h⟩ K ↔ VK (ldBV n agg (loc e)) fun v => K ⟨upd t d v, loc, al, h⟩ :=
  sf_val (fun s => by simp [MOp.free, MOp.want, MI.makes, MI.reads]) (by simp only [MI.run, val_ov, oval_ov, vals_ov, places_ov]; unfold ldBV; (cases loc e with | none => rfl | some cs => (simp only []; split <;> rfl)))
theorem so_ldE {n : Nat} {agg : Bool} {e f : Nat} : SO T X ⟨some d, .ldE n agg e f, none⟩ ⟨t, loc, al, h⟩ K ↔ VK (ldEV n agg e (al f) (loc e)) fun v => K ⟨upd t d v, loc, al, h⟩ :=
  so_val (fun s => rfl) (by simp only [MI.run, val_ov, oval_ov, vals_ov, places_ov]; unfold ldEV; (cases al f with | none => rfl | some p => (obtain ⟨a, b⟩ := p; cases loc e with | none => rfl | some cs => (simp only []; split <;> rfl))))
theorem sf_ldE {n : Nat} {agg : Bool} {e f : Nat} : SF T X last h0 ⟨some d, .ldE n agg e f, none⟩ ⟨t, loc, al, h⟩ K ↔ VK (ldEV n agg e (al f) (loc e)) fun v => K ⟨upd t d v, loc, al, h⟩ :=
  sf_val (fun s => by simp [MOp.free, MOp.want, MI.makes, MI.reads]) (by simp only [MI.run, val_ov, oval_ov, vals_ov, places_ov]; unfold ldEV; (cases al f with | none => rfl | some p => (obtain ⟨a, b⟩ := p; cases loc e with | none => rfl | some cs => (simp only []; split <;> rfl))))
theorem so_strL {n e : Nat} : SO T X ⟨some d, .strL n e, none⟩ ⟨t, loc, al, h⟩ K ↔ VK (strLV n (loc e)) fun v => K ⟨upd t d v, loc, al, h⟩ :=
  so_val (fun s => rfl) (by simp only [MI.run, val_ov, oval_ov, vals_ov, places_ov]; unfold strLV; (cases loc e with | none => rfl | some cs => (simp only []; split <;> simp [Option.map_map, Function.comp_def])))
theorem sf_strL {n e : Nat} : SF T X last h0 ⟨some d, .strL n e, none⟩ ⟨t, loc, al, h⟩ K ↔ VK (strLV n (loc e)) fun v => K ⟨upd t d v, loc, al, h⟩ :=
  sf_val (fun s => by simp [MOp.free, MOp.want, MI.makes, MI.reads]) (by simp only [MI.run, val_ov, oval_ov, vals_ov, places_ov]; unfold strLV; (cases loc e with | none => rfl | some cs => (simp only []; split <;> simp [Option.map_map, Function.comp_def])))
theorem so_app {sz : Nat} {ty : TypeId} {b : Nat} {x y : Opd} : SO T X ⟨some d, .app sz ty b x y, none⟩ ⟨t, loc, al, h⟩ K ↔ VK (appW h sz ty (ov t x) (ov t y)) fun r => K ⟨upd t d r.1, loc, al, r.2⟩ :=
  so_make (fun s => rfl) (by simp only [MI.run, val_ov]; unfold appW; cases ov t y <;> rfl)
theorem sf_app {sz : Nat} {ty : TypeId} {b : Nat} {x y : Opd} : SF T X last h0 ⟨some d, .app sz ty b x y, none⟩ ⟨t, loc, al, h⟩ K ↔ VK (appW h sz ty (ov t x) (ov t y)) fun r => (last = true ∨ h0 <+: r.2) ∧ K ⟨upd t d r.1, loc, al, r.2⟩ :=
  sf_make (fun s => by simp [MOp.free, MOp.want, MI.makes, MI.reads]) (by simp only [MI.run, val_ov]; unfold appW; cases ov t y <;> rfl)
theorem so_appL {sz : Nat} {ty : TypeId} {b n : Nat} {x : Opd} {e : Nat} : SO T X ⟨some d, .appL sz ty b n x e, none⟩ ⟨t, loc, al, h⟩ K ↔ VK (appLW h sz ty n (ov t x) (loc e)) fun r => K ⟨upd t d r.1, loc, al, r.2⟩ :=
  so_make (fun s => rfl) (by simp only [MI.run, val_ov]; unfold appLW; cases loc e <;> rfl)
theorem sf_appL {sz : Nat} {ty : TypeId} {b n : Nat} {x : Opd} {e : Nat} : SF T X last h0 ⟨some d, .appL sz ty b n x e, none⟩ ⟨t, loc, al, h⟩ K ↔ VK (appLW h sz ty n (ov t x) (loc e)) fun r => (last = true ∨ h0 <+: r.2) ∧ K ⟨upd t d r.1, loc, al, r.2⟩ :=
  sf_make (fun s => by simp [MOp.free, MOp.want, MI.makes, MI.reads]) (by simp only [MI.run, val_ov]; unfold appLW; cases loc e <;> rfl)
theorem so_lit {n sz : Nat} {ty : TypeId} {z : List Value} {ps : List (Nat × Opd)} : SO T X ⟨some d, .lit n sz ty z ps, none⟩ ⟨t, loc, al, h⟩ K ↔ VK ((fillAt sz (zeros z n) (prs t ps)).map fun cs => (.slice (some ⟨h.length, 0, none⟩) n n, h ++ [⟨cs, sz, ty, true⟩])) fun r => K ⟨upd t d r.1, loc, al, r.2⟩ :=
  so_make (fun s => rfl) (by simp only [MI.run, val_ov]; rw [prs_map])
theorem so_mk {sz : Nat} {ty : TypeId} {b : Nat} {z : List Value} {x : Opd} : SO T X ⟨some d, .mk sz ty b z x, none⟩ ⟨t, loc, al, h⟩ K ↔ VK (mkW h sz ty z (ov t x)) fun r => K ⟨upd t d r.1, loc, al, r.2⟩ :=
  so_make (fun s => rfl) (by simp only [MI.run, val_ov]; unfold mkW; (cases ov t x with | int k a => (cases k <;> rfl) | _ => rfl))
theorem so_nw {ty : TypeId} {cs : List Value} : SO T X ⟨some d, .nw ty cs, none⟩ ⟨t, loc, al, h⟩ K ↔ VK (some (.pointer (some ⟨h.length, 0, some cs.length⟩), h ++ [⟨cs, cs.length, ty, true⟩])) fun r => K ⟨upd t d r.1, loc, al, r.2⟩ :=
  so_make (fun s => rfl) (by simp only [MI.run, val_ov]; (try rfl))
theorem so_bx {ty : TypeId} {n : Nat} {x : Opd} : SO T X ⟨some d, .bx ty n x, none⟩ ⟨t, loc, al, h⟩ K ↔ VK (bxW h ty n (ov t x)) fun r => K ⟨upd t d r.1, loc, al, r.2⟩ :=
  so_make (fun s => rfl) (by simp only [MI.run, val_ov]; unfold bxW; cases cellsOf (ov t x) <;> rfl)

theorem so_call {f : FuncId} {l : List Opd} : SO T X ⟨some d, .call f l, none⟩ ⟨t, loc, al, h⟩ K ↔ VK (C T X f (ovs t l) h) fun r => K ⟨upd t d r.1, loc, al, r.2⟩ := by
  unfold SO MOp.step
  simp only [MOp.want, MOp.go, vals_ov, VK]
  cases C T X f (ovs t l) h <;> simp [St.put]
theorem so_call0 {f : FuncId} {l : List Opd} : SO T X ⟨none, .call f l, none⟩ ⟨t, loc, al, h⟩ K ↔ VK (C T X f (ovs t l) h) fun r => K ⟨t, loc, al, r.2⟩ := by
  unfold SO MOp.step
  simp only [MOp.want, MOp.go, vals_ov, VK]
  cases C T X f (ovs t l) h <;> simp [St.put]
open Classical in
theorem sf_call {f : FuncId} {l : List Opd} : SF T X last h0 ⟨some d, .call f l, none⟩ ⟨t, loc, al, h⟩ K ↔ VK (C T X f (ovs t l) h) fun r => h <+: r.2 ∧ K ⟨upd t d r.1, loc, al, r.2⟩ := by
  unfold SF MOp.free
  simp only [MOp.want, vals_ov, VK]
  cases C T X f (ovs t l) h with
  | none => simp
  | some r => 
    simp only [Option.bind_some, Option.some.injEq, exists_eq_left']
    by_cases hc : h <+: r.2
    · simp [hc, St.put]
    · simp [hc]
open Classical in
theorem sf_call0 {f : FuncId} {l : List Opd} : SF T X last h0 ⟨none, .call f l, none⟩ ⟨t, loc, al, h⟩ K ↔ VK (C T X f (ovs t l) h) fun r => h <+: r.2 ∧ K ⟨t, loc, al, r.2⟩ := by
  unfold SF MOp.free
  simp only [MOp.want, vals_ov, VK]
  cases C T X f (ovs t l) h with
  | none => simp
  | some r => 
    simp only [Option.bind_some, Option.some.injEq, exists_eq_left']
    by_cases hc : h <+: r.2
    · simp [hc, St.put]
    · simp [hc]
def fnC : Value → Option (FuncId × List Value)
  | .func (.func g) ⟨[]⟩ ⟨caps⟩ => some (g, caps)
  | _ => none
theorem so_callV {f : Opd} {l : List Opd} : SO T X ⟨some d, .callV f l, none⟩ ⟨t, loc, al, h⟩ K ↔ VK (fnC (ov t f)) fun p => VK (C T X p.1 (ovs t l ++ p.2) h) fun r => K ⟨upd t d r.1, loc, al, r.2⟩ := by
  unfold SO MOp.step
  simp only [MOp.want, MOp.go, vals_ov, val_ov, VK]
  cases ov t f with
  | func f fs cs =>
    obtain ⟨fs⟩ := fs
    obtain ⟨cs⟩ := cs
    cases f with
    | func g =>
      cases fs with
      | nil => simp only [fnC, Option.some.injEq, exists_eq_left']; cases C T X g (ovs t l ++ cs) h <;> simp [St.put]
      | cons a l => simp [fnC]
    | _ => simp [fnC]
  | _ => simp [fnC]
theorem so_callV0 {f : Opd} {l : List Opd} : SO T X ⟨none, .callV f l, none⟩ ⟨t, loc, al, h⟩ K ↔ VK (fnC (ov t f)) fun p => VK (C T X p.1 (ovs t l ++ p.2) h) fun r => K ⟨t, loc, al, r.2⟩ := by
  unfold SO MOp.step
  simp only [MOp.want, MOp.go, vals_ov, val_ov, VK]
  cases ov t f with
  | func f fs cs =>
    obtain ⟨fs⟩ := fs
    obtain ⟨cs⟩ := cs
    cases f with
    | func g =>
      cases fs with
      | nil => simp only [fnC, Option.some.injEq, exists_eq_left']; cases C T X g (ovs t l ++ cs) h <;> simp [St.put]
      | cons a l => simp [fnC]
    | _ => simp [fnC]
  | _ => simp [fnC]

theorem so_newL {cs : List Value} : SO T X ⟨some d, .newL cs, none⟩ ⟨t, loc, al, h⟩ K ↔ K ⟨upd t d undef, upd loc d (some cs), unal al d, h⟩ := by
  simp [SO, MOp.step, MOp.want, MOp.go]
theorem so_boxL {n : Nat} {x : Opd} : SO T X ⟨some d, .boxL n x, none⟩ ⟨t, loc, al, h⟩ K ↔ VK (cellsOf (ov t x)) fun cs => cs.length = n ∧ K ⟨upd t d undef, upd loc d (some cs), unal al d, h⟩ := by
  simp only [SO, MOp.step, MOp.want, MOp.go, val_ov, VK]
  cases cellsOf (ov t x) with
  | none => simp
  | some cs => simp only []; split <;> simp [*]
def isSome' {α : Type} : Option α → Prop
  | some _ => True
  | none => False
theorem so_faB {off e : Nat} : SO T X ⟨some d, .faB off e, none⟩ ⟨t, loc, al, h⟩ K ↔ isSome' (loc e) ∧ K ⟨upd t d undef, loc, upd al d (some (e, off)), h⟩ := by
  simp only [SO, MOp.step, MOp.want, MOp.go]
  cases loc e <;> simp [isSome']
theorem so_faE {off e f : Nat} : SO T X ⟨some d, .faE off e f, none⟩ ⟨t, loc, al, h⟩ K ↔ isSome' (loc e) ∧ VK (al f) fun p => p.1 = e ∧ K ⟨upd t d undef, loc, upd al d (some (e, p.2 + off)), h⟩ := by
  simp only [SO, MOp.step, MOp.want, MOp.go, VK]
  cases loc e <;> cases al f <;> simp [isSome']
  rename_i p
  obtain ⟨a, b⟩ := p
  by_cases hc : a = e <;> simp [hc]
theorem so_stB {n e : Nat} {x : Opd} : SO T X ⟨none, .stB n e x, none⟩ ⟨t, loc, al, h⟩ K ↔ VK (loc e) fun cs => VK (cellsOf (ov t x)) fun vs => (vs.length = n ∧ n ≤ cs.length) ∧ K ⟨t, upd loc e (some (putAt cs 0 vs)), al, h⟩ := by
  simp only [SO, MOp.step, MOp.want, MOp.go, val_ov, VK]
  cases loc e <;> cases cellsOf (ov t x) <;> simp
  rename_i cs vs
  by_cases hc : vs.length = n ∧ n ≤ cs.length <;> simp [hc]
theorem so_stE {n e f : Nat} {x : Opd} : SO T X ⟨none, .stE n e f x, none⟩ ⟨t, loc, al, h⟩ K ↔ VK (al f) fun p => VK (loc e) fun cs => VK (cellsOf (ov t x)) fun vs => (p.1 = e ∧ vs.length = n ∧ p.2 + n ≤ cs.length) ∧ K ⟨t, upd loc e (some (putAt cs p.2 vs)), al, h⟩ := by
  simp only [SO, MOp.step, MOp.want, MOp.go, val_ov, VK]
  cases loc e <;> cases cellsOf (ov t x) <;> cases al f <;> simp
  rename_i cs vs p
  obtain ⟨a, b⟩ := p
  by_cases hc : a = e ∧ vs.length = n ∧ b + n ≤ cs.length <;> simp [hc]
theorem so_litL {n sz : Nat} {z : List Value} {ps : List (Nat × Opd)} : SO T X ⟨some d, .litL n sz z ps, none⟩ ⟨t, loc, al, h⟩ K ↔ VK (fillAt sz (zeros z n) (prs t ps)) fun cs => K ⟨upd t d undef, upd loc d (some cs), al, h⟩ := by
  simp only [SO, MOp.step, MOp.want, MOp.go, parts_ov, VK]
  cases fillAt sz (zeros z n) (prs t ps) <;> simp
theorem so_st {n : Nat} {x y : Opd} : SO T X ⟨none, .st n x y, none⟩ ⟨t, loc, al, h⟩ K ↔ VK (cellsOf (ov t y)) fun vs => vs.length = n ∧ VK (stC h (ov t x) vs) fun h' => K ⟨t, loc, al, h'⟩ := by
  simp only [SO, MOp.step, MOp.want, MOp.go, val_ov, VK]
  cases cellsOf (ov t y) with
  | none => simp
  | some vs =>
    simp only [Option.some.injEq, exists_eq_left']
    by_cases hc : vs.length = n
    · simp only [hc, if_true, true_and]
      cases stC h (ov t x) vs <;> simp
    · simp [hc]
theorem sf_so {o : MOp} (hf : o.free (C T X) last h0 ⟨t, loc, al, h⟩ = o.step (C T X) ⟨t, loc, al, h⟩) : SF T X last h0 o ⟨t, loc, al, h⟩ K ↔ SO T X o ⟨t, loc, al, h⟩ K := by
  unfold SF SO
  rw [hf]
theorem sf_newL {cs : List Value} : SF T X last h0 ⟨some d, .newL cs, none⟩ ⟨t, loc, al, h⟩ K ↔ K ⟨upd t d undef, upd loc d (some cs), unal al d, h⟩ := by
  rw [sf_so (by simp [MOp.free, MOp.step, MOp.want]), so_newL]
theorem sf_faB {off e : Nat} : SF T X last h0 ⟨some d, .faB off e, none⟩ ⟨t, loc, al, h⟩ K ↔ isSome' (loc e) ∧ K ⟨upd t d undef, loc, upd al d (some (e, off)), h⟩ := by
  rw [sf_so (by simp [MOp.free, MOp.step, MOp.want]), so_faB]
theorem sf_faE {off e f : Nat} : SF T X last h0 ⟨some d, .faE off e f, none⟩ ⟨t, loc, al, h⟩ K ↔ isSome' (loc e) ∧ VK (al f) fun p => p.1 = e ∧ K ⟨upd t d undef, loc, upd al d (some (e, p.2 + off)), h⟩ := by
  rw [sf_so (by simp [MOp.free, MOp.step, MOp.want]), so_faE]
theorem sf_stB {n e : Nat} {x : Opd} : SF T X last h0 ⟨none, .stB n e x, none⟩ ⟨t, loc, al, h⟩ K ↔ VK (loc e) fun cs => VK (cellsOf (ov t x)) fun vs => (vs.length = n ∧ n ≤ cs.length) ∧ K ⟨t, upd loc e (some (putAt cs 0 vs)), al, h⟩ := by
  rw [sf_so (by simp [MOp.free, MOp.step, MOp.want]), so_stB]
theorem sf_stE {n e f : Nat} {x : Opd} : SF T X last h0 ⟨none, .stE n e f x, none⟩ ⟨t, loc, al, h⟩ K ↔ VK (al f) fun p => VK (loc e) fun cs => VK (cellsOf (ov t x)) fun vs => (p.1 = e ∧ vs.length = n ∧ p.2 + n ≤ cs.length) ∧ K ⟨t, upd loc e (some (putAt cs p.2 vs)), al, h⟩ := by
  rw [sf_so (by simp [MOp.free, MOp.step, MOp.want]), so_stE]
theorem sf_litL {n sz : Nat} {z : List Value} {ps : List (Nat × Opd)} : SF T X last h0 ⟨some d, .litL n sz z ps, none⟩ ⟨t, loc, al, h⟩ K ↔ VK (fillAt sz (zeros z n) (prs t ps)) fun cs => K ⟨upd t d undef, upd loc d (some cs), al, h⟩ := by
  rw [sf_so (by simp [MOp.free, MOp.step, MOp.want]), so_litL]

/-- A guard. -/
def WG (v : Value) (b : Bool) (A B : Prop) : Prop := match v with
  | .bool c => if c = b then A else B
  | .map none => B
  | _ => False
theorem WG_bool {c b : Bool} {A B : Prop} : WG (.bool c) b A B ↔ if c = b then A else B := Iff.rfl
theorem WG_gone {b : Bool} {A B : Prop} : WG gone b A B ↔ B := Iff.rfl
theorem so_guard {i : MI} {j : Nat} {b : Bool} : SO T X ⟨some d, i, some (j, b)⟩ ⟨t, loc, al, h⟩ K ↔ WG (t j) b (SO T X ⟨some d, i, none⟩ ⟨t, loc, al, h⟩ K) (K ⟨upd t d gone, upd loc d none, upd al d none, h⟩) := by
  unfold SO MOp.step
  simp only [MOp.want]
  have hg : MOp.go (C T X) ⟨some d, i, some (j, b)⟩ ⟨t, loc, al, h⟩ = MOp.go (C T X) ⟨some d, i, none⟩ ⟨t, loc, al, h⟩ := by cases i <;> rfl
  unfold WG
  cases t j with
  | bool c => cases c <;> cases b <;> simp [hg, MOp.skip]
  | map x => cases x <;> simp [MOp.skip]
  | _ => simp
theorem so_guard0 {i : MI} {j : Nat} {b : Bool} : SO T X ⟨none, i, some (j, b)⟩ ⟨t, loc, al, h⟩ K ↔ WG (t j) b (SO T X ⟨none, i, none⟩ ⟨t, loc, al, h⟩ K) (K ⟨t, loc, al, h⟩) := by
  unfold SO MOp.step
  simp only [MOp.want]
  have hg : MOp.go (C T X) ⟨none, i, some (j, b)⟩ ⟨t, loc, al, h⟩ = MOp.go (C T X) ⟨none, i, none⟩ ⟨t, loc, al, h⟩ := by cases i <;> rfl
  unfold WG
  cases t j with
  | bool c => cases c <;> cases b <;> simp [hg, MOp.skip]
  | map x => cases x <;> simp [MOp.skip]
  | _ => simp
open Classical in
theorem sf_guard {i : MI} {j : Nat} {b : Bool} : SF T X last h0 ⟨some d, i, some (j, b)⟩ ⟨t, loc, al, h⟩ K ↔ WG (t j) b (SF T X last h0 ⟨some d, i, none⟩ ⟨t, loc, al, h⟩ K) (K ⟨upd t d gone, upd loc d none, upd al d none, h⟩) := by
  unfold SF
  have hg : MOp.want ⟨some d, i, some (j, b)⟩ ⟨t, loc, al, h⟩ = some true → MOp.free (C T X) last h0 ⟨some d, i, some (j, b)⟩ ⟨t, loc, al, h⟩ = MOp.free (C T X) last h0 ⟨some d, i, none⟩ ⟨t, loc, al, h⟩ := by
    intro hw
    unfold MOp.free
    rw [hw]
    cases i <;> rfl
  unfold WG
  cases ht : t j with
  | bool c =>
    by_cases hcb : c = b
    · subst hcb
      rw [hg (by simp [MOp.want, ht])]
      simp
    · have hw : MOp.want ⟨some d, i, some (j, b)⟩ ⟨t, loc, al, h⟩ = some false := by simp [MOp.want, ht, hcb]
      simp [MOp.free, hw, MOp.skip, hcb]
  | map x =>
    cases x with
    | none =>
      have hw : MOp.want ⟨some d, i, some (j, b)⟩ ⟨t, loc, al, h⟩ = some false := by simp [MOp.want, ht]
      simp [MOp.free, hw, MOp.skip]
    | some x =>
      have hw : MOp.want ⟨some d, i, some (j, b)⟩ ⟨t, loc, al, h⟩ = none := by simp [MOp.want, ht]
      simp [MOp.free, hw]
  | _ =>
    have hw : MOp.want ⟨some d, i, some (j, b)⟩ ⟨t, loc, al, h⟩ = none := by simp [MOp.want, ht]
    simp [MOp.free, hw]

/-- A branch. -/
def WC (T : FuncId → Option Fun) (X : CallF) (v : Value) (x y : IR) (s : St) (Q : Exit → St → Prop) : Prop := match v with
  | .bool c => if c = true then W T X x s Q else W T X y s Q
  | _ => False
theorem w_cond {c : Opd} {x y : IR} : W T X (.cond c x y) ⟨t, loc, al, h⟩ Q ↔ WC T X (ov t c) x y ⟨t, loc, al, h⟩ Q := by
  unfold WC
  rw [← val_ov (loc := loc) (al := al) (h := h)]
  cases hv : St.val ⟨t, loc, al, h⟩ c with
  | bool b => exact W_cond T X hv
  | _ => simp [W, exec, hv]
theorem wc_bool {c : Bool} {x y : IR} {s : St} : WC T X (.bool c) x y s Q ↔ if c = true then W T X x s Q else W T X y s Q := Iff.rfl
theorem WG_tt {A B : Prop} : WG (.bool true) true A B ↔ A := by simp [WG]
theorem WG_ft {A B : Prop} : WG (.bool false) true A B ↔ B := by simp [WG]
theorem WG_tf {A B : Prop} : WG (.bool true) false A B ↔ B := by simp [WG]
theorem WG_ff {A B : Prop} : WG (.bool false) false A B ↔ A := by simp [WG]
theorem WC_tt {x y : IR} {s : St} : WC T X (.bool true) x y s Q ↔ W T X x s Q := by simp [WC]
theorem WC_ff {x y : IR} {s : St} : WC T X (.bool false) x y s Q ↔ W T X y s Q := by simp [WC]
@[congr] theorem WG_congr {v v' : Value} {b : Bool} {A B : Prop} (h : v = v') : WG v b A B = WG v' b A B := by rw [h]
@[congr] theorem WC_congr {v v' : Value} {x y : IR} {s : St} (h : v = v') : WC T X v x y s Q = WC T X v' x y s Q := by rw [h]
@[congr] theorem VK_congr {α : Type} {o o' : Option α} {K : α → Prop} (h : o = o') : VK o K = VK o' K := by rw [h]
/-- An open test: both ways. -/
theorem WG_open {p : Prop} [Decidable p] {A B : Prop} (h1 : p → A) (h2 : ¬ p → B) : WG (.bool (decide p)) true A B := by
  by_cases hp : p
  · simp only [hp, decide_true, WG_tt]; exact h1 hp
  · simp only [hp, decide_false, WG_ft]; exact h2 hp
theorem WG_open' {p : Prop} [Decidable p] {A B : Prop} (h1 : p → B) (h2 : ¬ p → A) : WG (.bool (decide p)) false A B := by
  by_cases hp : p
  · simp only [hp, decide_true, WG_tf]; exact h1 hp
  · simp only [hp, decide_false, WG_ff]; exact h2 hp
theorem WC_open {p : Prop} [Decidable p] {x y : IR} {s : St} (h1 : p → W T X x s Q) (h2 : ¬ p → W T X y s Q) : WC T X (.bool (decide p)) x y s Q := by
  by_cases hp : p
  · simp only [hp, decide_true, WC_tt]; exact h1 hp
  · simp only [hp, decide_false, WC_ff]; exact h2 hp
theorem WG_any {c : Bool} {A B : Prop} (h1 : c = true → A) (h2 : c = false → B) : WG (.bool c) true A B := by
  cases c
  · exact (WG_ft).2 (h2 rfl)
  · exact (WG_tt).2 (h1 rfl)
theorem WG_any' {c : Bool} {A B : Prop} (h1 : c = true → B) (h2 : c = false → A) : WG (.bool c) false A B := by
  cases c
  · exact (WG_ff).2 (h2 rfl)
  · exact (WG_tf).2 (h1 rfl)
theorem WC_any {c : Bool} {x y : IR} {s : St} (h1 : c = true → W T X x s Q) (h2 : c = false → W T X y s Q) : WC T X (.bool c) x y s Q := by
  cases c
  · exact (WC_ff).2 (h2 rfl)
  · exact (WC_tt).2 (h1 rfl)

theorem so_gt {i : MI} {j : Nat} {b : Bool} (hg : t j = .bool b) : SO T X ⟨some d, i, some (j, b)⟩ ⟨t, loc, al, h⟩ K ↔ SO T X ⟨some d, i, none⟩ ⟨t, loc, al, h⟩ K := by
  rw [so_guard, hg]; simp [WG]
theorem so_gf {i : MI} {j : Nat} (hg : t j = .bool false) : SO T X ⟨some d, i, some (j, true)⟩ ⟨t, loc, al, h⟩ K ↔ K ⟨upd t d gone, upd loc d none, upd al d none, h⟩ := by
  rw [so_guard, hg]; simp [WG]
theorem so_gf' {i : MI} {j : Nat} (hg : t j = .bool true) : SO T X ⟨some d, i, some (j, false)⟩ ⟨t, loc, al, h⟩ K ↔ K ⟨upd t d gone, upd loc d none, upd al d none, h⟩ := by
  rw [so_guard, hg]; simp [WG]
theorem so_gg {i : MI} {j : Nat} {b : Bool} (hg : t j = gone) : SO T X ⟨some d, i, some (j, b)⟩ ⟨t, loc, al, h⟩ K ↔ K ⟨upd t d gone, upd loc d none, upd al d none, h⟩ := by
  rw [so_guard, hg]; rfl
theorem so_0t {i : MI} {j : Nat} {b : Bool} (hg : t j = .bool b) : SO T X ⟨none, i, some (j, b)⟩ ⟨t, loc, al, h⟩ K ↔ SO T X ⟨none, i, none⟩ ⟨t, loc, al, h⟩ K := by
  rw [so_guard0, hg]; simp [WG]
theorem so_0f {i : MI} {j : Nat} (hg : t j = .bool false) : SO T X ⟨none, i, some (j, true)⟩ ⟨t, loc, al, h⟩ K ↔ K ⟨t, loc, al, h⟩ := by
  rw [so_guard0, hg]; simp [WG]
theorem so_0f' {i : MI} {j : Nat} (hg : t j = .bool true) : SO T X ⟨none, i, some (j, false)⟩ ⟨t, loc, al, h⟩ K ↔ K ⟨t, loc, al, h⟩ := by
  rw [so_guard0, hg]; simp [WG]
theorem so_0g {i : MI} {j : Nat} {b : Bool} (hg : t j = gone) : SO T X ⟨none, i, some (j, b)⟩ ⟨t, loc, al, h⟩ K ↔ K ⟨t, loc, al, h⟩ := by
  rw [so_guard0, hg]; rfl
theorem sf_gt {i : MI} {j : Nat} {b : Bool} (hg : t j = .bool b) : SF T X last h0 ⟨some d, i, some (j, b)⟩ ⟨t, loc, al, h⟩ K ↔ SF T X last h0 ⟨some d, i, none⟩ ⟨t, loc, al, h⟩ K := by
  rw [sf_guard, hg]; simp [WG]
theorem sf_gf {i : MI} {j : Nat} (hg : t j = .bool false) : SF T X last h0 ⟨some d, i, some (j, true)⟩ ⟨t, loc, al, h⟩ K ↔ K ⟨upd t d gone, upd loc d none, upd al d none, h⟩ := by
  rw [sf_guard, hg]; simp [WG]
theorem sf_gf' {i : MI} {j : Nat} (hg : t j = .bool true) : SF T X last h0 ⟨some d, i, some (j, false)⟩ ⟨t, loc, al, h⟩ K ↔ K ⟨upd t d gone, upd loc d none, upd al d none, h⟩ := by
  rw [sf_guard, hg]; simp [WG]
theorem sf_gg {i : MI} {j : Nat} {b : Bool} (hg : t j = gone) : SF T X last h0 ⟨some d, i, some (j, b)⟩ ⟨t, loc, al, h⟩ K ↔ K ⟨upd t d gone, upd loc d none, upd al d none, h⟩ := by
  rw [sf_guard, hg]; rfl
theorem w_ct {c : Opd} {x y : IR} (hc : ov t c = .bool true) : W T X (.cond c x y) ⟨t, loc, al, h⟩ Q ↔ W T X x ⟨t, loc, al, h⟩ Q := by
  rw [w_cond, hc, WC_tt]
theorem w_cf {c : Opd} {x y : IR} (hc : ov t c = .bool false) : W T X (.cond c x y) ⟨t, loc, al, h⟩ Q ↔ W T X y ⟨t, loc, al, h⟩ Q := by
  rw [w_cond, hc, WC_ff]
/-- An open branch: both ways. -/
theorem w_open {p : Prop} [Decidable p] {c : Opd} {x y : IR} (hc : ov t c = .bool (decide p)) (h1 : p → W T X x ⟨t, loc, al, h⟩ Q) (h2 : ¬ p → W T X y ⟨t, loc, al, h⟩ Q) : W T X (.cond c x y) ⟨t, loc, al, h⟩ Q := by
  rw [w_cond, hc]; exact WC_open h1 h2
theorem w_any {b : Bool} {c : Opd} {x y : IR} (hc : ov t c = .bool b) (h1 : b = true → W T X x ⟨t, loc, al, h⟩ Q) (h2 : b = false → W T X y ⟨t, loc, al, h⟩ Q) : W T X (.cond c x y) ⟨t, loc, al, h⟩ Q := by
  rw [w_cond, hc]; exact WC_any h1 h2
theorem so_any {b : Bool} {i : MI} {j : Nat} (hc : t j = .bool b) (h1 : b = true → SO T X ⟨some d, i, none⟩ ⟨t, loc, al, h⟩ K) (h2 : b = false → K ⟨upd t d gone, upd loc d none, upd al d none, h⟩) : SO T X ⟨some d, i, some (j, true)⟩ ⟨t, loc, al, h⟩ K := by
  rw [so_guard, hc]; exact WG_any h1 h2
theorem so_any' {b : Bool} {i : MI} {j : Nat} (hc : t j = .bool b) (h1 : b = true → K ⟨upd t d gone, upd loc d none, upd al d none, h⟩) (h2 : b = false → SO T X ⟨some d, i, none⟩ ⟨t, loc, al, h⟩ K) : SO T X ⟨some d, i, some (j, false)⟩ ⟨t, loc, al, h⟩ K := by
  rw [so_guard, hc]; exact WG_any' h1 h2
theorem sf_any {b : Bool} {i : MI} {j : Nat} (hc : t j = .bool b) (h1 : b = true → SF T X last h0 ⟨some d, i, none⟩ ⟨t, loc, al, h⟩ K) (h2 : b = false → K ⟨upd t d gone, upd loc d none, upd al d none, h⟩) : SF T X last h0 ⟨some d, i, some (j, true)⟩ ⟨t, loc, al, h⟩ K := by
  rw [sf_guard, hc]; exact WG_any h1 h2
theorem sf_any' {b : Bool} {i : MI} {j : Nat} (hc : t j = .bool b) (h1 : b = true → K ⟨upd t d gone, upd loc d none, upd al d none, h⟩) (h2 : b = false → SF T X last h0 ⟨some d, i, none⟩ ⟨t, loc, al, h⟩ K) : SF T X last h0 ⟨some d, i, some (j, false)⟩ ⟨t, loc, al, h⟩ K := by
  rw [sf_guard, hc]; exact WG_any' h1 h2
theorem ndec {p : Prop} [Decidable p] : (!decide p) = decide (¬ p) := by simp
theorem close_mk : St.close ⟨t, loc, al, h⟩ = ⟨t, loc, fun _ => none, h⟩ := rfl
theorem then_normal {b : IR} {s : St} : andThen T X b Q .normal s ↔ W T X b s Q := Iff.rfl
theorem then_exit {b : IR} {s : St} {i : Nat} : andThen T X b Q (.exit i) s ↔ Q (.exit i) s := Iff.rfl
theorem then_ret {b : IR} {s : St} : andThen T X b Q .ret s ↔ Q .ret s := Iff.rfl
theorem catch_normal {s : St} {i : Nat} : catchAt i Q .normal s ↔ Q .normal s := Iff.rfl
theorem catch_exit {s : St} {i j : Nat} : catchAt i Q (.exit j) s ↔ if j = i then Q .normal s else Q (.exit j) s := Iff.rfl
theorem catch_ret {s : St} {i : Nat} : catchAt i Q .ret s ↔ Q .ret s := Iff.rfl
theorem upd_at {α : Type} {f : Nat → α} {i j : Nat} {v : α} : upd f i v j = if j = i then v else f j := rfl
def unalAt (d : Nat) : Option (Nat × Nat) → Option (Nat × Nat)
  | some (d', off) => if d' = d then none else some (d', off)
  | none => none
theorem unal_at {d e : Nat} : unal al d e = unalAt d (al e) := by
  unfold unal unalAt
  rfl

theorem w_while {x : IR} {s : St} (I : Nat → St → Prop) (n : Nat) (h0 : I n s) (step : ∀ n s, I n s → W T X x s fun e s' => match e with | .normal => ∃ m, m < n ∧ I m s' | e => Q e s') : W T X (.loop x) s Q :=
  W_while T X I step n s h0

theorem finish_same {v : Value} : finish h (v, h) = (v, h) := by unfold finish; split <;> rfl
theorem finish_flat {v : Value} {h' : Heap} (hf : flat v = true) (hp : h <+: h') : finish h (v, h') = (v, h) := by unfold finish; rw [if_pos ⟨hf, hp⟩]
theorem finish_deep {v : Value} {h' : Heap} (hf : flat v = false) : finish h (v, h') = (v, h') := by unfold finish; rw [if_neg (by simp [hf])]

/-- One result in a slot. -/
theorem rets_slot {F : Fun} {r : Value × Heap} {e : Exit} {d : Nat} (hF : F.res = [.slot d]) (he : e = .ret ∨ e = .normal) (hl : live (t d) = true) (hf : finish h0 (t d, h) = r) : Rets F h0 r e ⟨t, loc, al, h⟩ := by
  refine ⟨he.symm, t d, ?_, hf⟩
  rw [hF]
  simp [results1, Res.get, hl]

end
end Go.Proofs.Ytlndlccbecnjoaa.Ab
