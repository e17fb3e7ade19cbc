/- An abstract memory, a small language over it, and its reading of loaded functions. No conditions. -/
import Derived.Calls
import Derived.Orders
import Derived.Below
import Derived.LoopN
import Derived.Laws.AppendOwn
import Derived.Laws.Cells
import Derived.Laws.CopyRow
import Derived.Laws.BytesArg
set_option linter.unusedSimpArgs false
set_option linter.unusedVariables false
set_option linter.unnecessarySimpa false
set_option maxHeartbeats 4000000
/- An abstract memory for the walks: lists of blocks in place of the machine's heap, and what it means that a machine's world shows such a memory. No conditions. -/
namespace Go.Proofs.Ytafhipglhnfgnaa.Ab
structure Blk where
  cells:List Value
  sz:Nat
  ty:TypeId
  own:Bool
abbrev za:=List Blk
structure Loc where
  g:Nat
  o:Nat
  c:Nat
abbrev Map:=Nat→Loc
def prim:Value→Bool
  | .bool _ | .int _ _ | .string _ | .slice none 0 0 | .pointer none | .nilFunc | .nilIface=>true
  | _=>false
def zP {α β:Type}(R:α→β→Prop)(xs:List α)(ys:List β):Prop:=xs.length=ys.length∧∀(i:Nat) (x:α) (y:β),xs[i]?=some x→ys[i]?=some y→R x y
theorem zP.nil {α β:Type}{R:α→β→Prop}:zP R [] []:=⟨rfl,fun i x y h=>by simp at h⟩
theorem zP.cons {α β:Type}{R:α→β→Prop}{x:α}{y:β}{xs:List α}{ys:List β}(h:R x y)(t:zP R xs ys):zP R (x::xs) (y::ys):=by
  refine⟨by simp[t.1],fun i a b ha hb=>?_⟩
  cases i with
  | zero=>simp at ha hb;subst ha;subst hb;exact h
  | succ i=>simp at ha hb;exact t.2 i a b ha hb
theorem zP.get {α β:Type}{R:α→β→Prop}{xs:List α}{ys:List β}(h:zP R xs ys){i:Nat}{x:α}(hx:xs[i]?=some x):∃y,ys[i]?=some y∧R x y:=by
  obtain⟨hi,_⟩:=List.getElem?_eq_some_iff.1 hx
  have hi':i<ys.length:=by rw[←h.1];exact hi
  exact⟨ys[i],List.getElem?_eq_getElem hi',h.2 i x _ hx (List.getElem?_eq_getElem hi')⟩
theorem zP.imp {α β:Type}{R S:α→β→Prop}{xs:List α}{ys:List β}(h:zP R xs ys)(k:∀x y,R x y→S x y):zP S xs ys:=⟨h.1,fun i x y hx hy=>k _ _ (h.2 i x y hx hy)⟩
theorem zP.append {α β:Type}{R:α→β→Prop}{xs xs':List α}{ys ys':List β}(h:zP R xs ys)(k:zP R xs' ys'):zP R (xs++xs') (ys++ys'):=by
  refine⟨by simp[h.1,k.1],fun i x y hx hy=>?_⟩
  by_cases hi:i<xs.length
  · rw[List.getElem?_append_left hi] at hx
    rw[List.getElem?_append_left (by rw[←h.1];exact hi)] at hy
    exact h.2 i x y hx hy
  · rw[List.getElem?_append_right (by omega)] at hx
    rw[List.getElem?_append_right (by rw[←h.1];omega)] at hy
    exact k.2 (i-xs.length) x y hx (by rw[h.1];exact hy)
theorem zP.set {α β:Type}{R:α→β→Prop}{xs:List α}{ys:List β}(h:zP R xs ys)(j:Nat){x:α}{y:β}(hxy:R x y):zP R (xs.set j x) (ys.set j y):=by
  refine⟨by simp[h.1],fun i a b ha hb=>?_⟩
  rw[List.getElem?_set] at ha hb
  by_cases e:j=i
  · subst e
    simp only[if_true] at ha hb;split at ha
    · split at hb
      · cases ha;cases hb;exact hxy
      · cases hb
    · cases ha
  · rw[if_neg e] at ha hb
    exact h.2 i a b ha hb
theorem zP.take {α β:Type}{R:α→β→Prop}{xs:List α}{ys:List β}(h:zP R xs ys)(n:Nat):zP R (xs.take n) (ys.take n):=by
  refine⟨by simp[h.1],fun i a b ha hb=>?_⟩
  rw[List.getElem?_take] at ha hb;split at ha
  · rename_i hi;rw[if_pos hi] at hb;exact h.2 i a b ha hb
  · cases ha
theorem zP.drop {α β:Type}{R:α→β→Prop}{xs:List α}{ys:List β}(h:zP R xs ys)(n:Nat):zP R (xs.drop n) (ys.drop n):=by
  refine⟨by simp[h.1],fun i a b ha hb=>?_⟩
  rw[List.getElem?_drop] at ha hb;exact h.2 _ a b ha hb
def zfD (l:Loc)(blk:Blk)(off len:Nat)(v:Value):Prop :=
  ∃A c,v=.slice (some A) len c∧len≤c∧c≤maxLen∧((len=0∧0<off)∨A=⟨l.g,l.o+off,none⟩)∧(blk.own=true→off=0→c*blk.sz=l.c)
inductive VR0 (μ:Map) (h:za):Value→Value→Prop
  | prim (v:Value) (hp:prim v=true):VR0 μ h v v
  | hollow (A:Addr):VR0 μ h (.slice none 0 0) (.slice (some A) 0 0)
  | sl (b off len cap:Nat) (v:Value) (blk:Blk) (hb:h[b]?=some blk) (hle:len≤cap) (hc:off+cap*blk.sz≤blk.cells.length)
      (hv:off+cap*blk.sz=blk.cells.length→zfD (μ b) blk off len v) (hw:v.oneCell'=true):VR0 μ h (.slice (some ⟨b,off,none⟩) len cap) v
  | ptr (b off L:Nat) (v:Value) (blk:Blk) (hb:h[b]?=some blk) (hc:L≤blk.cells.length)
      (hv:L=blk.cells.length→v=.pointer (some ⟨(μ b).g,(μ b).o+off,none⟩)) (hw:v.oneCell'=true):VR0 μ h (.pointer (some ⟨b,off,some L⟩)) v
inductive VR1 (μ:Map) (h:za):Value→Value→Prop
  | base (v v':Value) (k:VR0 μ h v v'):VR1 μ h v v'
  | fn (f:Fn) (xs ys:List Value) (k:zP (VR0 μ h) xs ys):VR1 μ h (.func f #[] ⟨xs⟩) (.func f #[] ⟨ys⟩)
inductive VRA (μ:Map) (h:za):Value→Value→Prop
  | one (v v':Value) (k:VR1 μ h v v'):VRA μ h v v'
  | agg (xs ys:List Value) (k:zP (VR1 μ h) xs ys):VRA μ h (.agg ⟨xs⟩) (.agg ⟨ys⟩)
inductive VR (μ:Map) (h:za):Value→Value→Prop
  | dead (v:Value):VR μ h undef v
  | gone:VR μ h (.map none) undef
  | val (v v':Value) (k:VRA μ h v v'):VR μ h v v'
  | tup (xs ys:List Value) (k:zP (VRA μ h) xs ys):VR μ h (.tuple ⟨xs⟩) (.tuple ⟨ys⟩)
theorem VR0.oneCell {μ:Map}{h:za}{v v':Value}(k:VR0 μ h v v'):v'.oneCell'=true:=by
  cases k with
  | prim _ hp=>cases v<;>first | rfl | (simp[Ab.prim] at hp)
  | hollow=>rfl
  | sl _ _ _ _ _ _ _ _ _ _ hw=>exact hw
  | ptr _ _ _ _ _ _ _ _ hw=>exact hw
theorem VR1.oneCell {μ:Map}{h:za}{v v':Value}(k:VR1 μ h v v'):v'.oneCell'=true:=by
  cases k with
  | base _ _ k=>exact k.oneCell
  | fn=>rfl
def Up (μ:Map)(h:za)(μ':Map)(h':za):Prop :=
  ∀(b:Nat) (blk:Blk),h[b]?=some blk→∃blk',h'[b]?=some blk'∧blk'.sz=blk.sz∧blk'.own=blk.own∧blk'.ty=blk.ty∧blk.cells.length≤blk'.cells.length ∧
    (blk'.cells.length=blk.cells.length→μ' b=μ b)
theorem Up.refl (μ:Map)(h:za):Up μ h μ h:=fun _ blk hb=>⟨blk,hb,rfl,rfl,rfl,Nat.le_refl _,fun _=>rfl⟩
theorem Up.trans {μ μ' μ'':Map}{h h' h'':za}(a:Up μ h μ' h')(c:Up μ' h' μ'' h''):Up μ h μ'' h'':=by
  intro b blk hb;obtain⟨b1,e1,s1,o1,t1,l1,m1⟩:=a b blk hb;obtain⟨b2,e2,s2,o2,t2,l2,m2⟩:=c b b1 e1
  exact⟨b2,e2,s2.trans s1,o2.trans o1,t2.trans t1,Nat.le_trans l1 l2,fun e=>(m2 (by omega)).trans (m1 (by omega))⟩
theorem VR0.up {μ μ':Map}{h h':za}(u:Up μ h μ' h'){v v':Value}(k:VR0 μ h v v'):VR0 μ' h' v v':=by
  cases k with
  | prim _ hp=>exact .prim _ hp
  | hollow A=>exact .hollow A
  | sl b off len cap _ blk hb hle hc hv hw =>
    obtain⟨b1,e1,s1,o1,t1,l1,m1⟩:=u b blk hb
    refine .sl b off len cap _ b1 e1 hle (by rw[s1];omega) (fun e=>?_) hw
    rw[s1] at e
    have:=hv (by omega)
    rw[m1 (by omega)]
    obtain⟨A,c,h1,h2,h3,h4,h5⟩:=this
    exact⟨A,c,h1,h2,h3,h4,fun ho hz=>by rw[s1];exact h5 (by rw[←o1];exact ho) hz⟩
  | ptr b off L _ blk hb hc hv hw =>
    obtain⟨b1,e1,s1,o1,t1,l1,m1⟩:=u b blk hb
    exact .ptr b off L _ b1 e1 (by omega) (fun e=>by rw[m1 (by omega)];exact hv (by omega)) hw
theorem VR1.up {μ μ':Map}{h h':za}(u:Up μ h μ' h'){v v':Value}(k:VR1 μ h v v'):VR1 μ' h' v v':=by
  cases k with
  | base _ _ k=>exact .base _ _ (k.up u)
  | fn f xs ys k=>exact .fn f xs ys (k.imp fun _ _ q=>q.up u)
theorem VRA.up {μ μ':Map}{h h':za}(u:Up μ h μ' h'){v v':Value}(k:VRA μ h v v'):VRA μ' h' v v':=by
  cases k with
  | one _ _ k=>exact .one _ _ (k.up u)
  | agg xs ys k=>exact .agg xs ys (k.imp fun _ _ q=>q.up u)
theorem VR.up {μ μ':Map}{h h':za}(u:Up μ h μ' h'){v v':Value}(k:VR μ h v v'):VR μ' h' v v':=by
  cases k with
  | dead=>exact .dead _
  | gone=>exact .gone
  | val _ _ k=>exact .val _ _ (k.up u)
  | tup xs ys k=>exact .tup xs ys (k.imp fun _ _ q=>q.up u)
structure Zn (μ:Map)(h:za)(w:World):Prop where
  cell:∀(b:Nat) (blk:Blk),h[b]?=some blk→∀(i:Nat) (v:Value),blk.cells[i]?=some v→∃v',w.cell? ⟨(μ b).g,(μ b).o+i,none⟩=some v'∧VR1 μ h v v'
  pos:∀(b:Nat) (blk:Blk),h[b]?=some blk→0<blk.sz
  lt:∀(b:Nat) (blk:Blk),h[b]?=some blk→(μ b).g<w.heap.size
  own:∀(b:Nat) (blk:Blk),h[b]?=some blk→blk.own=true→(μ b).o=0∧∃cur,w.heap[(μ b).g]?=some (.cells cur blk.ty (0,0))∧cur.size=(μ b).c∧blk.cells.length≤cur.size
  sep:∀(b b':Nat) (blk blk':Blk),h[b]?=some blk→h[b']?=some blk'→blk.own=true→b≠b'→(μ b').g≠(μ b).g
def zbY (μ:Map)(h:za)(g:Nat):Prop:=∃b blk,h[b]?=some blk∧blk.own=true∧(μ b).g=g
structure fv (μ:Map)(h:za)(w w':World):Prop where
  os:w'.os=w.os
  tape:w'.tape=w.tape
  output:w'.output=w.output
  size:w.heap.size≤w'.heap.size
  block:∀k,k<w.heap.size→¬zbY μ h k→w'.heap[k]?=w.heap[k]?
def zfC (μ:Map)(h:za)(w:World)(μ':Map)(h':za):Prop:=∀g,zbY μ' h' g→w.heap.size≤g∨zbY μ h g
def In (μ:Map)(h:za)(g:Nat):Prop:=∃b blk,h[b]?=some blk∧(μ b).g=g
structure To (μ:Map)(h:za)(w:World)(μ':Map)(h':za)(w':World):Prop where
  up:Up μ h μ' h'
  frame:fv μ h w w'
  keeps:zfC μ h w μ' h'
  ins:∀g,In μ' h' g→w.heap.size≤g∨In μ h g
theorem fv.refl (μ:Map)(h:za)(w:World):fv μ h w w:=⟨rfl,rfl,rfl,Nat.le_refl _,fun _ _ _=>rfl⟩
theorem To.refl (μ:Map)(h:za)(w:World):To μ h w μ h w:=⟨Up.refl _ _,fv.refl _ _ _,fun _ k=>.inr k,fun _ k=>.inr k⟩
theorem To.trans {μ μ' μ'':Map}{h h' h'':za}{w w' w'':World}(a:To μ h w μ' h' w')(c:To μ' h' w' μ'' h'' w''):To μ h w μ'' h'' w'':=by
  refine⟨a.up.trans c.up,⟨c.frame.os.trans a.frame.os,c.frame.tape.trans a.frame.tape,c.frame.output.trans a.frame.output,Nat.le_trans a.frame.size c.frame.size,fun k hk hm=>?_⟩,fun g hg=>?_,fun g hg=>?_⟩
  · rw[c.frame.block k (Nat.lt_of_lt_of_le hk a.frame.size) (fun hm'=>?_),a.frame.block k hk hm]
    rcases a.keeps k hm' with h1 | h1
    · omega
    · exact hm h1
  · rcases c.keeps g hg with h1 | h1
    · exact .inl (Nat.le_trans a.frame.size h1)
    · exact a.keeps g h1
  · rcases c.ins g hg with h1 | h1
    · exact .inl (Nat.le_trans a.frame.size h1)
    · exact a.ins g h1
theorem To.drew (μ:Map)(h:za)(w:World):To μ h w μ h w.drew:=⟨Up.refl _ _,⟨rfl,rfl,rfl,Nat.le_refl _,fun _ _ _=>rfl⟩,fun _ k=>.inr k,fun _ k=>.inr k⟩
theorem Zn.drew {μ:Map}{h:za}{w:World}(k:Zn μ h w):Zn μ h w.drew:=⟨k.cell,k.pos,k.lt,k.own,k.sep⟩
theorem Zn.count {μ:Map}{h:za}{w:World}(k:Zn μ h w)(n:Nat):Zn μ h { w with drawn:=n }:=⟨k.cell,k.pos,k.lt,k.own,k.sep⟩
theorem To.count (μ:Map)(h:za)(w:World)(n:Nat):To μ h w μ h { w with drawn:=n }:=⟨Up.refl _ _,⟨rfl,rfl,rfl,Nat.le_refl _,fun _ _ _=>rfl⟩,fun _ k=>.inr k,fun _ k=>.inr k⟩
end Go.Proofs.Ytafhipglhnfgnaa.Ab
/- The abstract memory's three turns (a block is written, is made, grows into a new place), and that the machine's world shows the turned memory. No conditions. -/
namespace Go.Proofs.Ytafhipglhnfgnaa.Ab
theorem qE {w:World}{g j:Nat}{cur:Array Value}{e:TypeId}{fr:Nat × Nat}(h:w.heap[g]?=some (.cells cur e fr)):w.cell? ⟨g,j,none⟩=cur[j]?:=by simp[World.cell?,h]
theorem V5 {w w':World}{g j:Nat}(h:w'.heap[g]?=w.heap[g]?):w'.cell? ⟨g,j,none⟩=w.cell? ⟨g,j,none⟩:=by simp[World.cell?,h]
theorem qR {h:za}{b b':Nat}{x blk:Blk}(hb:(h.set b x)[b']?=some blk):(b'=b∧blk=x∧b<h.length)∨(b'≠b∧h[b']?=some blk):=by
  rw[List.getElem?_set] at hb
  by_cases e:b=b'
  · subst e
    simp only[if_true] at hb;split at hb
    · cases hb;exact .inl ⟨rfl,rfl,by assumption⟩
    · cases hb
  · rw[if_neg e] at hb;exact .inr ⟨fun h=>e h.symm,hb⟩
theorem zG {h:za}{b:Nat}{blk:Blk}(hb:h[b]?=some blk):b<h.length:=(List.getElem?_eq_some_iff.1 hb).1
theorem Zn.put {μ : Map} {h : za} {w w' : World} (k : Zn μ h w) {b : Nat} {blk : Blk} (hb : h[b]? = some blk) (ho : blk.own = true) {cells : List Value} {new : Array Value}
    (hsz:new.size=(μ b).c) (hle:cells.length≤new.size) (hge:blk.cells.length≤cells.length)
    (hc:∀(i:Nat) (v:Value),cells[i]?=some v→∃v',new[i]?=some v'∧VR1 μ h v v')
    (hw:w'.heap[(μ b).g]?=some (.cells new blk.ty (0,0))) (hr:∀j,j≠(μ b).g→w'.heap[j]?=w.heap[j]?) (hs:w'.heap.size=w.heap.size) (os:w'.os=w.os) (tape:w'.tape=w.tape) (out:w'.output=w.output) :
    Zn μ (h.set b { blk with cells:=cells }) w'∧To μ h w μ (h.set b { blk with cells:=cells }) w':=by
  have hbl:=zG hb
  have up:Up μ h μ (h.set b { blk with cells:=cells }):=by
    intro b' blk' hb'
    by_cases e:b'=b
    · subst e
      rw[hb] at hb';cases hb'
      exact⟨{ blk with cells:=cells },by rw[List.getElem?_set_self hbl],rfl,rfl,rfl,hge,fun _=>rfl⟩
    · exact⟨blk',by rw[List.getElem?_set_ne (fun h=>e h.symm)];exact hb',rfl,rfl,rfl,Nat.le_refl _,fun _=>rfl⟩
  refine⟨⟨fun b' blk' hb' i v hv=>?_,fun b' blk' hb'=>?_,fun b' blk' hb'=>?_,fun b' blk' hb' ho'=>?_,fun b1 b2 blk1 blk2 h1 h2 h3 h4=>?_⟩,up,⟨os,tape,out,by omega,fun j _ hm=>hr j (fun e=>hm ⟨b,blk,hb,ho,e.symm⟩)⟩,?_,?_⟩
  · rcases qR hb' with⟨rfl,rfl,_⟩ | ⟨hne,hb'⟩
    · obtain⟨v',h1,h2⟩:=hc i v hv
      refine⟨v',?_,h2.up up⟩;rw[(k.own _ _ hb ho).1,Nat.zero_add,qE hw];exact h1
    · obtain⟨v',h1,h2⟩:=k.cell b' blk' hb' i v hv
      exact⟨v',by rw[V5 (hr _ (k.sep b b' blk blk' hb hb' ho (fun e=>hne e.symm)))];exact h1,h2.up up⟩
  · rcases qR hb' with⟨rfl,rfl,_⟩ | ⟨hne,hb'⟩
    · show 0<blk.sz;exact k.pos _ _ hb
    · exact k.pos _ _ hb'
  · rw[hs]
    rcases qR hb' with⟨rfl,rfl,_⟩ | ⟨hne,hb'⟩
    · exact k.lt _ _ hb
    · exact k.lt _ _ hb'
  · rcases qR hb' with⟨rfl,rfl,_⟩ | ⟨hne,hb'⟩
    · exact⟨(k.own _ _ hb ho).1,new,hw,hsz,hle⟩
    · obtain⟨h1,cur,h2,h3,h4⟩:=k.own _ _ hb' ho'
      exact⟨h1,cur,by rw[hr _ (k.sep b b' blk blk' hb hb' ho (fun e=>hne e.symm))];exact h2,h3,h4⟩
  · rcases qR h1 with⟨rfl,rfl,_⟩ | ⟨hne,g1⟩
    · rcases qR h2 with⟨rfl,rfl,_⟩ | ⟨hne',h2⟩
      · exact absurd rfl h4
      · exact k.sep _ _ _ _ hb h2 ho h4
    · rcases qR h2 with⟨rfl,rfl,_⟩ | ⟨hne',h2⟩
      · exact k.sep _ _ _ _ g1 hb h3 h4
      · exact k.sep _ _ _ _ g1 h2 h3 h4
  · rintro g ⟨b',blk',hb',ho',hg⟩
    rcases qR hb' with⟨rfl,rfl,_⟩ | ⟨hne,hb'⟩
    · exact .inr ⟨_,blk,hb,ho,hg⟩
    · exact .inr ⟨b',blk',hb',ho',hg⟩
  · rintro g ⟨b',blk',hb',hg⟩
    rcases qR hb' with⟨rfl,rfl,_⟩ | ⟨hne,hb'⟩
    · exact .inr ⟨_,blk,hb,hg⟩
    · exact .inr ⟨b',blk',hb',hg⟩
def Map.to (μ:Map)(b:Nat)(l:Loc):Map:=fun b'=>if b'=b then l else μ b'
theorem Map.to_same (μ:Map)(b:Nat)(l:Loc):μ.to b l b=l:=by simp[Map.to]
theorem Map.to_ne (μ:Map){b b':Nat}(l:Loc)(h:b'≠b):μ.to b l b'=μ b':=by simp[Map.to,h]
theorem Zn.move {μ : Map} {h : za} {w w' : World} (k : Zn μ h w) {b : Nat} {blk : Blk} (hb : h[b]? = some blk) (ho : blk.own = true) {cells : List Value} {new : Array Value}
    (hle:cells.length≤new.size) (hge:blk.cells.length<cells.length)
    (hc:∀(i:Nat) (v:Value),cells[i]?=some v→∃v',new[i]?=some v'∧VR1 μ h v v')
    (hw:w'.heap[w.heap.size]?=some (.cells new blk.ty (0,0))) (hr:∀j,j<w.heap.size→w'.heap[j]?=w.heap[j]?) (hs:w'.heap.size=w.heap.size+1) (os:w'.os=w.os) (tape:w'.tape=w.tape) (out:w'.output=w.output) :
    Zn (μ.to b ⟨w.heap.size,0,new.size⟩) (h.set b { blk with cells:=cells }) w'∧To μ h w (μ.to b ⟨w.heap.size,0,new.size⟩) (h.set b { blk with cells:=cells }) w':=by
  have hbl:=zG hb
  have up:Up μ h (μ.to b ⟨w.heap.size,0,new.size⟩) (h.set b { blk with cells:=cells }):=by
    intro b' blk' hb'
    by_cases e:b'=b
    · subst e
      rw[hb] at hb';cases hb'
      exact⟨{ blk with cells:=cells },by rw[List.getElem?_set_self hbl],rfl,rfl,rfl,Nat.le_of_lt hge,fun e=>by simp only at e;omega⟩
    · exact⟨blk',by rw[List.getElem?_set_ne (fun h=>e h.symm)];exact hb',rfl,rfl,rfl,Nat.le_refl _,fun _=>Map.to_ne _ _ e⟩
  refine⟨⟨fun b' blk' hb' i v hv=>?_,fun b' blk' hb'=>?_,fun b' blk' hb'=>?_,fun b' blk' hb' ho'=>?_,fun b1 b2 blk1 blk2 h1 h2 h3 h4=>?_⟩,up,⟨os,tape,out,by omega,fun j hj _=>hr j hj⟩,?_,?_⟩
  · rcases qR hb' with⟨rfl,rfl,_⟩ | ⟨hne,hb'⟩
    · obtain⟨v',h1,h2⟩:=hc i v hv
      refine⟨v',?_,h2.up up⟩;rw[Map.to_same,Nat.zero_add,qE hw];exact h1
    · obtain⟨v',h1,h2⟩:=k.cell b' blk' hb' i v hv
      exact⟨v',by rw[Map.to_ne _ _ hne,V5 (hr _ (k.lt _ _ hb'))];exact h1,h2.up up⟩
  · rcases qR hb' with⟨rfl,rfl,_⟩ | ⟨hne,hb'⟩
    · show 0<blk.sz;exact k.pos _ _ hb
    · exact k.pos _ _ hb'
  · rw[hs]
    rcases qR hb' with⟨rfl,rfl,_⟩ | ⟨hne,hb'⟩
    · rw[Map.to_same];exact Nat.lt_succ_self _
    · rw[Map.to_ne _ _ hne];exact Nat.lt_succ_of_lt (k.lt _ _ hb')
  · rcases qR hb' with⟨rfl,rfl,_⟩ | ⟨hne,hb'⟩
    · rw[Map.to_same];exact⟨rfl,new,hw,rfl,hle⟩
    · rw[Map.to_ne _ _ hne]
      obtain⟨h1,cur,h2,h3,h4⟩:=k.own _ _ hb' ho'
      exact⟨h1,cur,by rw[hr _ (k.lt _ _ hb')];exact h2,h3,h4⟩
  · rcases qR h1 with⟨rfl,rfl,_⟩ | ⟨hne,g1⟩
    · rcases qR h2 with⟨rfl,rfl,_⟩ | ⟨hne',h2⟩
      · exact absurd rfl h4
      · rw[Map.to_same,Map.to_ne _ _ hne']
        have:=k.lt _ _ h2;show (μ b2).g≠w.heap.size;omega
    · rcases qR h2 with⟨rfl,rfl,_⟩ | ⟨hne',h2⟩
      · rw[Map.to_same,Map.to_ne _ _ hne]
        have:=k.lt _ _ g1;show w.heap.size≠(μ b1).g;omega
      · rw[Map.to_ne _ _ hne,Map.to_ne _ _ hne'];exact k.sep _ _ _ _ g1 h2 h3 h4
  · rintro g ⟨b',blk',hb',ho',hg⟩
    rcases qR hb' with⟨rfl,rfl,_⟩ | ⟨hne,hb'⟩
    · rw[Map.to_same] at hg
      exact .inl (Nat.le_of_eq hg)
    · rw[Map.to_ne _ _ hne] at hg
      exact .inr ⟨b',blk',hb',ho',hg⟩
  · rintro g ⟨b',blk',hb',hg⟩
    rcases qR hb' with⟨rfl,rfl,_⟩ | ⟨hne,hb'⟩
    · rw[Map.to_same] at hg
      exact .inl (Nat.le_of_eq hg)
    · rw[Map.to_ne _ _ hne] at hg
      exact .inr ⟨b',blk',hb',hg⟩
theorem Zd {h:za}{b:Nat}{x blk:Blk}(hb:(h++[x])[b]?=some blk):(b=h.length∧blk=x)∨(b<h.length∧h[b]?=some blk):=by
  by_cases e:b<h.length
  · rw[List.getElem?_append_left e] at hb;exact .inr ⟨e,hb⟩
  · rw[List.getElem?_append_right (by omega)] at hb
    cases hn:b-h.length with
    | zero=>rw[hn] at hb;simp at hb;exact .inl ⟨by omega,hb.symm⟩
    | succ n=>rw[hn] at hb;simp at hb
theorem Up.push (μ:Map)(h:za)(l:Loc)(x:Blk):Up μ h (μ.to h.length l) (h++[x]):=by
  intro b' blk' hb';have:=zG hb'
  exact⟨blk',by rw[List.getElem?_append_left this];exact hb',rfl,rfl,rfl,Nat.le_refl _,fun _=>Map.to_ne _ _ (by omega)⟩
theorem Zn.push {μ : Map} {h : za} {w w' : World} (k : Zn μ h w) {blk : Blk} {new : Array Value} (ho : blk.own = true) (hp : 0 < blk.sz) (hle : blk.cells.length ≤ new.size)
    (hc:∀(i:Nat) (v:Value),blk.cells[i]?=some v→∃v',new[i]?=some v'∧VR1 μ h v v')
    (hw:w'.heap[w.heap.size]?=some (.cells new blk.ty (0,0))) (hr:∀j,j<w.heap.size→w'.heap[j]?=w.heap[j]?) (hs:w'.heap.size=w.heap.size+1) (os:w'.os=w.os) (tape:w'.tape=w.tape) (out:w'.output=w.output) :
    Zn (μ.to h.length ⟨w.heap.size,0,new.size⟩) (h++[blk]) w'∧To μ h w (μ.to h.length ⟨w.heap.size,0,new.size⟩) (h++[blk]) w':=by
  have up:=Up.push μ h ⟨w.heap.size,0,new.size⟩ blk
  refine⟨⟨fun b' blk' hb' i v hv=>?_,fun b' blk' hb'=>?_,fun b' blk' hb'=>?_,fun b' blk' hb' ho'=>?_,fun b1 b2 blk1 blk2 h1 h2 h3 h4=>?_⟩,up,⟨os,tape,out,by omega,fun j hj _=>hr j hj⟩,?_,?_⟩
  · rcases Zd hb' with⟨rfl,rfl⟩ | ⟨hlt,hb'⟩
    · obtain⟨v',h1,h2⟩:=hc i v hv
      refine⟨v',?_,h2.up up⟩;rw[Map.to_same,Nat.zero_add,qE hw];exact h1
    · obtain⟨v',h1,h2⟩:=k.cell b' blk' hb' i v hv
      exact⟨v',by rw[Map.to_ne _ _ (by omega),V5 (hr _ (k.lt _ _ hb'))];exact h1,h2.up up⟩
  · rcases Zd hb' with⟨rfl,rfl⟩ | ⟨hlt,hb'⟩
    · exact hp
    · exact k.pos _ _ hb'
  · rw[hs]
    rcases Zd hb' with⟨rfl,rfl⟩ | ⟨hlt,hb'⟩
    · rw[Map.to_same];exact Nat.lt_succ_self _
    · rw[Map.to_ne _ _ (by omega)];exact Nat.lt_succ_of_lt (k.lt _ _ hb')
  · rcases Zd hb' with⟨rfl,rfl⟩ | ⟨hlt,hb'⟩
    · rw[Map.to_same];exact⟨rfl,new,hw,rfl,hle⟩
    · rw[Map.to_ne _ _ (by omega)]
      obtain⟨h1,cur,h2,h3,h4⟩:=k.own _ _ hb' ho'
      exact⟨h1,cur,by rw[hr _ (k.lt _ _ hb')];exact h2,h3,h4⟩
  · rcases Zd h1 with⟨rfl,rfl⟩ | ⟨hlt,g1⟩
    · rcases Zd h2 with⟨rfl,rfl⟩ | ⟨hlt',h2⟩
      · exact absurd rfl h4
      · rw[Map.to_same,Map.to_ne _ _ (by omega)]
        have:=k.lt _ _ h2;show (μ b2).g≠w.heap.size;omega
    · rcases Zd h2 with⟨rfl,rfl⟩ | ⟨hlt',h2⟩
      · rw[Map.to_same,Map.to_ne _ _ (by omega)]
        have:=k.lt _ _ g1;show w.heap.size≠(μ b1).g;omega
      · rw[Map.to_ne _ _ (by omega),Map.to_ne _ _ (by omega)];exact k.sep _ _ _ _ g1 h2 h3 h4
  · rintro g ⟨b',blk',hb',ho',hg⟩
    rcases Zd hb' with⟨rfl,rfl⟩ | ⟨hlt,hb'⟩
    · rw[Map.to_same] at hg
      exact .inl (Nat.le_of_eq hg)
    · rw[Map.to_ne _ _ (by omega)] at hg
      exact .inr ⟨b',blk',hb',ho',hg⟩
  · rintro g ⟨b',blk',hb',hg⟩
    rcases Zd hb' with⟨rfl,rfl⟩ | ⟨hlt,hb'⟩
    · rw[Map.to_same] at hg
      exact .inl (Nat.le_of_eq hg)
    · rw[Map.to_ne _ _ (by omega)] at hg
      exact .inr ⟨b',blk',hb',hg⟩
theorem Zn.forget {μ : Map} {h t : za} {w : World} (k : Zn μ (h ++ t) w)
    (hc:∀(b:Nat) (blk:Blk),h[b]?=some blk→∀(i:Nat) (v:Value),blk.cells[i]?=some v→∀v',VR1 μ (h++t) v v'→VR1 μ h v v'):Zn μ h w:=by
  have ext:∀(b:Nat) (blk:Blk),h[b]?=some blk→(h++t)[b]?=some blk:=fun b blk hb=>by rw[List.getElem?_append_left (zG hb)];exact hb
  exact ⟨fun b blk hb i v hv => by
      obtain⟨v',h1,h2⟩:=k.cell b blk (ext b blk hb) i v hv
      exact⟨v',h1,hc b blk hb i v hv v' h2⟩,
    fun b blk hb=>k.pos b blk (ext b blk hb),fun b blk hb=>k.lt b blk (ext b blk hb),fun b blk hb ho=>k.own b blk (ext b blk hb) ho,fun b b' blk blk' h1 h2 h3 h4=>k.sep b b' blk blk' (ext _ _ h1) (ext _ _ h2) h3 h4⟩
end Go.Proofs.Ytafhipglhnfgnaa.Ab
/- The small language into which a function's operations are read, and its run over the abstract memory: no order is open, no capacity is drawn. No conditions. -/
namespace Go.Proofs.Ytafhipglhnfgnaa.Ab
inductive Opd where
  | t (n:Nat)
  | c (v:Value)
inductive MI where
  | mov (x:Opd)
  | pick (c a b:Opd)
  | bin (op:BinOp) (x y:Opd)
  | binB (op:BinOp) (x y:Opd)
  | eqS (ks:List Nat) (neg:Bool) (x y:Opd)
  | un (op:UnOp) (x:Opd)
  | conv (k:IntKind) (x:Opd)
  | str (x:Opd)
  | ld (n:Nat) (agg:Bool) (x:Opd)
  | fa (off:Nat) (x:Opd)
  | ia (sz:Nat) (x i:Opd)
  | ix (x i:Opd)
  | fl (off n:Nat) (agg:Bool) (x:Opd)
  | slS (x:Opd) (lo hi:Option Opd)
  | slL (sz:Nat) (x:Opd) (lo hi:Option Opd)
  | ln (x:Opd)
  | lnS (x:Opd)
  | app (sz:Nat) (ty:TypeId) (bytes:Nat) (s x:Opd)
  | lit (n sz:Nat) (ty:TypeId) (zero:List Value) (parts:List (Nat × Opd))
  | bld (zero:List Value) (parts:List (Nat × Nat × Opd))
  | mk (sz:Nat) (ty:TypeId) (bytes:Nat) (zero:List Value) (n:Opd)
  | nw (ty:TypeId) (cells:List Value)
  | bx (ty:TypeId) (n:Nat) (x:Opd)
  | ext (i:Nat) (x:Opd)
  | chk (x:Opd)
  | mm (isMax:Bool) (x y:Opd)
  | fn (f:Fn) (caps:List Opd)
  | newL (cells:List Value)
  | boxL (n:Nat) (x:Opd)
  | faB (off:Nat) (d:Nat)
  | faE (off:Nat) (d e:Nat)
  | ldB (n:Nat) (agg:Bool) (d:Nat)
  | ldE (n:Nat) (agg:Bool) (d e:Nat)
  | stB (n:Nat) (d:Nat) (v:Opd)
  | stE (n:Nat) (d e:Nat) (v:Opd)
  | litL (n sz:Nat) (zero:List Value) (parts:List (Nat × Opd))
  | appL (sz:Nat) (ty:TypeId) (bytes n:Nat) (s:Opd) (e:Nat)
  | strL (n e:Nat)
  | st (n:Nat) (x v:Opd)
  | call (f:FuncId) (args:List Opd)
  | callV (f:Opd) (args:List Opd)
  | callL (f:FuncId) (n sz:Nat) (ty:TypeId) (e:Nat)
structure MOp where
  dst:Option Nat
  ins:MI
  guard:Option (Nat × Bool)
structure St where
  t:Nat→Value
  loc:Nat→Option (List Value)
  al:Nat→Option (Nat × Nat)
  h:za
def upd {α:Type}(f:Nat→α)(i:Nat)(v:α):Nat→α:=fun j=>if j=i then v else f j
theorem zR {α:Type}(f:Nat→α)(i:Nat)(v:α):upd f i v i=v:=by simp[upd]
theorem zX {α:Type}(f:Nat→α){i j:Nat}(v:α)(h:j≠i):upd f i v j=f j:=by simp[upd,h]
def unal (al:Nat→Option (Nat × Nat))(d:Nat):Nat→Option (Nat × Nat):=fun e=>match al e with
  | some (d',off)=>if d'=d then none else some (d',off)
  | none=>none
def gone:Value:=.map none
def St.val (s:St):Opd→Value
  | .t n=>s.t n
  | .c v=>v
def St.put (s:St)(d:Option Nat)(v:Value):St:=match d with
  | some d=>{ s with t:=upd s.t d v }
  | none=>s
def cellsOf:Value→Option (List Value)
  | .agg ⟨xs⟩=>some xs
  | .tuple _=>none
  | .map _=>none
  | v=>some [v]
def ofCells (agg:Bool)(cs:List Value):Option Value:=if agg then some (.agg ⟨cs⟩) else match cs with
  | [v]=>some v
  | _=>none
def ldC (h:za)(p:Value)(n:Nat):Option (List Value):=match p with
  | .pointer (some ⟨b,off,some L⟩)=>match h[b]? with
    | some blk=>if L=blk.cells.length∧off+n≤L then some ((blk.cells.drop off).take n) else none
    | none=>none
  | _=>none
def putAt (cs:List Value)(off:Nat)(vs:List Value):List Value:=cs.take off++vs++cs.drop (off+vs.length)
def stC (h:za)(p:Value)(vs:List Value):Option za:=match p with
  | .pointer (some ⟨b,off,some L⟩)=>match h[b]? with
    | some blk=>if L=blk.cells.length∧off+vs.length≤L∧blk.own=true then some (h.set b { blk with cells:=putAt blk.cells off vs }) else none
    | none=>none
  | _=>none
def faV (h:za)(p:Value)(off:Nat):Option Value:=match p with
  | .pointer (some ⟨b,o,some L⟩)=>match h[b]? with
    | some blk=>if L=blk.cells.length then some (.pointer (some ⟨b,o+off,some L⟩)) else none
    | none=>none
  | _=>none
def iaV (h:za)(sz:Nat)(x i:Value):Option Value:=match x,i with
  | .slice (some ⟨b,off,none⟩) len cap,.int _ i=>match h[b]? with
    | some blk=>if 0≤i∧i<len∧blk.sz=sz∧off+cap*sz=blk.cells.length then some (.pointer (some ⟨b,off+i.toNat*sz,some blk.cells.length⟩)) else none
    | none=>none
  | _,_=>none
def ixV (x i:Value):Option Value:=match x,i with
  | .string s,.int _ i=>if 0≤i∧i<(s.size:Int) then some (.int .u8 (s.data.toList.getD i.toNat 0).toNat) else none
  | _,_=>none
def bnd (d:Int):Option Value→Option Int
  | none=>some d
  | some (.int _ i)=>some i
  | some _=>none
def Xz (x:Value)(lo hi:Option Value):Option Value:=match x with
  | .string s=>match bnd 0 lo,bnd s.size hi with
    | some l,some r=>if 0≤l∧l≤r∧r≤(s.size:Int) then some (.string (s.extract l.toNat r.toNat)) else none
    | _,_=>none
  | _=>none
def kb (sz:Nat)(x:Value)(lo hi:Option Value)(h:za):Option Value:=match x with
  | .slice none 0 0=>match bnd 0 lo,bnd 0 hi with
    | some 0,some 0=>some x
    | _,_=>none
  | .slice (some ⟨b,off,none⟩) len cap=>match h[b]? with
    | some blk=>match bnd 0 lo,bnd len hi with
      | some l,some r=>if 0≤l∧l≤r∧r≤(len:Int)∧blk.sz=sz∧off+cap*sz=blk.cells.length then some (.slice (some ⟨b,off+l.toNat*sz,none⟩) (r-l).toNat (cap-l.toNat)) else none
      | _,_=>none
    | none=>none
  | _=>none
def lnV (h:za)(x:Value):Option Value:=match x with
  | .slice none 0 0=>some (.int .i64 0)
  | .slice (some ⟨b,off,none⟩) n cap=>match h[b]? with
    | some blk=>if off+cap*blk.sz=blk.cells.length then some (.int .i64 n) else none
    | none=>none
  | _=>none
def xi (h:za)(sz:Nat)(x:Value):Option (List Value):=match x with
  | .slice none 0 0=>some []
  | .slice (some ⟨b,off,none⟩) len cap=>match h[b]? with
    | some blk=>if blk.sz=sz∧off+cap*sz=blk.cells.length then some ((blk.cells.drop off).take (len*sz)) else none
    | none=>none
  | _=>none
def lim:Nat:=1099511627776
def Jx (h:za)(sz:Nat)(ty:TypeId)(s:Value)(news:List Value)(n:Nat):Option (Value × za) :=
  match s with
  | .slice none 0 0=>if n=0 then some (s,h) else if n≤lim then some (.slice (some ⟨h.length,0,none⟩) n n,h++[⟨news,sz,ty,true⟩]) else none
  | .slice (some ⟨b,off,none⟩) len cap=>match h[b]? with
    | some blk=>if off+cap*blk.sz=blk.cells.length then (if n=0 then some (s,h) else
        if off=0∧blk.sz=sz∧blk.ty=ty∧blk.own=true∧len=cap∧len+n≤lim then
          some (.slice (some ⟨b,0,none⟩) (len+n) (len+n),h.set b { blk with cells:=blk.cells++news }) else none) else none
    | none=>none
  | _=>none
def zhB (s:ByteArray):List Value:=s.data.toList.map fun b=>.int .u8 (b.toNat:Int)
def BU:Value→Option Int
  | .int .u8 n=>some n
  | _=>none
def jJ:List Value→Option (List Int)
  | []=>some []
  | v::vs=>match BU v,jJ vs with
    | some n,some ns=>some (n::ns)
    | _,_=>none
def XB (h:za)(x:Value):Option Value:=match xi h 1 x with
  | some cs=>(jJ cs).map fun ns=>.string (strOfNums ns)
  | none=>none
def Qr (op:BinOp)(x y:Value):Option Value:=match x,y with
  | .int k a,.int k' b=>match op with
    | .shl=>if b<0 then none else some (.int k (k.wrap (a*2 ^ min b.toNat k.bits)))
    | .shr=>if b<0 then none else some (.int k (a.fdiv (2 ^ min b.toNat k.bits)))
    | .add=>if k=k' then some (.int k (k.wrap (a+b))) else none
    | .sub=>if k=k' then some (.int k (k.wrap (a-b))) else none
    | .mul=>if k=k' then some (.int k (k.wrap (a*b))) else none
    | .quo=>if k=k'∧b≠0 then some (.int k (k.wrap (a.tdiv b))) else none
    | .rem=>if k=k'∧b≠0 then some (.int k (a.tmod b)) else none
    | .and=>if k=k' then some (.int k (k.wrap (BitVec.ofInt k.bits a &&& BitVec.ofInt k.bits b).toNat)) else none
    | .or=>if k=k' then some (.int k (k.wrap (BitVec.ofInt k.bits a ||| BitVec.ofInt k.bits b).toNat)) else none
    | .xor=>if k=k' then some (.int k (k.wrap (BitVec.ofInt k.bits a ^^^ BitVec.ofInt k.bits b).toNat)) else none
    | .andNot=>none
    | .eql=>if k=k' then some (.bool (decide (a=b))) else none
    | .neq=>if k=k' then some (.bool (!decide (a=b))) else none
    | .lss=>if k=k' then some (.bool (decide (a<b))) else none
    | .leq=>if k=k' then some (.bool (decide (a≤b))) else none
    | .gtr=>if k=k' then some (.bool (decide (a>b))) else none
    | .geq=>if k=k' then some (.bool (decide (a≥b))) else none
  | .string a,.string b=>match op with
    | .add=>if a.size+b.size≤9223372036854775807 then some (.string (a++b)) else none
    | .eql=>some (.bool (a.toList==b.toList))
    | .neq=>some (.bool (!(a.toList==b.toList)))
    | .lss=>some (.bool (Op.bytesLess a.toList b.toList))
    | .leq=>some (.bool (Op.bytesLess a.toList b.toList || a.toList==b.toList))
    | .gtr=>some (.bool !(Op.bytesLess a.toList b.toList || a.toList==b.toList))
    | .geq=>some (.bool !(Op.bytesLess a.toList b.toList))
    | _=>none
  | _,_=>none
def FP (op:BinOp)(x y:Value):Option Value:=match x,y with
  | .bool a,.bool b=>match op with
    | .eql=>some (.bool (a==b))
    | .neq=>some (.bool !(a==b))
    | _=>none
  | _,_=>none
def Gf:Nat→Value→Value→Option Bool
  | 0,.int k a,.int k' b=>if k=k' then some (a==b) else none
  | 1,.string a,.string b=>some (a.toList==b.toList)
  | 2,.bool a,.bool b=>some (a==b)
  | _,_,_=>none
def Vw:List Nat→List Value→List Value→Option Bool
  | [],_,_=>some true
  | k::ks,x::xs,y::ys=>match Gf k x y with
    | some true=>Vw ks xs ys
    | some false=>some false
    | none=>none
  | _,_,_=>none
def unV (op:UnOp)(x:Value):Option Value:=match op,x with
  | .not,.bool b=>some (.bool !b)
  | .neg,.int k n=>some (.int k (k.wrap (0-n)))
  | _,_=>none
def zi (sz:Nat)(cells:List Value):List (Nat × Value)→Option (List Value)
  | []=>some cells
  | (i,v)::rest=>match cellsOf v with
    | some vs=>if vs.length=sz∧i*sz+sz≤cells.length then zi sz (putAt cells (i*sz) vs) rest else none
    | none=>none
def Qp (cells:List Value):List (Nat × Nat × Value)→Option (List Value)
  | []=>some cells
  | (off,n,v)::rest=>match cellsOf v with
    | some vs=>if vs.length=n∧off+n≤cells.length then Qp (putAt cells off vs) rest else none
    | none=>none
def zj (zero:List Value):Nat→List Value
  | 0=>[]
  | n+1=>zero++zj zero n
def yF:Value→Bool
  | .slice (some _) _ _=>true
  | .pointer (some _)=>true
  | v=>prim v
def MI.run (s:St):MI→Option (Value × za)
  | .mov x=>some (s.val x,s.h)
  | .pick c a b=>match s.val c with
    | .bool c=>some (if c=true then s.val a else s.val b,s.h)
    | _=>none
  | .bin op x y=>(Qr op (s.val x) (s.val y)).map fun v=>(v,s.h)
  | .binB op x y=>(FP op (s.val x) (s.val y)).map fun v=>(v,s.h)
  | .eqS ks neg x y=>match s.val x,s.val y with
    | .agg ⟨xs⟩,.agg ⟨ys⟩=>(Vw ks xs ys).map fun b=>(.bool (if neg=true then !b else b),s.h)
    | _,_=>none
  | .un op x=>(unV op (s.val x)).map fun v=>(v,s.h)
  | .conv k x=>match s.val x with
    | .int _ n=>some (.int k (k.wrap n),s.h)
    | _=>none
  | .str x=>(XB s.h (s.val x)).map fun v=>(v,s.h)
  | .ld n agg x=>((ldC s.h (s.val x) n).bind (ofCells agg)).map fun v=>(v,s.h)
  | .fa off x=>(faV s.h (s.val x) off).map fun v=>(v,s.h)
  | .ia sz x i=>(iaV s.h sz (s.val x) (s.val i)).map fun v=>(v,s.h)
  | .ix x i=>(ixV (s.val x) (s.val i)).map fun v=>(v,s.h)
  | .fl off n agg x=>match s.val x with
    | .agg ⟨xs⟩=>if off+n≤xs.length then (ofCells agg ((xs.drop off).take n)).map fun v=>(v,s.h) else none
    | _=>none
  | .slS x lo hi=>(Xz (s.val x) (lo.map s.val) (hi.map s.val)).map fun v=>(v,s.h)
  | .slL sz x lo hi=>(kb sz (s.val x) (lo.map s.val) (hi.map s.val) s.h).map fun v=>(v,s.h)
  | .ln x=>(lnV s.h (s.val x)).map fun v=>(v,s.h)
  | .lnS x=>match s.val x with
    | .string b=>some (.int .i64 b.size,s.h)
    | _=>none
  | .app sz ty _ d x=>match s.val x with
    | .slice a n c=>(xi s.h sz (.slice a n c)).bind fun cs=>Jx s.h sz ty (s.val d) cs n
    | _=>none
  | .lit n sz ty zero parts=>(zi sz (zj zero n) (parts.map fun p=>(p.1,s.val p.2))).map fun cs=>(.slice (some ⟨s.h.length,0,none⟩) n n,s.h++[⟨cs,sz,ty,true⟩])
  | .bld zero parts=>(Qp zero (parts.map fun p=>(p.1,p.2.1,s.val p.2.2))).map fun cs=>(.agg ⟨cs⟩,s.h)
  | .mk sz ty _ zero n=>match s.val n with
    | .int .i64 n=>if 0≤n∧n≤lim then some (.slice (some ⟨s.h.length,0,none⟩) n.toNat n.toNat,s.h++[⟨zj zero n.toNat,sz,ty,true⟩]) else none
    | _=>none
  | .nw ty cells=>some (.pointer (some ⟨s.h.length,0,some cells.length⟩),s.h++[⟨cells,cells.length,ty,true⟩])
  | .bx ty n x=>match cellsOf (s.val x) with
    | some cs=>if cs.length=n then some (.pointer (some ⟨s.h.length,0,some n⟩),s.h++[⟨cs,n,ty,true⟩]) else none
    | none=>none
  | .ext i x=>match s.val x with
    | .tuple ⟨xs⟩=>xs[i]?.map fun v=>(v,s.h)
    | _=>none
  | .chk x=>(ldC s.h (s.val x) 0).map fun _=>(s.val x,s.h)
  | .mm isMax x y=>match s.val x,s.val y with
    | .int k a,.int _ b=>some (.int k (if isMax=true then (if b>a then b else a) else (if b<a then b else a)),s.h)
    | _,_=>none
  | .fn f caps=>if (caps.map s.val).all yF=true then some (.func f #[] ⟨caps.map s.val⟩,s.h) else none
  | .ldB n agg d=>match s.loc d with
    | some cs=>if n≤cs.length then (ofCells agg (cs.take n)).map fun v=>(v,s.h) else none
    | none=>none
  | .ldE n agg d e=>match s.al e,s.loc d with
    | some (d',off),some cs=>if d'=d∧off+n≤cs.length then (ofCells agg ((cs.drop off).take n)).map fun v=>(v,s.h) else none
    | _,_=>none
  | .appL sz ty _ n d e=>match s.loc e with
    | some cs=>if cs.length=n*sz then Jx s.h sz ty (s.val d) cs n else none
    | none=>none
  | .strL n e=>match s.loc e with
    | some cs=>if cs.length=n then (jJ cs).map fun ns=>(.string (strOfNums ns),s.h) else none
    | none=>none
  | _=>none
def MOp.go (call:FuncId→List Value→za→Option (Value × za))(o:MOp)(s:St):Option St:=match o.ins with
  | .newL cells=>match o.dst with
    | some d=>some { s with t:=upd s.t d undef,loc:=upd s.loc d (some cells),al:=unal s.al d }
    | none=>none
  | .boxL n x=>match o.dst,cellsOf (s.val x) with
    | some d,some cs=>if cs.length=n then some { s with t:=upd s.t d undef,loc:=upd s.loc d (some cs),al:=unal s.al d } else none
    | _,_=>none
  | .faB off d=>match o.dst,s.loc d with
    | some e,some _=>some { s with t:=upd s.t e undef,al:=upd s.al e (some (d,off)) }
    | _,_=>none
  | .faE off d e=>match o.dst,s.al e,s.loc d with
    | some e',some (d',off'),some _=>if d'=d then some { s with t:=upd s.t e' undef,al:=upd s.al e' (some (d,off'+off)) } else none
    | _,_,_=>none
  | .stB n d v=>match o.dst,s.loc d,cellsOf (s.val v) with
    | none,some cs,some vs=>if vs.length=n∧n≤cs.length then some { s with loc:=upd s.loc d (some (putAt cs 0 vs)) } else none
    | _,_,_=>none
  | .stE n d e v=>match o.dst,s.al e,cellsOf (s.val v),s.loc d with
    | none,some (d',off),some vs,some cs=>if d'=d∧vs.length=n∧off+n≤cs.length then some { s with loc:=upd s.loc d (some (putAt cs off vs)) } else none
    | _,_,_,_=>none
  | .litL n sz zero parts=>match o.dst,zi sz (zj zero n) (parts.map fun p=>(p.1,s.val p.2)) with
    | some e,some cs=>some { s with t:=upd s.t e undef,loc:=upd s.loc e (some cs) }
    | _,_=>none
  | .st n x v=>match o.dst,cellsOf (s.val v) with
    | none,some vs=>if vs.length=n then (stC s.h (s.val x) vs).map fun h=>{ s with h:=h } else none
    | _,_=>none
  | .call f args=>(call f (args.map s.val) s.h).map fun r=>{ s.put o.dst r.1 with h:=r.2 }
  | .callV f args=>match s.val f with
    | .func (.func g) ⟨[]⟩ ⟨caps⟩=>(call g (args.map s.val++caps) s.h).map fun r=>{ s.put o.dst r.1 with h:=r.2 }
    | _=>none
  | .callL f n sz ty e=>match s.loc e with
    | some cs=>if cs.length=n*sz∧0<sz∧n≤lim then (call f [.slice (some ⟨s.h.length,0,none⟩) n n] (s.h++[⟨cs,sz,ty,false⟩])).map fun r=>{ s.put o.dst r.1 with loc:=upd s.loc e none,h:=r.2 } else none
    | none=>none
  | i=>(i.run s).map fun r=>{ s.put o.dst r.1 with h:=r.2 }
def MOp.want (o:MOp)(s:St):Option Bool:=match o.guard with
  | none=>some true
  | some (j,b)=>match s.t j with
    | .bool c=>some (c==b)
    | .map none=>some false
    | _=>none
def MOp.skip (o:MOp)(s:St):St:=match o.dst with
  | some d=>{ s with t:=upd s.t d gone,loc:=upd s.loc d none,al:=upd s.al d none }
  | none=>s
def MOp.step (call:FuncId→List Value→za→Option (Value × za))(o:MOp)(s:St):Option St:=match o.want s with
  | some true=>o.go call s
  | some false=>some (o.skip s)
  | none=>none
def wQ (call:FuncId→List Value→za→Option (Value × za)):List MOp→St→Option St
  | [],s=>some s
  | o::os,s=>(o.step call s).bind (wQ call os)
def MI.reads:MI→Bool
  | .mov _ | .pick .. | .bin .. | .binB .. | .eqS .. | .un .. | .conv .. | .str _ | .ld .. | .fa .. | .ia .. | .ix .. | .fl .. | .slS .. | .slL .. | .ln _ | .lnS _ | .bld .. | .ext .. | .chk _ | .mm .. | .fn .. | .ldB .. | .ldE .. | .strL ..=>true
  | _=>false
def MI.looks:MI→Bool
  | .str _ | .ld .. | .fa .. | .ia .. | .slL .. | .ln _ | .chk _=>true
  | _=>false
def MI.makes:MI→Bool
  | .call .. | .callL .. | .app .. | .appL .. | .lit .. | .mk .. | .bx .. | .nw .. | .st ..=>true
  | _=>false
def VW (last:Bool)(h h0:za):za:=match last with
  | true=>h
  | false=>h0
open Classical in
noncomputable def MOp.free (call:FuncId→List Value→za→Option (Value × za))(last:Bool)(h0:za)(o:MOp)(s:St):Option St:=match o.want s with
  | some true=>match o.ins with
    | .faB .. | .faE .. | .stB .. | .stE .. | .litL .. | .newL _=>o.go call s
    | .call f args=>(call f (args.map s.val) s.h).bind fun r=>if last=true∨s.h <+: r.2 then some { s.put o.dst r.1 with h:=r.2 } else none
    | .callL f n sz ty e=>match s.loc e with
      | some cs=>if cs.length=n*sz∧0<sz∧n≤lim then (call f [.slice (some ⟨s.h.length,0,none⟩) n n] (s.h++[⟨cs,sz,ty,false⟩])).bind fun r=>if last=true∨s.h <+: r.2 then some { s.put o.dst r.1 with loc:=upd s.loc e none,h:=r.2 } else none else none
      | none=>none
    | .st ..=>(o.go call s).bind fun r=>if last=true∨h0 <+: r.h then some r else none
    | i=>if i.makes=true then (i.run s).bind fun r=>if last=true∨h0 <+: r.2 then some { s.put o.dst r.1 with h:=r.2 } else none
      else if i.reads=true then (i.run { s with h:=VW last s.h h0 }).map fun r=>s.put o.dst r.1 else none
  | some false=>some (o.skip s)
  | none=>none
noncomputable def Zs (call:FuncId→List Value→za→Option (Value × za))(last:Bool)(h0:za):List MOp→St→Option St
  | [],s=>some s
  | o::os,s=>(o.free call last h0 s).bind (Zs call last h0 os)
inductive Tag where
  | c
  | m
  | l (k:Nat)
open Classical in
noncomputable def MOp.opn (call:FuncId→List Value→za→Option (Value × za))(g:Tag)(hs:List za)(o:MOp)(s:St):Option St:=match g with
  | .l k=>(o.free call false s.h s).bind fun s1=>if ∀h∈hs.drop k,o.free call false h s=some s1 then some s1 else none
  | .c=>o.free call true [] s
  | .m=>o.free call true [] s
def VT (g:Tag)(hs:List za)(h:za):List za:=match g with
  | .m=>hs++[h]
  | .c=>hs
  | .l _=>hs
noncomputable def qC (call:FuncId→List Value→za→Option (Value × za)):List (Tag × MOp)→List za→St→Option St
  | [],_,s=>some s
  | (g,o)::l,hs,s=>(o.opn call g hs s).bind fun s1=>qC call l (VT g hs s1.h) s1
inductive IR where
  | skip
  | ops (l:List MOp)
  | free (last:Bool) (l:List MOp)
  | opn (l:List (Tag × MOp))
  | seq (a b:IR)
  | cond (c:Opd) (a b:IR)
  | block (id:Nat) (a:IR)
  | loop (a:IR)
  | exit (id:Nat)
  | ret
  | keep (l:List Nat)
def yn (f:St→Option (Exit × St)):Nat→St→Option (Exit × St)
  | 0,_=>none
  | n+1,s=>match f s with
    | some (.normal,s')=>yn f n s'
    | r=>r
def St.close (s:St):St:={ s with al:=fun _=>none }
def St.keep (s:St)(l:List Nat):St:={ t:=fun i=>if l.contains i=true then s.t i else undef,loc:=fun i=>if l.contains i=true then s.loc i else none,al:=fun _=>none,h:=s.h }
noncomputable def Zf (call:FuncId→List Value→za→Option (Value × za))(n:Nat):IR→St→Option (Exit × St)
  | .skip,s=>some (.normal,s)
  | .ops l,s=>(wQ call l s).map fun s'=>(.normal,s'.close)
  | .free last l,s=>(Zs call last s.h l s).map fun s'=>(.normal,s'.close)
  | .opn l,s=>(qC call l [s.h] s).map fun s'=>(.normal,s'.close)
  | .seq a b,s=>match Zf call n a s with
    | some (.normal,s')=>Zf call n b s'
    | r=>r
  | .cond c a b,s=>match s.val c with
    | .bool c=>if c=true then Zf call n a s else Zf call n b s
    | _=>none
  | .block id a,s=>match Zf call n a s with
    | some (.exit id',s')=>if id'=id then some (.normal,s') else some (.exit id',s')
    | r=>r
  | .loop a,s=>yn (Zf call n a) n s
  | .exit id,s=>some (.exit id,s)
  | .ret,s=>some (.ret,s)
  | .keep l,s=>some (.normal,s.keep l)
inductive Res where
  | slot (t:Nat)
  | box (d n:Nat) (agg:Bool)
structure Fun where
  np:Nat
  body:IR
  res:List Res
def Res.get (s:St):Res→Option Value
  | .slot t=>some (s.t t)
  | .box d n agg=>match s.loc d with
    | some cs=>if n≤cs.length then ofCells agg (cs.take n) else none
    | none=>none
def live:Value→Bool
  | .tuple _=>false
  | .map _=>false
  | _=>true
def Qg (s:St)(rs:List Res):Option Value:=match rs.mapM (Res.get s) with
  | some [v]=>if live v=true then some v else none
  | some vs=>if vs.all live=true then some (.tuple ⟨vs⟩) else none
  | none=>none
def start (args:List Value)(h:za):St:={ t:=fun i=>args.getD i undef,loc:=fun _=>none,al:=fun _=>none,h:=h }
def yD:Value→Bool
  | .agg ⟨cs⟩=>cs.all prim
  | v=>prim v
def flat:Value→Bool
  | .tuple ⟨vs⟩=>vs.all yD
  | .agg ⟨cs⟩=>cs.all prim
  | v=>prim v
open Classical in
noncomputable def zp (h:za)(r:Value × za):Value × za:=if flat r.1=true∧h <+: r.2 then (r.1,h) else r
noncomputable def call (T:FuncId→Option Fun)(X:FuncId→List Value→za→Option (Value × za)):Nat→FuncId→List Value→za→Option (Value × za)
  | 0,_,_,_=>none
  | n+1,f,args,h=>match T f with
    | some F=>if args.length=F.np then
        match Zf (call T X n) n F.body (start args h) with
        | some (.normal,s)=>(Qg s F.res).map fun v=>zp h (v,s.h)
        | some (.ret,s)=>(Qg s F.res).map fun v=>zp h (v,s.h)
        | _=>none
      else none
    | none=>X f args h
end Go.Proofs.Ytafhipglhnfgnaa.Ab
/- The reading of a loaded function into the small language: a check that the kernel computes. No conditions. -/
namespace Go.Proofs.Ytafhipglhnfgnaa.Ab
def jx:Value→Bool
  | .bool _ | .int _ _ | .string _ | .slice none 0 0 | .pointer none | .nilFunc | .nilIface=>true
  | _=>false
def opd:Operand→Option Opd
  | .tmp t=>some (.t t)
  | .const v=>if jx v then some (.c v) else none
  | .func f=>some (.c (.func (.func f) #[] #[]))
  | .global _=>none
def uw:List Operand→Option (List Opd)
  | []=>some []
  | x::xs=>match opd x,uw xs with
    | some y,some ys=>some (y::ys)
    | _,_=>none
def Xx:Option Operand→Option (Option Opd)
  | none=>some none
  | some x=>(opd x).map some
def KV:TypeDesc→Option Bool
  | .struct _=>some true
  | .array _ _=>none
  | _=>some false
def WR (P:Program)(t:TypeId):Option (Nat × Bool):=match P.underlying t with
  | some d=>match KV d,P.info? t with
    | some true,some i=>some (i.size,true)
    | some false,some i=>if i.size=1 then some (1,false) else none
    | _,_=>none
  | none=>none
def U7 (P:Program)(t:TypeId):Option (List Value):=match P.info? t with
  | some i=>match i.zero with
    | some z=>match cellsOf z with
      | some cs=>if cs.length=i.size∧cs.all prim then some cs else none
      | none=>none
    | none=>none
  | none=>none
def uL (P:Program)(t:TypeId)(f:Nat):Option (Nat × Nat × Bool):=match P.underlying t with
  | some (.struct fs)=>match fs[f]? with
    | some fd=>match WR P fd.type,P.info? fd.type with
      | some (n,agg),some i=>if n=0∨i.size≠n then none else some (fd.offset,n,agg)
      | _,_=>none
    | none=>none
  | _=>none
def Qh (P:Program)(t:TypeId):Option (TypeId × Nat × Nat × List Value):=match P.underlying t with
  | some (.slice e)=>match P.info? e,U7 P e with
    | some i,some z=>if 0<i.size∧i.bytes≤96∧0<i.bytes then some (e,i.size,i.bytes,z) else none
    | _,_=>none
  | _=>none
def bn (P:Program)(t:TypeId):Bool:=match P.underlying t with
  | some .string=>true
  | _=>false
def isSlice (P:Program)(t:TypeId):Bool:=match P.underlying t with
  | some (.slice _)=>true
  | _=>false
def zhh (P:Program)(t:TypeId):Bool:=match P.underlying t with
  | some (.slice e)=>match P.underlying e with
    | some (.int .u8)=>true
    | _=>false
  | _=>false
def uK (P:Program):Nat→List Field→Option (List Nat)
  | _,[]=>some []
  | i, f :: fs => match (if f.name = "_" ∨ f.offset ≠ i then none else match P.underlying f.type with
      | some (.int _)=>some 0
      | some .string=>some 1
      | some .bool=>some 2
      | _=>none:Option Nat),uK P (i+1) fs with
    | some k,some ks=>some (k::ks)
    | _,_=>none
def zd6 (P:Program)(t:TypeId):Bool:=!P.stoodInHeld t && !P.eqGuardType P.depth t
def fieldsOf (P:Program)(t:TypeId):Option (List (Nat × Nat)):=match P.underlying t with
  | some (.struct fs)=>fs.toList.mapM fun f=>(P.info? f.type).map fun i=>(f.offset,i.size)
  | _=>none
def Ux (fs:List (Nat × Nat)):List Nat→Option (List (Nat × Nat))
  | []=>some []
  | i::is=>match fs[i]?,Ux fs is with
    | some p,some ps=>some (p::ps)
    | _,_=>none
def Fb (P:Program)(L:List (Nat × Nat)):List Operand→List TypeId→Option (Nat × Nat × TypeId × Nat)
  | [.tmp e],[t]=>match L.lookup e,Qh P t with
    | some n,some (ety,sz,_,_)=>some (n,sz,ety,e)
    | _,_=>none
  | _,_=>none
def zZ (P:Program)(D:List Nat)(E:List (Nat × Nat))(L:List (Nat × Nat))(o:Oper):Option MI:=match o.op with
  | .move x=>(opd x).map .mov
  | .assign x=>(opd x).map .mov
  | .pick c a b=>match opd c,opd a,opd b with
    | some c,some a,some b=>some (.pick c a b)
    | _,_,_=>none
  | .binOp op t x y _=>match opd x,opd y,P.underlying t with
    | some x,some y,some (.int _)=>some (.bin op x y)
    | some x,some y,some .string=>some (.bin op x y)
    | some x,some y,some .bool=>some (.binB op x y)
    | some x,some y,some (.struct fs)=>match zd6 P t,uK P 0 fs.toList,op with
        | true,some ks,.eql=>some (.eqS ks false x y)
        | true,some ks,.neq=>some (.eqS ks true x y)
        | _,_,_=>none
    | _,_,_=>none
  | .unOp op _ x=>(opd x).map (.un op)
  | .convert s t x=>match opd x,P.underlying s,P.underlying t with
    | some x,some (.int _),some (.int k)=>some (.conv k x)
    | some x,some (.slice e),some .string=>match P.underlying e with
      | some (.int .u8)=>match x with
        | .t e=>match L.lookup e with
          | some n=>some (.strL n e)
          | none=>some (.str (.t e))
        | _=>none
      | _=>none
    | _,_,_=>none
  | .load t x=>match WR P t,x with
    | some (n,agg),.tmp x=>if D.contains x then some (.ldB n agg x) else match E.lookup x with | some d=>some (.ldE n agg d x) | none=>some (.ld n agg (.t x))
    | _,_=>none
  | .store t x v=>match WR P t,P.info? t,x,opd v with
    | some (n,_),some i,.tmp x,some v=>if i.size=n then (if D.contains x then some (.stB n x v) else match E.lookup x with | some d=>some (.stE n d x v) | none=>some (.st n (.t x) v)) else none
    | _,_,_,_=>none
  | .fieldAddr t x f=>match uL P t f,x with
    | some (off,_,_),.tmp x=>if D.contains x then some (.faB off x) else match E.lookup x with | some d=>some (.faE off d x) | none=>some (.fa off (.t x))
    | _,_=>none
  | .field t x f=>match uL P t f,opd x with
    | some (off,n,agg),some x=>some (.fl off n agg x)
    | _,_=>none
  | .indexAddr t x i=>match Qh P t,opd x,opd i with
    | some (_,sz,_,_),some x,some i=>some (.ia sz x i)
    | _,_,_=>none
  | .index t x i=>match bn P t,opd x,opd i with
    | true,some x,some i=>some (.ix x i)
    | _,_,_=>none
  | .slice t x lo hi none=>match bn P t,Qh P t,opd x,Xx lo,Xx hi with
    | true,_,some x,some lo,some hi=>some (.slS x lo hi)
    | false,some (_,sz,_,_),some x,some lo,some hi=>some (.slL sz x lo hi)
    | _,_,_,_,_=>none
  | .buildSlice t n parts=>match Qh P t,uw (parts.toList.map (·.2)) with
    | some (e,sz,_,z),some xs=>if n*sz≤16777216 then (match o.dst with
      | some d=>match L.lookup d with
        | some m=>if m=n∧0<n then some (.litL n sz z ((parts.toList.map (·.1)).zip xs)) else none
        | none=>some (.lit n sz e z ((parts.toList.map (·.1)).zip xs))
      | none=>none) else none
    | _,_=>none
  | .build t parts=>match U7 P t,fieldsOf P t,uw (parts.toList.map (·.2)) with
    | some z,some fs,some xs=>match Ux fs (parts.toList.map (·.1)) with
      | some ps=>some (.bld z ((ps.zip xs).map fun p=>(p.1.1,p.1.2,p.2)))
      | none=>none
    | _,_,_=>none
  | .makeSlice t n c=>match Qh P t,n,c with
    | some (e,sz,b,z),.tmp n,.tmp c=>if n=c then some (.mk sz e b z (.t n)) else none
    | some (e,sz,b,z),.const (.int .i64 n),.const (.int .i64 c)=>if n=c then some (.mk sz e b z (.c (.int .i64 n))) else none
    | _,_,_=>none
  | .alloc t=>match WR P t,U7 P t,o.dst with
    | some (n,_),some z,some d=>if n=z.length∧0<n then (if D.contains d then some (.newL z) else some (.nw t z)) else none
    | _,_,_=>none
  | .box t x=>match WR P t,opd x,o.dst with
    | some (n,_),some x,some d=>if 0<n then (if D.contains d then some (.boxL n x) else some (.bx t n x)) else none
    | _,_,_=>none
  | .extract x i=>(opd x).map (.ext i)
  | .nilCheck x=>(opd x).map .chk
  | .makeFunc f first caps=>if first.size=0 then (uw caps.toList).map (.fn f) else none
  | .call { callee:=.value (.func f),args,argTypes }=>match Fb P L args.toList argTypes.toList with
    | some (n,sz,ty,e)=>some (.callL f n sz ty e)
    | none=>(uw args.toList).map (.call f)
  | .call { callee:=.value (.tmp f),args,argTypes:=_ }=>(uw args.toList).map (.callV (.t f))
  | .call { callee:=.builtin .len,args,argTypes }=>match args.toList,argTypes.toList with
    | [x],[t]=>if bn P t then (opd x).map .lnS else if isSlice P t then (opd x).map .ln else none
    | _,_=>none
  | .call { callee:=.builtin .append,args,argTypes }=>match args.toList,argTypes.toList with
    | [s,x],[t,u]=>match Qh P t,opd s,opd x with
      | some (e,sz,b,_),some s,some (.t x)=>if u=t then (match L.lookup x with
        | some n=>some (.appL sz e b n s x)
        | none=>some (.app sz e b s (.t x))) else none
      | some (e,sz,b,_),some s,some (.c x)=>if u=t then some (.app sz e b s (.c x)) else none
      | _,_,_=>none
    | _,_=>none
  | .call { callee:=.builtin .max,args,argTypes:=_ }=>match args.toList with
    | [x,y]=>match opd x,opd y with
      | some x,some y=>some (.mm true x y)
      | _,_=>none
    | _=>none
  | .call { callee:=.builtin .min,args,argTypes:=_ }=>match args.toList with
    | [x,y]=>match opd x,opd y with
      | some x,some y=>some (.mm false x y)
      | _,_=>none
    | _=>none
  | _=>none
def WQ (D:List Nat)(E L:List (Nat × Nat))(d:Nat):Bool:=!D.contains d && (E.lookup d).isNone && (L.lookup d).isNone
def ZY (D:List Nat)(E L:List (Nat × Nat))(N:Nat):MI→Option Nat→Bool
  | .newL _,some d=>D.contains d && (L.lookup d).isNone && decide (d<N)
  | .boxL _ _,some d=>D.contains d && (L.lookup d).isNone && decide (d<N)
  | .faB _ x,some d=>(E.lookup d==some x) && !D.contains d && (L.lookup d).isNone && decide (d<N)
  | .faE _ x _,some d=>(E.lookup d==some x) && !D.contains d && (L.lookup d).isNone && decide (d<N)
  | .litL ..,some d=>(L.lookup d).isSome && !D.contains d && (E.lookup d).isNone && decide (d<N)
  | .stB ..,none=>true
  | .stE ..,none=>true
  | .st ..,none=>true
  | .call ..,none=>true
  | .callV ..,none=>true
  | .callL ..,none=>true
  | .newL _,none=>false
  | .boxL ..,none=>false
  | .faB ..,none=>false
  | .faE ..,none=>false
  | .litL ..,none=>false
  | .stB ..,some _=>false
  | .stE ..,some _=>false
  | .st ..,some _=>false
  | _,some d=>WQ D E L d && decide (d<N)
  | _,none=>false
def Opd.ok (D:List Nat)(E L:List (Nat × Nat)):Opd→Bool
  | .t n=>WQ D E L n
  | .c _=>true
def fM (P:Program)(D:List Nat)(E L:List (Nat × Nat))(N:Nat)(ops:List Oper)(o:Oper):Option MOp:=match zZ P D E L o with
  | some i=>if ZY D E L N i o.dst then match o.guard with
      | none=>some ⟨o.dst,i,none⟩
      | some (j,b)=>match ops[j]? with
        | some g=>match g.dst with
          | some d=>if WQ D E L d then some ⟨o.dst,i,some (d,b)⟩ else none
          | none=>none
        | none=>none
    else none
  | none=>none
def UJ (P:Program)(D:List Nat)(E L:List (Nat × Nat))(N:Nat)(ops:List Oper):List Oper→Option (List MOp)
  | []=>some []
  | o::os=>match fM P D E L N ops o,UJ P D E L N ops os with
    | some m,some ms=>some (m::ms)
    | _,_=>none
def Opd.slots:Opd→List Nat
  | .t n=>[n]
  | .c _=>[]
def B8:Option Opd→List Nat
  | some x=>x.slots
  | none=>[]
def MI.slots:MI→List Nat
  | .mov x | .un _ x | .conv _ x | .str x | .ld _ _ x | .fa _ x | .fl _ _ _ x | .ln x | .lnS x | .ext _ x | .chk x=>x.slots
  | .pick c a b=>c.slots++a.slots++b.slots
  | .bin _ x y | .binB _ x y | .eqS _ _ x y | .ia _ x y | .ix x y | .mm _ x y=>x.slots++y.slots
  | .slS x lo hi | .slL _ x lo hi=>x.slots++B8 lo++B8 hi
  | .bld _ ps=>ps.flatMap fun p=>p.2.2.slots
  | .fn _ xs | .call _ xs=>xs.flatMap Opd.slots
  | .faB _ d | .ldB _ _ d=>[d]
  | .faE _ d e | .ldE _ _ d e=>[d,e]
  | .callL _ _ _ _ e=>[e]
  | .lit _ _ _ _ ps=>ps.flatMap fun p=>p.2.slots
  | .stB _ d v=>d::v.slots
  | .mk _ _ _ _ x=>x.slots
  | .bx _ _ x=>x.slots
  | .st _ x v=>x.slots++v.slots
  | .stE _ d e v=>d::e::v.slots
  | .litL _ _ _ ps=>ps.flatMap fun p=>p.2.slots
  | .appL _ _ _ _ s e=>e::s.slots
  | .app _ _ _ s x=>s.slots++x.slots
  | .strL _ e=>[e]
  | _=>[]
def MOp.slots (o:MOp):List Nat:=o.ins.slots++(match o.guard with | some (j,_)=>[j] | none=>[])
def MOp.outs (E:List (Nat × Nat))(o:MOp):List Nat:=match o.ins,o.dst with
  | .stB _ d _,_=>[d]
  | .stE _ d _ _,_=>[d]
  | .callL _ _ _ _ e,some d=>[d,e]
  | .callL _ _ _ _ e,none=>[e]
  | .newL _,some d=>d::(E.filter fun p=>p.2==d).map (·.1)
  | _,some d=>[d]
  | _,none=>[]
def MI.freely:MI→Bool
  | .faB .. | .faE .. | .stB .. | .stE .. | .litL .. | .newL _=>true
  | i=>i.reads || i.makes
def MOp.apart (E:List (Nat × Nat))(x y:MOp):Bool:=!(x.ins.makes && y.ins.makes) && ((x.outs E).all fun d=>!(y.outs E).contains d && !y.slots.contains d) && (y.outs E).all fun d=>!x.slots.contains d
def anc (ops:List Oper):Nat→Nat→Nat→Bool
  | 0,_,_=>false
  | n+1,i,a=>match ops[i]? with
    | some o=>o.after.toList.any fun e=>Region.binds .any e && (e.on==a || anc ops n e.on a)
    | none=>false
def Gl (E:List (Nat × Nat))(ops:List Oper)(ms:List MOp):Bool :=
  Region.noSelect ops.toArray &&
  (ms.all fun m=>m.ins.freely) &&
  ((List.range ops.length).all fun i=>match ops[i]? with
    | some o=>o.after.toList.all fun e=>!Region.binds .any e || decide (e.on<i)
    | none=>true) &&
  (List.range ms.length).all fun i=>(List.range i).all fun a=>match ms[a]?,ms[i]? with
    | some x,some y=>x.apart E y || anc ops 12 i a
    | _,_=>false
def vq (ops:List Oper)(ms:List MOp):Bool :=
  (List.range ms.length).all fun i=>(List.range i).all fun a=>match ms[a]?,ms[i]? with
    | some x,some y=>!((y.ins.makes && x.ins.looks) || (y.ins.looks && x.ins.makes)) || anc ops 12 i a
    | _,_=>false
def MI.lays:MI→Bool
  | .mk ..=>true
  | .lit ..=>true
  | _=>false
def MI.still:MI→Bool
  | .faB ..=>true
  | .call ..=>true
  | i=>i.reads
def zn (ms:List MOp)(i:Nat):Bool:=match ms[i]? with
  | some m=>m.ins.lays && m.guard.isNone
  | none=>false
def wM (p:MI→Bool)(ms:List MOp)(i:Nat):Bool:=match ms[i]? with
  | some m=>p m.ins
  | none=>false
def VN (ops:List Oper)(ms:List MOp)(i:Nat):Bool:=(List.range ms.length).all fun a=>!zn ms a || anc ops 12 i a
def VM (ops:List Oper)(ms:List MOp)(i:Nat):Bool:=(List.range ms.length).all fun a=>!zn ms a || !anc ops 12 i a
def Zm (ops:List Oper)(ms:List MOp):Nat:=((List.range ms.length).find? fun i=>!zn ms i && VN ops ms i).getD ms.length
def UO (ops:List Oper)(ms:List MOp):List Nat :=
  ((List.range ms.length).filter fun i=>!zn ms i && decide (i<Zm ops ms))++(List.range ms.length).filter (zn ms)++((List.range ms.length).filter fun i=>!zn ms i && !decide (i<Zm ops ms))
def KZ (ops:List Oper)(ms:List MOp):List MOp:=(UO ops ms).filterMap (ms[·]?)
def MOp.asunder (E:List (Nat × Nat))(x y:MOp):Bool:=((x.outs E).all fun d=>!(y.outs E).contains d && !y.slots.contains d) && (y.outs E).all fun d=>!x.slots.contains d
def ul (l:List MOp)(i:Nat):Bool:=l.any fun m=>m.dst==some i
def Z9 (ms:List MOp):Nat→Bool:=ul (((List.range ms.length).filter (zn ms)).filterMap (ms[·]?))
def Y0 (E:List (Nat × Nat))(ops:List Oper)(ms:List MOp):Bool :=
  (Region.noSelect ops.toArray && (List.range ms.length).any (zn ms)) &&
  (ms.all fun m=>m.ins.freely) &&
  ((List.range ops.length).all fun i=>match ops[i]? with
    | some o=>o.after.toList.all fun e=>!Region.binds .any e || decide (e.on<i)
    | none=>true) &&
  ((List.range ms.length).all fun i=>(List.range i).all fun a=>match ms[a]?,ms[i]? with
    | some x,some y=>if zn ms a && zn ms i then x.asunder E y else if zn ms a || zn ms i then x.asunder E y || anc ops 12 i a else x.apart E y || anc ops 12 i a
    | _,_=>false) &&
  ((List.range ms.length).all fun i=>zn ms i || (VM ops ms i && wM MI.still ms i) || (VN ops ms i && (List.range ms.length).all fun a=>!wM MI.makes ms a || zn ms a || VN ops ms a || anc ops 12 i a)) &&
  (List.range ms.length).all fun i=>match ms[i]? with
    | some m=>if zn ms i then m.slots.all (fun d=>!Z9 ms d) else !VM ops ms i || (m.slots++m.outs E).all fun d=>!Z9 ms d
    | none=>true
def GU (ms:List MOp):List Nat:=(List.range ms.length).filter (wM MI.makes ms)
def zhA (ops:List Oper)(ms:List MOp)(i:Nat):Nat:=((GU ms).filter fun m=>m != i && !anc ops 12 m i).length
def QD (ops:List Oper)(ms:List MOp):List Nat :=
  let rs:=(List.range ms.length).map (zhA ops ms)
  (List.range ((GU ms).length+1)).flatMap fun j=>((List.range ms.length).filter fun i=>!wM MI.makes ms i && rs.getD i 0==j)++(List.range ms.length).filter fun i=>wM MI.makes ms i && rs.getD i 0==j
def xT (ops:List Oper)(ms:List MOp)(i:Nat):Tag:=if wM MI.looks ms i then .l ((GU ms).takeWhile (anc ops 12 i)).length else if wM MI.makes ms i then .m else .c
def VO (ops:List Oper)(ms:List MOp)(l:List Nat):List (Tag × MOp):=l.filterMap fun i=>(ms[i]?).map fun m=>(xT ops ms i,m)
def K6 (E:List (Nat × Nat))(ops:List Oper)(ms:List MOp)(a i:Nat):Bool:=match ms[a]?,ms[i]? with
  | some x,some y=>anc ops 12 i a || (x.apart E y && !(x.ins.looks && y.ins.makes))
  | _,_=>false
def gc (p:Nat→Nat→Bool):List Nat→Bool
  | []=>true
  | a::l=>l.all (p a) && gc p l
def bS (E:List (Nat × Nat))(ops:List Oper)(ms:List MOp):Bool :=
  Region.noSelect ops.toArray &&
  (ms.all fun m=>m.ins.freely) &&
  ((List.range ops.length).all fun i=>match ops[i]? with
    | some o=>o.after.toList.all fun e=>!Region.binds .any e || decide (e.on<i)
    | none=>true) &&
  ((List.range ms.length).all fun i=>(QD ops ms).contains i) &&
  gc (fun a i=>a != i && K6 E ops ms a i) (QD ops ms)
def Z5 (b:Bool)(P:Program)(D:List Nat)(E:List (Nat × Nat))(L:List (Nat × Nat))(N:Nat):Code→Option IR
  | .skip=>some .skip
  | .region _ ops draw=>match UJ P D E L N ops.toList ops.toList with
    | some ms=>if draw then (if b && !vq ops.toList ms && bS E ops.toList ms && P.follows .mixedOrders then some (.opn (VO ops.toList ms (QD ops.toList ms))) else if Gl E ops.toList ms && P.follows .mixedOrders then some (.free (vq ops.toList ms) ms) else if Y0 E ops.toList ms && P.follows .mixedOrders then some (.free (vq ops.toList ms) (KZ ops.toList ms)) else none) else some (.ops ms)
    | none=>none
  | .seq x y=>match Z5 b P D E L N x,Z5 b P D E L N y with
    | some a,some b=>some (.seq a b)
    | _,_=>none
  | .cond c x y=>match opd c,Z5 b P D E L N x,Z5 b P D E L N y with
    | some c,some a,some b=>some (.cond c a b)
    | _,_,_=>none
  | .block id a=>(Z5 b P D E L N a).map (.block id)
  | .loop a=>(Z5 b P D E L N a).map .loop
  | .exit id=>some (.exit id)
  | .ret=>some .ret
  | _=>none
def UK (P:Program)(D:List Nat)(E L:List (Nat × Nat)):ResultVar→Option Res
  | .tmp t=>if WQ D E L t then some (.slot t) else none
  | .cell a t=>match WR P t with
    | some (n,agg)=>if D.contains a then some (.box a n agg) else none
    | none=>none
end Go.Proofs.Ytafhipglhnfgnaa.Ab
/- Which slots are boxes of the call's own, which are aliases: found by a look over a function's operations. No conditions. -/
namespace Go.Proofs.Ytafhipglhnfgnaa.Ab
def YP:Code→List Oper
  | .region _ ops _=>ops.toList
  | .seq a b=>YP a++YP b
  | .cond _ a b=>YP a++YP b
  | .block _ a=>YP a
  | .loop a=>YP a
  | .scope a=>YP a
  | _=>[]
def V6:Code→List Operand
  | .seq a b=>V6 a++V6 b
  | .cond c a b=>c::(V6 a++V6 b)
  | .block _ a=>V6 a
  | .loop a=>V6 a
  | .scope a=>V6 a
  | _=>[]
def jc (l:List Operand):List Nat:=l.filterMap fun | .tmp t=>some t | _=>none
def Dg (o:Oper):List Nat:=match o.op with
  | .load _ _=>[]
  | .store _ _ v=>jc [v]
  | .fieldAddr _ _ _=>[]
  | op=>jc op.operands.toList
def UI (fn:Func)(c:Code):List Nat :=
  let ops:=YP c
  let made:=ops.filterMap fun o=>match o.op,o.dst with
    | .alloc _,some d | .box _ _,some d=>some d
    | _,_=>none
  let bad:=ops.flatMap Dg++jc (V6 c)++(ops.filterMap fun o=>match o.op,o.dst with
    | .alloc _,_ | .box _ _,_=>none
    | _,d=>d)++(fn.results.toList.filterMap fun | .tmp t=>some t | _=>none)++List.range fn.params.size
  (made.filter fun d=>!bad.contains d).eraseDups
def y7 (D:List Nat)(c:Code):List (Nat × Nat) :=
  (YP c).foldl (fun E o=>match o.op,o.dst with
    | .fieldAddr _ (.tmp x) _,some e=>if D.contains x then (e,x)::E else match E.lookup x with
      | some d=>(e,d)::E
      | none=>E
    | _,_=>E) []
def Ff (fn:Func)(c:Code):List (Nat × Nat) :=
  let ops:=YP c
  let used:=ops.flatMap fun o=>match o.op with
    | .call { callee:=.builtin .append,args,argTypes:=_ }=>jc (args.toList.take 1)
    | .convert _ _ _=>[]
    | .call { callee:=.value (.func _),args,argTypes:=_ }=>if args.size=1 then [] else jc args.toList
    | op=>jc op.operands.toList
  let bad:=used++jc (V6 c)++(fn.results.toList.filterMap fun | .tmp t=>some t | _=>none)
  ops.filterMap fun o=>match o.op,o.dst with
    | .buildSlice _ n _,some d=>if n=0 || bad.contains d then none else some (d,n)
    | _,_=>none
inductive Kp:IR→IR→Prop
  | skip:Kp .skip .skip
  | ops0 (l:List MOp):Kp (.ops l) (.ops l)
  | free0 (b:Bool) (l:List MOp):Kp (.free b l) (.free b l)
  | ops (l:List MOp) (g:List Nat):Kp (.ops l) (.seq (.ops l) (.keep g))
  | free (b:Bool) (l:List MOp) (g:List Nat):Kp (.free b l) (.seq (.free b l) (.keep g))
  | opn0 (l:List (Tag × MOp)):Kp (.opn l) (.opn l)
  | opn (l:List (Tag × MOp)) (g:List Nat):Kp (.opn l) (.seq (.opn l) (.keep g))
  | seq {a b a' b':IR} (ha:Kp a a') (hb:Kp b b'):Kp (.seq a b) (.seq a' b')
  | cond (c:Opd) {a b a' b':IR} (ha:Kp a a') (hb:Kp b b'):Kp (.cond c a b) (.cond c a' b')
  | block (id:Nat) {a a':IR} (ha:Kp a a'):Kp (.block id a) (.block id a')
  | loop {a a':IR} (ha:Kp a a'):Kp (.loop a) (.loop a')
  | exit (id:Nat):Kp (.exit id) (.exit id)
  | ret:Kp .ret .ret
  | keep (l:List Nat):Kp (.keep l) (.keep l)
def Jh:IR→IR
  | .seq a b=>match a,b with
    | .ops l,.keep _=>.ops l
    | .free c l,.keep _=>.free c l
    | .opn l,.keep _=>.opn l
    | a,b=>.seq (Jh a) (Jh b)
  | .cond c a b=>.cond c (Jh a) (Jh b)
  | .block id a=>.block id (Jh a)
  | .loop a=>.loop (Jh a)
  | i=>i
theorem uA:∀i:IR,Kp (Jh i) i
  | .skip=>.skip
  | .ops l=>.ops0 l
  | .free b l=>.free0 b l
  | .opn l=>.opn0 l
  | .seq a b=>by
    have ha:=uA a;have hb:=uA b;unfold Jh;split
    · exact .ops _ _
    · exact .free _ _ _
    · exact .opn _ _
    · exact .seq ha hb
  | .cond c a b=>.cond c (uA a) (uA b)
  | .block id a=>.block id (uA a)
  | .loop a=>.loop (uA a)
  | .exit id=>.exit id
  | .ret=>.ret
  | .keep l=>.keep l
def zk (b:Bool)(P:Program)(fn:Func):Option Fun:=match fn.body with
  | some c =>
    let D:=UI fn c
    let E:=y7 D c
    let L:=Ff fn c
    match Z5 b P D E L fn.ntmps c,fn.results.toList.mapM (UK P D E L) with
    | some ir, some rs => if fn.params.size + fn.nfree ≤ fn.ntmps ∧ (fn.name == "runtime.NumGoroutine") = false then some ⟨fn.params.size + fn.nfree, ir, rs⟩ else none
    | _,_=>none
  | none=>none
def Fun.bare (F:Fun):Fun:=⟨F.np,Jh F.body,F.res⟩
end Go.Proofs.Ytafhipglhnfgnaa.Ab
