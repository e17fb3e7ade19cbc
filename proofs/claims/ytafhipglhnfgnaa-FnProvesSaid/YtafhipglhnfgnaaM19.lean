/- Joined: R9, P6, R10, K35, K36, K38, K39, K40, K114, K115, K20. No conditions. -/
import Derived.Test.YtafhipglhnfgnaaR7
import Derived.Test.YtafhipglhnfgnaaM18
import Derived.Test.YtafhipglhnfgnaaM11
import Derived.Test.YtafhipglhnfgnaaM4
import Derived.Test.YtafhipglhnfgnaaM14
set_option linter.unusedSimpArgs false
set_option linter.unusedVariables false
set_option linter.unnecessarySimpa false
set_option maxHeartbeats 4000000
namespace Go.Proofs.Ytafhipglhnfgnaa.Ab
open Go.RowKit
section
variable {h h':Heap} {lo hi lo2 hi2:Nat} {ty:TypeId} {v w:Value} {gs:List Gp} {l:List Int} {z:Int}
theorem OwnG.norm (o:OwnG h lo hi ty v gs):∃ vs:List Value,vs.length=gs.length∧OwnGs h lo hi ty v gs vs:=by
  obtain ⟨vs,h1,h2,h3,h4⟩:=o
  have e:∀ i,i < gs.length→((List.range gs.length).map fun j=>vs.getD j nilV).getD i nilV=vs.getD i nilV:=fun i hi=>by simp [hi]
  refine ⟨(List.range gs.length).map fun j=>vs.getD j nilV,by simp,?_,fun i hi=>by rw [e i hi];exact h2 i hi,fun i hi=>by rw [e i hi];exact h3 i hi,fun i j hij hj=>by rw [e i (by omega),e j hj];exact h4 i j hij hj⟩
  have:gRows ((List.range gs.length).map fun j=>vs.getD j nilV) gs=gRows vs gs:=by
    unfold gRows;apply List.map_congr_left
    intro i hi
    have hi':i < gs.length:=by simpa using hi
    unfold gRow;rw [e i hi']
  rw [this];exact h1
theorem gRows_push {vs:List Value} (hv:vs.length=gs.length):gRows (vs++[w]) (gs++[⟨l,z⟩])=gRows vs gs++[[w,.int .i64 z]]:=by
  unfold gRows;rw [List.length_append,List.length_singleton,List.range_succ,List.map_append]
  congr 1
  · apply List.map_congr_left
    intro i hi
    have hi':i < gs.length:=by simpa using hi
    unfold gRow
    have e1:(vs++[w]).getD i nilV=vs.getD i nilV:=by simp [List.getElem?_append_left (show i < vs.length by omega)]
    have e2:(gs++[(⟨l,z⟩:Gp)]).getD i g0=gs.getD i g0:=by simp [List.getElem?_append_left hi']
    rw [e1,e2]
  · unfold gRow
    have e1:(vs++[w]).getD gs.length nilV=w:=by rw [← hv];simp
    have e2:(gs++[(⟨l,z⟩:Gp)]).getD gs.length g0=⟨l,z⟩:=by simp
    simp only [List.map_cons,List.map_nil];rw [e1,e2]
theorem OwnG.push (o : OwnG h lo hi ty v gs) (hlo : lo ≤ h.length) (hhi : hi ≤ h.length) (q : Own h lo2 hi2 1 y_int w (ints l)) (hll : lo ≤ lo2) (hd : hi ≤ lo2) (hd2 : hi2 ≤ h.length) (hl : gs.length < lim) :
    ∃ v' h',appLW h 2 ty 1 v (some [w,.int .i64 z])=some (v',h')∧h.length≤h'.length∧(∀ b,b < lo→h'[b]?=h[b]?)∧OwnG h' lo h'.length ty v' (gs++[⟨l,z⟩]):=by
  obtain ⟨vs,hvl,h2,h3,h4,h5⟩:=o.norm;have hwsepv:Sep v w:=h2.sep q (.inl hd)
  have hws:∀ i,i < gs.length→Sep (vs.getD i nilV) w:=fun i hi=>(h3 i hi).sep q (.inl hd)
  obtain ⟨v',h',e,g,b,c,o'⟩:=push_is h2 hlo [[w,.int .i64 z]] (fun r hr=>by rw [List.mem_singleton.1 hr];rfl) (by simp) (by simp;omega)
  simp only [List.flatten_cons,List.flatten_nil,List.append_nil,List.length_cons,List.length_nil,Nat.zero_add] at e
  have same:∀ {x:Value} {rr:List (List Value)} {p r:Nat},Own h p r 1 y_int x rr→r≤h.length→Sep v x→Own h' p r 1 y_int x rr:=by
    intro x rr p r ox hr hs;refine ⟨ox.len,?_⟩;rcases ox.is with hn | ⟨c,l1,l2,rfl,hc⟩
    · exact .inl hn
    · exact .inr ⟨c,l1,l2,rfl,by rw [b c (by omega) (by simp only [Sep,tlo,thi] at hs ⊢;omega)];exact hc⟩
  have hv'sep:∀ {x:Value},Sep v x→(x=nilV∨thi x≤h.length)→Sep v' x:=by
    intro x hs hx;rcases c with ⟨rfl,c1,c2,c3⟩ | ⟨_,_,c2,c3⟩
    · rcases hx with rfl | hx
      · exact sep_nil
      · exact .inr (by omega)
    · unfold Sep at hs ⊢;omega
  have hwin:w=nilV∨thi w≤h.length:=by
    rcases q.within with h | ⟨_,h,_⟩
    · exact .inl h
    · exact .inr (by omega)
  have hlv:lo≤tlo v':=by
    rcases c with ⟨_,c1,_⟩ | ⟨hv,_,c2,_⟩
    · omega
    · rcases h2.within with k | k
      · exact absurd k hv
      · omega
  have hnz:thi v'≤h'.length∧tlo v' < thi v':=by
    rcases c with ⟨_,c1,c2,c3⟩ | ⟨hv,c1,c2,c3⟩
    · omega
    · rcases h2.within with k | k
      · exact absurd k hv
      · omega
  refine ⟨v',h',e,g,fun x hx=>b x (by omega) ?_,vs++[w],?_,fun i hi'=>?_,fun i hi'=>?_,fun i j hij hj=>?_⟩
  · rcases h2.within with rfl | ⟨k1,k2,_⟩
    · exact .inr (Nat.zero_le _)
    · exact .inl (by omega)
  · rw [gRows_push hvl]
    exact o'.wide (by omega) hnz.1
  · by_cases hil:i < gs.length
    · have e1:(vs++[w]).getD i nilV=vs.getD i nilV:=by simp [List.getElem?_append_left (show i < vs.length by omega)]
      have e2:(gs++[(⟨l,z⟩:Gp)]).getD i g0=gs.getD i g0:=by simp [List.getElem?_append_left hil]
      rw [e1,e2]
      exact (same (h3 i hil) hhi (h4 i hil)).wide (Nat.le_refl _) (by omega)
    · have hil:i=gs.length:=by simp at hi';omega
      subst hil
      have e1:(vs++[w]).getD gs.length nilV=w:=by rw [← hvl];simp
      have e2:(gs++[(⟨l,z⟩:Gp)]).getD gs.length g0=⟨l,z⟩:=by simp
      rw [e1,e2]
      exact (same q hd2 hwsepv).wide hll (by omega)
  · by_cases hil:i < gs.length
    · have e1:(vs++[w]).getD i nilV=vs.getD i nilV:=by simp [List.getElem?_append_left (show i < vs.length by omega)]
      rw [e1];refine hv'sep (h4 i hil) ?_;rcases (h3 i hil).within with h | ⟨_,h,_⟩
      · exact .inl h
      · exact .inr (by omega)
    · have hil:i=gs.length:=by simp at hi';omega
      subst hil
      have e1:(vs++[w]).getD gs.length nilV=w:=by rw [← hvl];simp
      rw [e1];exact hv'sep hwsepv hwin
  · have hil:i < gs.length:=by simp at hj;omega
    have e1:(vs++[w]).getD i nilV=vs.getD i nilV:=by simp [List.getElem?_append_left (show i < vs.length by omega)]
    rw [e1]
    by_cases hjl:j < gs.length
    · have e2:(vs++[w]).getD j nilV=vs.getD j nilV:=by simp [List.getElem?_append_left (show j < vs.length by omega)]
      rw [e2];exact h5 i j hij hjl
    · have hjl:j=gs.length:=by simp at hj;omega
      subst hjl
      have e2:(vs++[w]).getD gs.length nilV=w:=by rw [← hvl];simp
      rw [e2];exact hws i hil
theorem OwnG.nil:OwnG h lo hi ty nilV []:=⟨[],Own.nil,fun i hi=>(by simp at hi),fun i hi=>(by simp at hi),fun i j _ hi=>(by simp at hi)⟩
theorem OwnG.cells' (o:OwnG h lo hi ty v gs):cellsOf v=some [v]:=by obtain ⟨vs,o,_⟩:=o;exact o.cells
end
end Go.Proofs.Ytafhipglhnfgnaa.Ab
set_option linter.unusedSimpArgs false
set_option linter.unusedVariables false
set_option linter.unnecessarySimpa false
set_option maxHeartbeats 4000000
namespace Go.Proofs.Ytafhipglhnfgnaa.Ab
open Go.RowKit
section
variable {α:Type} {s:ByteArray} {p q r:Nat × Bool} {l m:List Int}
def rdN (step:Nat × Bool→α × (Nat × Bool)):Nat→Nat × Bool→List α × (Nat × Bool)
  | 0,p=>([],p)
  | n+1,p=>if p.2=true then ([],p) else ((step p).1::(rdN step n (step p).2).1,(rdN step n (step p).2).2)
def RdTo (step:Nat × Bool→α × (Nat × Bool)) (n:Nat) (p0:Nat × Bool) (L:List α) (k:Nat) (p:Nat × Bool):Prop:=rdN step n p0=(L++(rdN step k p).1,(rdN step k p).2)
theorem RdTo.start {step:Nat × Bool→α × (Nat × Bool)} {n:Nat}:RdTo step n p [] n p:=by unfold RdTo;simp
theorem RdTo.next {step:Nat × Bool→α × (Nat × Bool)} {n k:Nat} {p0:Nat × Bool} {L:List α} (h:RdTo step n p0 L (k+1) p) (hp:p.2=false):RdTo step n p0 (L++[(step p).1]) k (step p).2:=by
  unfold RdTo at *;rw [h]
  have e:rdN step (k+1) p=((step p).1::(rdN step k (step p).2).1,(rdN step k (step p).2).2):=by
    rw [rdN,if_neg (by rw [hp];simp)]
  rw [e];simp
theorem RdTo.done {step:Nat × Bool→α × (Nat × Bool)} {n k:Nat} {p0:Nat × Bool} {L:List α} (h:RdTo step n p0 L k p) (hp:k=0∨p.2=true):rdN step n p0=(L,p):=by
  unfold RdTo at h;rw [h];rcases hp with rfl | hp
  · simp [rdN]
  · cases k with
    | zero=>simp [rdN]
    | succ k=>rw [rdN,if_pos hp];simp
theorem rdN_len {step:Nat × Bool→α × (Nat × Bool)}:∀ {n:Nat} {p:Nat × Bool},(rdN step n p).1.length≤n
  | 0,_=>Nat.le_refl 0
  | n+1,p=>by
    rw [rdN];split
    · exact Nat.zero_le _
    · have:=rdN_len (step:=step) (n:=n) (p:=(step p).2)
      simp only [List.length_cons];omega
theorem RdTo.len {step:Nat × Bool→α × (Nat × Bool)} {n k:Nat} {p0:Nat × Bool} {L:List α} (h:RdTo step n p0 L k p):L.length≤n:=by
  have h1:=rdN_len (step:=step) (n:=n) (p:=p0);unfold RdTo at h;rw [h] at h1;simp only [List.length_append] at h1;omega
theorem segN_append {a b c:Nat} (h1:a≤b) (h2:b≤c):segN s a c=segN s a b++segN s b c:=by
  unfold segN;rw [← List.map_append]
  congr 1
  have:=List.take_append_drop (b - a) ((s.data.toList.drop a).take (c - a))
  rw [List.take_take,Nat.min_eq_left (by omega),List.drop_take,List.drop_drop,show a+(b - a)=b by omega,show c - a - (b - a)=c - b by omega] at this
  exact this.symm
def bysOf (l:List Int):List Int:=l.flatMap fun n=>varL n.toNat
theorem bysOf_append:bysOf (l++m)=bysOf l++bysOf m:=by simp [bysOf]
def Rd (s:ByteArray) (p q:Nat × Bool) (l:List Int):Prop:=p.2=false∧q.2=false∧p.1≤q.1∧q.1≤s.size∧segN s p.1 q.1=bysOf l∧∀ x∈l,0≤x∧x≤1000000000
theorem Rd.nil (h:p.2=false) (hp:p.1≤s.size):Rd s p p []:=⟨h,h,Nat.le_refl _,hp,segN_nil,fun x hx=>absurd hx List.not_mem_nil⟩
theorem Rd.trans (a:Rd s p q l) (b:Rd s q r m):Rd s p r (l++m):=by
  obtain ⟨a1,a2,a3,a4,a5,a6⟩:=a;obtain ⟨b1,b2,b3,b4,b5,b6⟩:=b
  refine ⟨a1,b2,by omega,b4,?_,fun x hx=>(List.mem_append.1 hx).elim (a6 x) (b6 x)⟩
  rw [segN_append a3 b3,a5,b5,bysOf_append]
def eStep (s:ByteArray) (p:Nat × Bool):E × (Nat × Bool):=(⟨sV s p 0,sV s p 1,sV s p 2,sV s p 3,sV s p 4⟩,sS s p 5)
def cStep (s:ByteArray) (p:Nat × Bool):Cp × (Nat × Bool):=(⟨sV s p 0,sV s p 1⟩,sS s p 2)
def gStep (cap:Int→Nat) (s:ByteArray) (p:Nat × Bool):Gp × (Nat × Bool) :=
  (⟨(rdN (numStep s) (cap (numStep s p).1) (numStep s p).2).1,(numStep s (rdN (numStep s) (cap (numStep s p).1) (numStep s p).2).2).1⟩,(numStep s (rdN (numStep s) (cap (numStep s p).1) (numStep s p).2).2).2)
theorem Rd.le (a:Rd s p q l):p.1≤s.size:=by obtain ⟨_,_,h1,h2,_⟩:=a;omega
end
def rz (s:ByteArray):Int × (Nat × Bool):=numStep s (0,false)
def rne (s:ByteArray):Int × (Nat × Bool):=numStep s (rz s).2
def re (cap:Int→Nat) (s:ByteArray):List E × (Nat × Bool):=rdN (eStep s) (cap (rne s).1) (rne s).2
def rnm (cap:Int→Nat) (s:ByteArray):Int × (Nat × Bool):=numStep s (re cap s).2
def rm (cap:Int→Nat) (s:ByteArray):List Cp × (Nat × Bool):=rdN (cStep s) (cap (rnm cap s).1) (rnm cap s).2
def ry (cap:Int→Nat) (s:ByteArray):List Int × (Nat × Bool):=rdN (numStep s) (cap (rz s).1) (rm cap s).2
def rgn (cap:Int→Nat) (s:ByteArray):Int × (Nat × Bool):=numStep s (ry cap s).2
def rg (cap:Int→Nat) (s:ByteArray):List Gp × (Nat × Bool):=rdN (gStep cap s) (cap (rgn cap s).1) (rgn cap s).2
section
variable {s:ByteArray}
end
end Go.Proofs.Ytafhipglhnfgnaa.Ab
set_option linter.unusedSimpArgs false
set_option linter.unusedVariables false
set_option linter.unnecessarySimpa false
set_option maxHeartbeats 4000000
namespace Go.Proofs.Ytafhipglhnfgnaa.Ab
open Go.RowKit
def ExJ (id:Nat) (J:(Nat→Value)→(Nat→Option (List Value))→Heap→Prop) (e:Exit) (s:St):Prop:=e=.exit id∧s.al=(fun _=>none)∧J s.t s.loc s.h
section
variable {T:FuncId→Option Fun} {X:CallF} {t:Nat→Value} {loc:Nat→Option (List Value)} {h:Heap} {Q:Exit→St→Prop}
theorem w_measX {x : IR} (id : Nat) (N : Nat) (I : Nat → (Nat → Value) → (Nat → Option (List Value)) → Heap → Prop) (J : (Nat → Value) → (Nat → Option (List Value)) → Heap → Prop) (h1 : I N t loc h)
    (step:∀ (n:Nat) (t:Nat→Value) (loc:Nat→Option (List Value)) (h:Heap),I n t loc h→W T X x ⟨t,loc,fun _=>none,h⟩ (Mx n I (ExJ id J)))
    (rest:∀ (t:Nat→Value) (loc:Nat→Option (List Value)) (h:Heap),J t loc h→Q (.exit id) ⟨t,loc,fun _=>none,h⟩):W T X (.loop x) ⟨t,loc,fun _=>none,h⟩ Q:=by
  refine (w_meas N I h1 step).mono T X ?_;rintro e ⟨t,loc,al,h⟩ ⟨rfl,rfl,hj⟩;exact rest t loc h hj
theorem exj_exit {id:Nat} {J:(Nat→Value)→(Nat→Option (List Value))→Heap→Prop}:ExJ id J (.exit id) ⟨t,loc,fun _=>none,h⟩↔J t loc h:=⟨fun h=>h.2.2,fun h=>⟨rfl,rfl,h⟩⟩
end
attribute [go_sem ↓] exj_exit
structure Rdr (b:Nat) (ty:TypeId) (s:ByteArray) (h0 h':Heap) (p:Nat × Bool):Prop where
  len:h0.length≤h'.length
  old:∀ c,c < h0.length→c≠b→h'[c]?=h0[c]?
  at_:h'[b]?=some (rdB ty s p)
  le:p.1≤s.size
section
variable {b lo hi sz:Nat} {ty ty':TypeId} {s:ByteArray} {h0 h1 h2 h':Heap} {p q:Nat × Bool} {v:Value} {rws:List (List Value)} {gs:List Gp}
theorem Rdr.refl (hb:h0[b]?=some (rdB ty s p)) (hp:p.1≤s.size):Rdr b ty s h0 h0 p:=⟨Nat.le_refl _,fun _ _ _=>rfl,hb,hp⟩
theorem Rdr.trans (a:Rdr b ty s h0 h1 p) (c:Rdr b ty s h1 h2 q):Rdr b ty s h0 h2 q :=
  ⟨Nat.le_trans a.len c.len,fun i hi hb=>by rw [c.old i (by have:=a.len;omega) hb,a.old i hi hb],c.at_,c.le⟩
theorem Rdr.push (a:Rdr b ty s h0 h' p) (hb:b < h0.length) (hl:h'.length≤h1.length) (hk:∀ c,c < h0.length→h1[c]?=h'[c]?):Rdr b ty s h0 h1 p :=
  ⟨Nat.le_trans a.len hl,fun i hi hne=>by rw [hk i hi];exact a.old i hi hne,by rw [hk b hb];exact a.at_,a.le⟩
end
section
variable {X:CallF} {b:Nat} {s:ByteArray} {h0 h':Heap} {p:Nat × Bool}
end
section
variable {h hh:Heap} {sz:Nat} {ty:TypeId} {v:Value} {gs:List Gp}
theorem Own.flatP {lo hi:Nat} {rws:List (List Value)} (o:Own h lo hi sz ty v rws) (hf:prim v=true) {h2:Heap} {lo2 hi2:Nat}:Own h2 lo2 hi2 sz ty v rws:=by
  rcases o.is with ⟨rfl,rfl⟩ | ⟨b,_,_,rfl,_⟩
  · exact Own.nil
  · simp [prim] at hf
end
end Go.Proofs.Ytafhipglhnfgnaa.Ab
set_option linter.unusedSimpArgs false
set_option linter.unusedVariables false
set_option linter.unnecessarySimpa false
set_option maxHeartbeats 4000000
namespace Go.Proofs.Ytafhipglhnfgnaa.Ab
open Go.RowKit
def curB (cv:Value) (i:Nat) (x:Int):Blk:=⟨[cv,.int .i64 (i:Nat),.int .i64 x],3,y_l01Cur,true⟩
section
variable {h:Heap} {b i:Nat} {cv:Value} {x:Int}
theorem ck_fa (hb:h[b]?=some (curB cv i x)) {k:Nat}:faV h (pk b 0) k=some (pk b k):=by simp [faV,pk,hb,curB]
theorem ck_chk (hb:h[b]?=some (curB cv i x)):chkV h (pk b 0)=some (pk b 0):=by simp [chkV,ldC,pk,hb,curB]
theorem ck_ld0 (hb:h[b]?=some (curB cv i x)):ldC h (pk b 0) 1=some [cv]:=by simp [ldC,pk,hb,curB]
theorem ck_ld1 (hb:h[b]?=some (curB cv i x)):ldC h (pk b 1) 1=some [.int .i64 (i:Nat)]:=by simp [ldC,pk,hb,curB]
theorem ck_ld2 (hb:h[b]?=some (curB cv i x)):ldC h (pk b 2) 1=some [.int .i64 x]:=by simp [ldC,pk,hb,curB]
theorem ck_st1 (hb:h[b]?=some (curB cv i x)) {n:Nat}:stC h (pk b 1) [.int .i64 (n:Int)]=some (h.set b (curB cv n x)):=by simp [stC,pk,hb,curB,putAt]
theorem ck_st2 (hb:h[b]?=some (curB cv i x)) {y:Int}:stC h (pk b 2) [.int .i64 y]=some (h.set b (curB cv i y)):=by simp [stC,pk,hb,curB,putAt]
theorem ck_set (hb:h[b]?=some (curB cv i x)) {j:Nat} {y:Int}:(h.set b (curB cv j y))[b]?=some (curB cv j y):=List.getElem?_set_self (lt_of_get hb)
theorem set_same {y:Blk}:Same b (b+1) h (h.set b y):=⟨List.length_set ..,fun c hc=>List.getElem?_set_ne (by omega)⟩
end
structure Dr (B:Heap) (b:Nat) (cv:Value) (l:List Int) (h:Heap):Prop where
  base:B <+: h
  code:Rows B 1 cv (bys l)
  below:B.length≤b
  len:l.length≤lim
  cur:∃ (i:Nat) (x:Int),i≤l.length∧h[b]?=some (curB cv i x)
structure Fr' (b:Nat) (h hh:Heap):Prop where
  len:h.length≤hh.length
  old:∀ c,c < h.length→c≠b→hh[c]?=h[c]?
section
variable {B h h1 h2 h3:Heap} {b lo hi sz:Nat} {cv v:Value} {l:List Int} {ty:TypeId} {rws:List (List Value)}
theorem Dr.lt (d:Dr B b cv l h):b < h.length:=by obtain ⟨i,x,_,q⟩:=d.cur;exact lt_of_get q
theorem Fr'.refl:Fr' b h h:=⟨Nat.le_refl _,fun _ _ _=>rfl⟩
theorem Fr'.trans (a:Fr' b h h1) (c:Fr' b h1 h2):Fr' b h h2:=⟨Nat.le_trans a.len c.len,fun i hi hb=>by rw [c.old i (by have:=a.len;omega) hb,a.old i hi hb]⟩
theorem Fr'.same (s:Same b (b+1) h h1):Fr' b h h1:=⟨by rw [s.len];exact Nat.le_refl _,fun c _ hb=>s.blk c (by omega)⟩
theorem Fr'.pre (hp:h <+: h1):Fr' b h h1:=⟨pre_len hp,fun c hc _=>get_of_pre hp hc⟩
theorem Fr'.push (hl:h.length≤h1.length) (hk:∀ c,c < h.length→h1[c]?=h[c]?):Fr' b h h1:=⟨hl,fun c hc _=>hk c hc⟩
theorem Own.fr (o:Own h lo hi sz ty v rws) (a:Fr' b h h1) (hb:b < lo) (hh:hi≤h.length):Own h1 lo hi sz ty v rws:=by
  refine ⟨o.len,?_⟩;rcases o.is with hn | ⟨c,l1,l2,rfl,hc⟩
  · exact .inl hn
  · exact .inr ⟨c,l1,l2,rfl,by rw [a.old c (by omega) (by omega)];exact hc⟩
theorem Fr'.up (a:Fr' b h h1) {g:Heap} (hp:g <+: h) (hb:g.length≤b):g <+: h1 :=
  pre_of_get (Nat.le_trans (pre_len hp) a.len) fun c hc=>by rw [a.old c (by have:=pre_len hp;omega) (by omega),get_of_pre hp hc]
theorem fin_fr (d0:Dr B b cv l h) (d:Dr B b cv l h1) (a:Fr' b h h1):Dr B b cv l (finish h (v,h1)).2∧Fr' b h (finish h (v,h1)).2:=by
  unfold finish;split
  · exact ⟨d0,.refl⟩
  · exact ⟨d,a⟩
end
theorem and255 (a:Int):0≤andI .i64 a 255∧andI .i64 a 255≤255:=by
  unfold andI
  have h2:(BitVec.ofInt 64 255).toNat=255:=by rfl
  have h1:(BitVec.ofInt 64 a &&& BitVec.ofInt 64 255).toNat≤255:=by
    rw [BitVec.toNat_and,h2];exact Nat.and_le_right
  have e:andI .i64 a 255=IntKind.i64.wrap (((BitVec.ofInt 64 a &&& BitVec.ofInt 64 255).toNat:Nat):Int):=rfl
  have w:=w64 (n:=(((BitVec.ofInt 64 a &&& BitVec.ofInt 64 255).toNat:Nat):Int)) (by omega) (by omega)
  show 0≤IntKind.i64.wrap (((BitVec.ofInt 64 a &&& BitVec.ofInt 64 255).toNat:Nat):Int)∧IntKind.i64.wrap (((BitVec.ofInt 64 a &&& BitVec.ofInt 64 255).toNat:Nat):Int)≤255;rw [w];omega
section
variable {X:CallF} {B h:Heap} {b:Nat} {cv:Value} {l:List Int}
theorem byt_el (d:Dr B b cv l h) {i:Nat} (hi:i < l.length):iaV h 1 cv (.int .i64 (i:Int))=some (elemP cv 1 i 0)∧ldC h (elemP cv 1 i 0) 1=some [.int .u8 (l.getD i 0)] :=
  ⟨(Rows.el (f:=fun n=>[Value.int .u8 n]) (d.code.up d.base) 0 hi).1,(Rows.el (f:=fun n=>[Value.int .u8 n]) (d.code.up d.base) 0 hi).2.2⟩
theorem k_l01Byte (d:Dr B b cv l h):∃ x hh,C T X n_spec_l01Byte [pk b 0] h=some (.int .i64 x,hh)∧Dr B b cv l hh∧Same b (b+1) h hh∧0≤x∧x≤255:=by
  suffices hx:∃ w hh,C T X n_spec_l01Byte [pk b 0] h=some (w,hh)∧∃ x,w=.int .i64 x∧Dr B b cv l hh∧Same b (b+1) h hh∧0≤x∧x≤255 by
    obtain ⟨w,hh,c,x,rfl,r⟩:=hx;exact ⟨x,hh,c,r⟩
  refine C_ex t_spec_l01Byte rfl ?_;obtain ⟨i,x,hi,hb⟩:=d.cur
  have hlen:lnV h cv=some (.int .i64 (l.length:Int)):=by rw [(d.code.up d.base).ln,bys_len]
  have hbl:=lt_of_get hb;unfold F_spec_l01Byte;obtain ⟨y,hy⟩:∃ y,y=IntKind.i64.wrap (IntKind.i64.wrap (x*6364136223846793005)+1442695040888963407):=⟨_,rfl⟩;have hb1:=ck_set (j:=i) (y:=y) hb;obtain ⟨h1,hh1⟩:∃ h1,h1=h.set b (curB cv i y):=⟨_,rfl⟩
  have s1:Same b (b+1) h h1:=by rw [hh1];exact set_same
  have st1:stC h (pk b 2) [.int .i64 y]=some h1:=by rw [hh1];exact ck_st2 hb
  rw [← hh1] at hb1;have d1:Dr B b cv l h1:=⟨s1.pre d.base d.below,d.code,d.below,d.len,i,y,hi,hb1⟩
  have hlen1:lnV h1 cv=some (.int .i64 (l.length:Int)):=by rw [(d1.code.up d1.base).ln,bys_len]
  simp only [ck_chk hb,ck_fa hb,ck_ld2 hb,← hy,st1,ck_chk hb1,ck_fa hb1,ck_ld0 hb1,ck_ld1 hb1,ck_ld2 hb1,hlen1,go_sem]
  refine w_open (by simp only [go_sem];rfl) ?_ ?_<;>intro hc
  · have hi1:i < l.length:=by omega
    have el:=byt_el d1 hi1;have hlm:=d.len;unfold lim at hlm
    have hw:IntKind.i64.wrap ((i:Int)+1)=((i+1:Nat):Int):=w64 (by omega) (by omega)
    have hb2:=ck_set (j:=i+1) (y:=y) hb1;obtain ⟨h2,hh2⟩:∃ h2,h2=h1.set b (curB cv (i+1) y):=⟨_,rfl⟩
    have s2:Same b (b+1) h1 h2:=by rw [hh2];exact set_same
    have st2:stC h1 (pk b 1) [.int .i64 ((i+1:Nat):Int)]=some h2:=by rw [hh2];exact ck_st1 hb1
    rw [← hh2] at hb2
    have d2:Dr B b cv l h2:=⟨s2.pre d1.base d.below,d.code,d.below,d.len,i+1,y,by omega,hb2⟩
    simp only [ck_chk hb1,ck_fa hb1,ck_ld0 hb1,ck_ld1 hb1,el.1,el.2,hw,st2,go_sem]
    rw [finish_room (by rw [s2.len,s1.len])]
    exact ⟨_,rfl,d2,s1.trans s2,and255 _⟩
  · simp only [go_sem]
    rw [finish_room s1.len];exact ⟨_,rfl,d1,s1,and255 _⟩
theorem tmod_rng {a n:Int} (h0:0≤a) (hn:0 < n):0≤a.tmod n∧a.tmod n < n:=by
  rw [Int.tmod_eq_emod_of_nonneg h0]
  exact ⟨Int.emod_nonneg _ (by omega),Int.emod_lt_of_pos _ hn⟩
theorem k_l01Below (d:Dr B b cv l h) (n:Int):∃ x hh,C T X n_spec_l01Below [pk b 0,.int .i64 n] h=some (.int .i64 x,hh)∧Dr B b cv l hh∧Same b (b+1) h hh∧0≤x∧(0 < n→x < n)∧(n≤0→x=0):=by
  suffices hx:∃ w hh,C T X n_spec_l01Below [pk b 0,.int .i64 n] h=some (w,hh)∧∃ x,w=.int .i64 x∧Dr B b cv l hh∧Same b (b+1) h hh∧0≤x∧(0 < n→x < n)∧(n≤0→x=0) by
    obtain ⟨w,hh,c,x,rfl,r⟩:=hx;exact ⟨x,hh,c,r⟩
  refine C_ex t_spec_l01Below rfl ?_;unfold F_spec_l01Below
  by_cases h0:n≤0
  · simp only [h0,go_sem]
    exact ⟨0,rfl,d,Same.refl,by omega,fun q=>by omega,fun _=>rfl⟩
  by_cases h1:n≤256
  · obtain ⟨x,h1',c1,d1,s1,x0,x1⟩:=k_l01Byte (X:=X) d
    have hne:n≠0:=by omega
    have r:=tmod_rng (a:=x) (n:=n) x0 (by omega)
    simp only [h0,h1,c1,hne,go_sem];rw [finish_room s1.len]
    exact ⟨_,rfl,d1,s1,r.1,fun _=>r.2,fun q=>by first | exact q.elim | omega⟩
  obtain ⟨x,h1',c1,d1,s1,x0,x1⟩:=k_l01Byte (X:=X) d;obtain ⟨y,h2',c2,d2,s2,y0,y1⟩:=k_l01Byte (X:=X) d1;obtain ⟨z,h3',c3,d3,s3,z0,z1⟩:=k_l01Byte (X:=X) d2;obtain ⟨w,h4',c4,d4,s4,w0,w1⟩:=k_l01Byte (X:=X) d3
  have hne:n≠0:=by omega
  have e1:IntKind.i64.wrap (x*16777216)=x*16777216:=w64 (by omega) (by omega)
  have e2:IntKind.i64.wrap (y*65536)=y*65536:=w64 (by omega) (by omega)
  have e3:IntKind.i64.wrap (z*256)=z*256:=w64 (by omega) (by omega)
  have e4:IntKind.i64.wrap (x*16777216+y*65536)=x*16777216+y*65536:=w64 (by omega) (by omega)
  have e5:IntKind.i64.wrap (x*16777216+y*65536+z*256)=x*16777216+y*65536+z*256:=w64 (by omega) (by omega)
  have e6:IntKind.i64.wrap (x*16777216+y*65536+z*256+w)=x*16777216+y*65536+z*256+w:=w64 (by omega) (by omega)
  have r:=tmod_rng (a:=x*16777216+y*65536+z*256+w) (n:=n) (by omega) (by omega)
  simp only [h0,h1,c1,c2,c3,c4,e1,e2,e3,e4,e5,e6,hne,go_sem]
  rw [finish_room (by rw [s4.len,s3.len,s2.len,s1.len])]
  exact ⟨_,rfl,d4,((s1.trans s2).trans s3).trans s4,r.1,fun _=>r.2,fun q=>by first | exact q.elim | omega⟩
theorem k_l01Once (d:Dr B b cv l h) (n:Int):∃ (x:Bool) (hh:Heap),C T X n_spec_l01Once [pk b 0,.int .i64 n] h=some (.bool x,hh)∧Dr B b cv l hh∧Same b (b+1) h hh:=by
  suffices hx:∃ w hh,C T X n_spec_l01Once [pk b 0,.int .i64 n] h=some (w,hh)∧∃ x:Bool,w=.bool x∧Dr B b cv l hh∧Same b (b+1) h hh by
    obtain ⟨w,hh,c,x,rfl,r⟩:=hx;exact ⟨x,hh,c,r⟩
  refine C_ex t_spec_l01Once rfl ?_;unfold F_spec_l01Once;obtain ⟨x,h1,c1,d1,s1,_⟩:=k_l01Below (X:=X) d n;simp only [c1,go_sem];rw [finish_room s1.len];exact ⟨_,rfl,d1,s1⟩
theorem k_l01PickInt (d:Dr B b cv l h) {lv:Value} {L:List Int} {lo hi:Nat} {ty:TypeId} (o:Own h lo hi 1 ty lv (ints L)) (hb:b < lo) (hL:0 < L.length) (hl:L.length≤lim):∃ x hh,C T X n_spec_l01PickInt [pk b 0,lv] h=some (.int .i64 x,hh)∧Dr B b cv l hh∧Same b (b+1) h hh∧x∈L:=by
  suffices hx:∃ w hh,C T X n_spec_l01PickInt [pk b 0,lv] h=some (w,hh)∧∃ x,w=.int .i64 x∧Dr B b cv l hh∧Same b (b+1) h hh∧x∈L by
    obtain ⟨w,hh,c,x,rfl,r⟩:=hx;exact ⟨x,hh,c,r⟩
  refine C_ex t_spec_l01PickInt rfl ?_;unfold F_spec_l01PickInt;obtain ⟨x,h1,c1,d1,s1,x0,x1,_⟩:=k_l01Below (X:=X) d (L.length:Int);obtain ⟨k,rfl⟩:=Int.eq_ofNat_of_zero_le x0
  have hk:k < L.length:=by have:=x1 (by omega);omega
  have o1:=o.same s1 (.inr (by omega))
  have el:=int_el o1.rows hk;simp only [ints_ln o.rows,c1,el.1,el.2,go_sem];rw [finish_room s1.len];exact ⟨_,rfl,d1,s1,getD_mem hk⟩
theorem k_l01New (hc:Rows h 1 cv (bys l)) (hl:l.length≤1048576):∃ x:Int,C T X n_spec_l01New [cv] h=some (pk h.length 0,h++[curB cv 0 x]):=by
  suffices hx:∃ w hh,C T X n_spec_l01New [cv] h=some (w,hh)∧w=pk h.length 0∧∃ x:Int,hh=h++[curB cv 0 x] by
    obtain ⟨w,hh,c,rfl,x,rfl⟩:=hx;exact ⟨x,c⟩
  refine C_ex t_spec_l01New rfl ?_;unfold F_spec_l01New
  have hln:lnV h cv=some (.int .i64 (l.length:Int)):=by rw [hc.ln,bys_len]
  simp only [hln,go_sem]
  refine w_measX 0 l.length (fun m t loc h'=>h'=h∧t 0=cv∧∃ (i:Nat),∃ x:Int,m+i=l.length∧t 4=.int .i64 (i:Nat)∧t 3=.int .i64 x) (fun t loc h'=>h'=h∧t 0=cv∧∃ x:Int,t 3=.int .i64 x) ⟨rfl,rfl,0,_,rfl,rfl,rfl⟩ ?_ ?_
  · rintro m t loc h' ⟨rfl,t0,i,x,hm,t4,t3⟩
    by_cases h1:(i:Int) < (l.length:Int)
    · have hi1:i < l.length:=by omega
      have el1:=(Rows.el (f:=fun n=>[Value.int .u8 n]) hc 0 hi1).1
      have el2:=(Rows.el (f:=fun n=>[Value.int .u8 n]) hc 0 hi1).2.2
      have hw:IntKind.i64.wrap ((i:Int)+1)=((i+1:Nat):Int):=w64 (by omega) (by omega)
      by_cases h2:(i:Int) < 4000
      · simp only [t0,t3,t4,hln,h1,h2,el1,el2,hw,go_sem]
        exact ⟨m - 1,by omega,i+1,_,by omega,rfl,rfl⟩
      · simp only [t0,t3,t4,hln,h1,h2,go_sem]
        exact ⟨_,rfl⟩
    · simp only [t0,t3,t4,hln,h1,go_sem]
      exact ⟨_,rfl⟩
  · rintro t loc h' ⟨rfl,t0,x,t3⟩
    have hb:bxW h' y_l01Cur 3 (.agg ⟨[cv,.int .i64 0,.int .i64 x]⟩)=some (pk h'.length 0,h'++[curB cv 0 x]):=rfl;simp only [t0,t3,hc.cells,hb,go_sem];rw [finish_deep rfl];exact ⟨rfl,rfl,x,rfl⟩
end
end Go.Proofs.Ytafhipglhnfgnaa.Ab
set_option linter.unusedSimpArgs false
set_option linter.unusedVariables false
set_option linter.unnecessarySimpa false
set_option maxHeartbeats 4000000
namespace Go.Proofs.Ytafhipglhnfgnaa.Ab
open Go.RowKit
def ExN (J:(Nat→Value)→(Nat→Option (List Value))→Heap→Prop) (e:Exit) (s:St):Prop:=e=.normal∧s.al=(fun _=>none)∧J s.t s.loc s.h
section
variable {T:FuncId→Option Fun} {X:CallF} {t:Nat→Value} {loc:Nat→Option (List Value)} {h:Heap} {Q:Exit→St→Prop}
theorem exn_normal {J:(Nat→Value)→(Nat→Option (List Value))→Heap→Prop}:ExN J .normal ⟨t,loc,fun _=>none,h⟩↔J t loc h:=⟨fun h=>h.2.2,fun h=>⟨rfl,rfl,h⟩⟩
end
attribute [go_sem ↓] exn_normal
section
variable {X:CallF} {B h:Heap} {b:Nat} {cv:Value} {l:List Int}
theorem Dr.same {h1:Heap} (d:Dr B b cv l h) (a:Fr' b h h1) (hb:∃ (i:Nat) (x:Int),i≤l.length∧h1[b]?=some (curB cv i x)):Dr B b cv l h1:=⟨a.up d.base d.below,d.code,d.below,d.len,hb⟩
theorem Dr.up {h1:Heap} (d:Dr B b cv l h) (hp:h <+: h1):Dr B b cv l h1:=by
  obtain ⟨i,x,hi,hb⟩:=d.cur;exact ⟨d.base.trans hp,d.code,d.below,d.len,i,x,hi,pre_get hp hb⟩
theorem Dr.push {h1:Heap} (d:Dr B b cv l h) (hl:h.length≤h1.length) (hk:∀ c,c < h.length→h1[c]?=h[c]?):Dr B b cv l h1:=d.up (pre_of_get hl hk)
theorem pick_lit (d:Dr B b cv l h) (L:List Int) (hL:0 < L.length) (hl:L.length≤lim):∃ x hh,C T X n_spec_l01PickInt [pk b 0,.slice (some ⟨h.length,0,none⟩) L.length L.length] (h++[⟨L.map fun n=>.int .i64 n,1,y_int,true⟩])=some (.int .i64 x,hh)∧Dr B b cv l hh∧Fr' b h hh∧x∈L:=by
  have hp:h <+: h++[⟨L.map fun n=>.int .i64 n,1,y_int,true⟩]:=List.prefix_append _ _
  have o:Own (h++[⟨L.map fun n=>.int .i64 n,1,y_int,true⟩]) h.length (h.length+1) 1 y_int (.slice (some ⟨h.length,0,none⟩) L.length L.length) (ints L):=by
    have:=Own.made (h:=h) (ty:=y_int) (rws:=ints L) ints_row;rw [ints_len,ints_flat] at this;exact this
  obtain ⟨x,hh,c,d1,s,hx⟩:=k_l01PickInt (X:=X) (d.up hp) o d.lt hL hl;exact ⟨x,hh,c,d1,(Fr'.pre hp).trans (Fr'.same s),hx⟩
end
end Go.Proofs.Ytafhipglhnfgnaa.Ab
set_option linter.unusedSimpArgs false
set_option linter.unusedVariables false
set_option linter.unnecessarySimpa false
set_option maxHeartbeats 4000000
namespace Go.Proofs.Ytafhipglhnfgnaa.Ab
open Go.RowKit
section
variable {X:CallF} {B h h2 h3:Heap} {b:Nat} {cv:Value} {l:List Int}
theorem Fr'.push2 (f:Fr' b h h2) (hl:h2.length≤h3.length) (hk:∀ c,c < h.length→h3[c]?=h2[c]?):Fr' b h h3 :=
  ⟨Nat.le_trans f.len hl,fun c hc hne=>by rw [hk c hc,f.old c hc hne]⟩
theorem Dr.push2 (d0:Dr B b cv l h) (d:Dr B b cv l h2) (f:Fr' b h h3) (hk:∀ c,c < h.length→h3[c]?=h2[c]?):Dr B b cv l h3:=by
  obtain ⟨i,x,hi,hb⟩:=d.cur
  exact d0.same f ⟨i,x,hi,by rw [hk b d0.lt];exact hb⟩
end
end Go.Proofs.Ytafhipglhnfgnaa.Ab
set_option linter.unusedSimpArgs false
set_option linter.unusedVariables false
set_option linter.unnecessarySimpa false
set_option maxHeartbeats 4000000
namespace Go.Proofs.Ytafhipglhnfgnaa.Ab
open Go.RowKit
section
variable {X:CallF} {h:Heap} {cv:Value} {l:List Int}
theorem dr_new (hc:Rows h 1 cv (bys l)) (hl:l.length≤1048576) {x:Int}:Dr h h.length cv l (h++[curB cv 0 x]) :=
  ⟨List.prefix_append _ _,hc,Nat.le_refl _,by unfold lim;omega,0,x,Nat.zero_le _,by simp⟩
theorem dr_pre {hh:Heap} (a:Fr' h.length h hh):h <+: hh:=a.up (List.prefix_refl h) (Nat.le_refl _)
end
end Go.Proofs.Ytafhipglhnfgnaa.Ab
set_option linter.unusedSimpArgs false
set_option linter.unusedVariables false
set_option linter.unnecessarySimpa false
set_option maxHeartbeats 4000000
namespace Go.Proofs.Ytafhipglhnfgnaa.Ab
open Go.RowKit
structure GTo (n a b:Nat) (es:List E):Prop where
  ok:∀ i,i < es.length→EOk n (es.getD i e0)∧(0 < i→ELt (es.getD (i - 1) e0) (es.getD i e0))
  lt:∀ e∈es,e.a < a∨(e.a=a∧e.b < b)
  few:es.length≤10*a+b
theorem GTo.push {n a b:Nat} {es:List E} {e:E} (g:GTo n a b es) (he:EOk n e) (ha:e.a=a) (hb:e.b=b):GTo n a (b+1) (es++[e]):=by
  refine ⟨fun i hi=>?_,fun x hx=>?_,by have:=g.few;simp;omega⟩
  · by_cases hl:i < es.length
    · have e1:(es++[e]).getD i e0=es.getD i e0:=by simp [List.getElem?_append_left hl]
      have e2:(es++[e]).getD (i - 1) e0=es.getD (i - 1) e0:=by simp [List.getElem?_append_left (show i - 1 < es.length by omega)]
      rw [e1,e2];exact g.ok i hl
    · have hil:i=es.length:=by simp at hi;omega
      subst hil
      have e1:(es++[e]).getD es.length e0=e:=by simp
      rw [e1]
      refine ⟨he,fun h0=>?_⟩
      have e2:(es++[e]).getD (es.length - 1) e0=es.getD (es.length - 1) e0:=by simp [List.getElem?_append_left (show es.length - 1 < es.length by omega)]
      rw [e2]
      have:=g.lt _ (getD_mem (d:=e0) (show es.length - 1 < es.length by omega))
      unfold ELt;omega
  · rcases List.mem_append.1 hx with q | q
    · have:=g.lt x q;omega
    · rw [List.mem_singleton.1 q];omega
theorem GTo.skip {n a b:Nat} {es:List E} (g:GTo n a b es):GTo n a (b+1) es:=⟨g.ok,fun x hx=>by have:=g.lt x hx;omega,by have:=g.few;omega⟩
theorem GTo.row {n a b:Nat} {es:List E} (g:GTo n a b es) (hb:b≤12):GTo n (a+1) (a+2) es:=⟨g.ok,fun x hx=>by have:=g.lt x hx;omega,by have:=g.few;omega⟩
section
variable {X:CallF} {B h:Heap} {b:Nat} {cv:Value} {l:List Int}
theorem k_l08Graph (d:Dr B b cv l h):∃ (n:Nat) (es:List E) (ev:Value) (hh:Heap),C T X n_spec_l08Graph [pk b 0] h=some (graphV n ev,hh)∧GOk n es∧Own hh h.length hh.length 5 y_Edge ev (edges es)∧Dr B b cv l hh∧Fr' b h hh:=by
  suffices hx:∃ w hh,C T X n_spec_l08Graph [pk b 0] h=some (w,hh)∧∃ (n:Nat) (es:List E) (ev:Value),w=graphV n ev∧GOk n es∧Own hh h.length hh.length 5 y_Edge ev (edges es)∧Dr B b cv l hh∧Fr' b h hh by
    obtain ⟨w,hh,c,n,es,ev,rfl,r⟩:=hx;exact ⟨n,es,ev,hh,c,r⟩
  refine C_ex t_spec_l08Graph rfl ?_;unfold F_spec_l08Graph;obtain ⟨z,h1,c1,d1,s1,z0,z1,_⟩:=k_l01Below (X:=X) d 10;obtain ⟨n,rfl⟩:=Int.eq_ofNat_of_zero_le z0
  have hn:n≤9:=by have:=z1 (by omega);omega
  obtain ⟨ds,h2,c2,d2,s2,ds0,ds1,_⟩:=k_l01Below (X:=X) d1 3
  have hds:=ds1 (by omega)
  have hwd:IntKind.i64.wrap (1+ds)=1+ds:=w64 (by omega) (by omega)
  obtain ⟨most,h3,c3,d3,f3,hmost⟩:=pick_lit (X:=X) d2 [2,4,51] (by simp) (by unfold lim;simp)
  simp only [List.map_cons,List.map_nil,List.length_cons,List.length_nil,Nat.zero_add,Nat.reduceAdd] at c3
  have hm51:0 < most∧most≤51:=by
    simp only [List.mem_cons,List.not_mem_nil,or_false] at hmost;omega
  have F3:Fr' b h h3:=((Fr'.same s1).trans (Fr'.same s2)).trans f3;have hbl:=d.lt;simp only [c1,c2,hwd,zeros,fillAt,c3,go_sem]
  refine w_for n (fun a t loc h'=>t 0=pk b 0∧loc 2=some [.int .i64 0,nilV]∧t 4=.int .i64 (1+ds)∧t 5=.int .i64 most∧t 6=.int .i64 a∧∃ es v,loc 3=some [.int .i64 (n:Nat),v]∧GTo n a (a+1) es∧Dr B b cv l h'∧Fr' b h h'∧Own h' h.length h'.length 5 y_Edge v (edges es))
    ⟨rfl,rfl,rfl,rfl,rfl,[],_,rfl,⟨fun i hi=>by simp at hi,fun e he=>absurd he List.not_mem_nil,Nat.zero_le _⟩,d3,F3,Own.nil⟩ ?_
  rintro a t loc h4 ha ⟨t0,l2,t4,t5,t6,es,v,l3,g,d4,f4,o⟩;simp only [l3,t6,go_sem]
  refine w_open (by simp only [go_sem];rfl) ?_ ?_<;>intro hc
  · have ha1:a < n:=by omega
    have hw:IntKind.i64.wrap ((a:Int)+1)=((a+1:Nat):Int):=w64 (by omega) (by omega)
    simp only [t0,l2,l3,t4,t5,t6,hw,go_sem]
    refine w_meas (n - a) (fun m t loc h'=>t 0=pk b 0∧loc 2=some [.int .i64 0,nilV]∧t 4=.int .i64 (1+ds)∧t 5=.int .i64 most∧t 6=.int .i64 a∧∃ (c:Nat),∃ es v,m+c=n+1∧a < c∧c≤n∧t 7=.int .i64 (c:Nat)∧loc 3=some [.int .i64 (n:Nat),v]∧GTo n a c es∧Dr B b cv l h'∧Fr' b h h'∧Own h' h.length h'.length 5 y_Edge v (edges es))
      ⟨rfl,rfl,rfl,rfl,rfl,a+1,es,v,by omega,by omega,by omega,rfl,rfl,g,d4,f4,o⟩ ?_
    rintro m t loc h5 ⟨t0,l2,t4,t5,t6,c,es,v,hm,hac,hcn,t7,l3,g,d5,f5,o⟩;simp only [l3,t7,go_sem]
    refine w_open (by simp only [go_sem];rfl) ?_ ?_<;>intro hc
    · have hc1:c < n:=by omega
      have hw:IntKind.i64.wrap ((c:Int)+1)=((c+1:Nat):Int):=w64 (by omega) (by omega)
      have hwo:IntKind.i64.wrap (1+ds+1)=1+ds+1:=w64 (by omega) (by omega)
      obtain ⟨y,h6,c6,d6,s6⟩:=k_l01Once (X:=X) d5 (1+ds+1);have f6:=f5.trans (Fr'.same s6)
      have o6:Own h6 h.length h6.length 5 y_Edge v (edges es):=by
        rw [s6.len]
        exact o.same s6 (.inr (by omega))
      have hfew:=g.few
      cases y with
      | false =>
        obtain ⟨x1,h7,c7,d7,s7,x10,x11,_⟩:=k_l01Below (X:=X) d6 most;obtain ⟨x2,h8,c8,d8,s8,x20,x21,_⟩:=k_l01Below (X:=X) d7 most;obtain ⟨x3,h9,c9,d9,s9,x30,x31,_⟩:=k_l01Below (X:=X) d8 most
        have y1:=x11 (by omega)
        have y2:=x21 (by omega)
        have y3:=x31 (by omega)
        have f9:=((f6.trans (Fr'.same s7)).trans (Fr'.same s8)).trans (Fr'.same s9)
        have o9:Own h9 h.length h9.length 5 y_Edge v (edges es):=by
          rw [s9.len,s8.len,s7.len]
          exact ((o6.same s7 (.inr (by omega))).same s8 (.inr (by omega))).same s9 (.inr (by omega))
        by_cases q4:most=4
        · obtain ⟨v2,hx,cx,q1,q2,ox⟩:=o9.push1 f9.len (edgeR ⟨(a:Int),(c:Int),x1,0,0⟩) rfl (by rw [List.length_map];unfold lim;omega)
          rw [Nat.max_eq_right q1] at ox
          have fx:=f9.push2 q1 (fun c hc=>q2 c (.inl hc))
          have dx:=d.push2 d9 fx (fun c hc=>q2 c (.inl hc))
          unfold edgeR at cx;rw [q4] at c7 c8 c9 t5;simp only [t0,l2,l3,t4,t5,t6,t7,hwo,c6,c7,c8,c9,zeros,fillAt,cx,ox.cells,hw,go_sem]
          refine ⟨m - 1,by omega,?_,c+1,es++[⟨(a:Int),(c:Int),x1,0,0⟩],v2,by omega,by omega,by omega,rfl,rfl,g.push ⟨by simp only;omega,by simp only;omega,by simp only;omega,by simp only;omega,by simp only;omega,by simp,by simp,by simp,by simp⟩ rfl rfl,dx,fx,by simpa using ox⟩
          rw [q4]
        · obtain ⟨v2,hx,cx,q1,q2,ox⟩:=o9.push1 f9.len (edgeR ⟨(a:Int),(c:Int),x1,x2,x3⟩) rfl (by rw [List.length_map];unfold lim;omega)
          rw [Nat.max_eq_right q1] at ox
          have fx:=f9.push2 q1 (fun c hc=>q2 c (.inl hc))
          have dx:=d.push2 d9 fx (fun c hc=>q2 c (.inl hc))
          unfold edgeR at cx;simp only [q4,t0,l2,l3,t4,t5,t6,t7,hwo,c6,c7,c8,c9,zeros,fillAt,cx,ox.cells,hw,go_sem]
          exact ⟨m - 1,by omega,c+1,es++[⟨(a:Int),(c:Int),x1,x2,x3⟩],v2,by omega,by omega,by omega,rfl,rfl,g.push ⟨by simp only;omega,by simp only;omega,by simp only;omega,by simp only;omega,by simp only;omega,by simp only;omega,by simp only;omega,by simp only;omega,by simp only;omega⟩ rfl rfl,dx,fx,by simpa using ox⟩
      | true =>
        by_cases q3:1+ds=3
        · rw [q3] at t4 hwo c6
          obtain ⟨x1,h7,c7,d7,s7,x10,x11,_⟩:=k_l01Below (X:=X) d6 most;obtain ⟨x2,h8,c8,d8,s8,x20,x21,_⟩:=k_l01Below (X:=X) d7 most;obtain ⟨x3,h9,c9,d9,s9,x30,x31,_⟩:=k_l01Below (X:=X) d8 most
          have y1:=x11 (by omega)
          have y2:=x21 (by omega)
          have y3:=x31 (by omega)
          have f9:=((f6.trans (Fr'.same s7)).trans (Fr'.same s8)).trans (Fr'.same s9)
          have o9:Own h9 h.length h9.length 5 y_Edge v (edges es):=by
            rw [s9.len,s8.len,s7.len]
            exact ((o6.same s7 (.inr (by omega))).same s8 (.inr (by omega))).same s9 (.inr (by omega))
          by_cases q4:most=4
          · obtain ⟨v2,hx,cx,q1,q2,ox⟩:=o9.push1 f9.len (edgeR ⟨(a:Int),(c:Int),x1,0,0⟩) rfl (by rw [List.length_map];unfold lim;omega)
            rw [Nat.max_eq_right q1] at ox
            have fx:=f9.push2 q1 (fun c hc=>q2 c (.inl hc))
            have dx:=d.push2 d9 fx (fun c hc=>q2 c (.inl hc))
            unfold edgeR at cx;rw [q4] at c7 c8 c9 t5;simp only [q3,t0,l2,l3,t4,t5,t6,t7,hwo,c6,c7,c8,c9,zeros,fillAt,cx,ox.cells,hw,go_sem]
            refine ⟨m - 1,by omega,?_,c+1,es++[⟨(a:Int),(c:Int),x1,0,0⟩],v2,by omega,by omega,by omega,rfl,rfl,g.push ⟨by simp only;omega,by simp only;omega,by simp only;omega,by simp only;omega,by simp only;omega,by simp,by simp,by simp,by simp⟩ rfl rfl,dx,fx,by simpa using ox⟩
            rw [q4]
          · obtain ⟨v2,hx,cx,q1,q2,ox⟩:=o9.push1 f9.len (edgeR ⟨(a:Int),(c:Int),x1,x2,x3⟩) rfl (by rw [List.length_map];unfold lim;omega)
            rw [Nat.max_eq_right q1] at ox
            have fx:=f9.push2 q1 (fun c hc=>q2 c (.inl hc))
            have dx:=d.push2 d9 fx (fun c hc=>q2 c (.inl hc))
            unfold edgeR at cx;simp only [q3,q4,t0,l2,l3,t4,t5,t6,t7,hwo,c6,c7,c8,c9,zeros,fillAt,cx,ox.cells,hw,go_sem]
            exact ⟨m - 1,by omega,c+1,es++[⟨(a:Int),(c:Int),x1,x2,x3⟩],v2,by omega,by omega,by omega,rfl,rfl,g.push ⟨by simp only;omega,by simp only;omega,by simp only;omega,by simp only;omega,by simp only;omega,by simp only;omega,by simp only;omega,by simp only;omega,by simp only;omega⟩ rfl rfl,dx,fx,by simpa using ox⟩
        · simp only [q3,t0,l2,l3,t4,t5,t6,t7,hwo,c6,hw,go_sem]
          exact ⟨m - 1,by omega,c+1,es,v,by omega,by omega,by omega,rfl,rfl,g.skip,d6,f6,o6⟩
    · have hcn2:c=n:=by omega
      subst hcn2;simp only [t0,l2,l3,t4,t5,t6,hw,go_sem]
      exact ⟨ha1,es,v,rfl,g.row (by omega),d5,f5,o⟩
  · have han:a=n:=by omega
    subst han;simp only [l2,l3,o.cells,go_sem]
    refine ⟨a,es,v,by rw [finish_fst];rfl,⟨⟨by omega,by omega⟩,g.ok⟩,?_,fin_fr d d4 f4⟩
    unfold finish;split
    · rename_i hc
      have hf:prim v=true:=by simpa [flat,prim] using hc.1
      exact o.flatP hf
    · exact o
end
end Go.Proofs.Ytafhipglhnfgnaa.Ab
set_option linter.unusedSimpArgs false
set_option linter.unusedVariables false
set_option linter.unnecessarySimpa false
set_option maxHeartbeats 4000000
namespace Go.Proofs.Ytafhipglhnfgnaa.Ab
open Go.RowKit
section
variable {g g':Tags} {h h':Heap} {b sz:Nat} {τ:Tg} {ty:TypeId} {v:Value} {rws new:List (List Value)}
theorem Has.pushs (a : Has g h τ sz ty v rws) (ok : TagOk b g h) (hb : b < h.length) (hn : ∀ r ∈ new, r.length = sz) (h1 : new ≠ []) (hl : rws.length + new.length ≤ lim) :
    ∃ v' h' g',appLW h sz ty new.length v (some new.flatten)=some (v',h')∧Tn b (·=τ) g h g' h'∧h'[b]?=h[b]?∧Has g' h' τ sz ty v' (rws++new)∧∀ c τ',g' c=some τ'→g c=some τ'∨c=h.length:=by
  rcases a.own with ⟨rfl,rfl⟩ | ⟨c,hc1,h2,o⟩
  · have o:Own h h.length h.length sz ty nilV []:=Own.nil
    obtain ⟨v',h',e1,e2,e3,e4,e5⟩:=push_is o (Nat.le_refl _) new hn h1 (by simpa using hl)
    rcases e4 with ⟨_,t1,t2,t3⟩ | ⟨q,_⟩
    · have nb:∀ x,x < h.length→h'[x]?=h[x]?:=fun x hx=>e3 x hx (.inr (Nat.zero_le _))
      refine ⟨v',h',fun x=>if x=h.length then some τ else g x,e1,⟨e2,fun x hx _ _=>nb x hx,fun x t _ q=>?_,fun x t hx q=>?_,fun x t q=>?_⟩,nb b hb,⟨e5.len,?_⟩,fun x t q=>?_⟩
      · show (if x=h.length then some τ else g x)=some t
        rw [if_neg (by have:=(ok x t q).2;omega)]
        exact q
      · have q':(if x=h.length then some τ else g x)=some t:=q
        rw [if_neg (by omega)] at q'
        exact q'
      · have q':(if x=h.length then some τ else g x)=some t:=q
        by_cases e:x=h.length
        · subst e;exact ⟨by omega,by omega⟩
        · rw [if_neg e] at q'
          have:=ok x t q'
          exact ⟨this.1,by omega⟩
      · rcases e5.is with ⟨_,q⟩ | ⟨c',l1,l2,l3,l4⟩
        · simp at q;exact absurd q h1
        · have:c'=h.length:=by omega
          subst this;exact .inr ⟨h.length,if_pos rfl,l3,l4⟩
      · have q':(if x=h.length then some τ else g x)=some t:=q
        by_cases e:x=h.length
        · exact .inr e
        · rw [if_neg e] at q';exact .inl q'
    · exact absurd rfl q
  · obtain ⟨v',h',e1,e2,e3,e4,e5⟩:=push_is o (by have:=(ok c τ hc1).2;omega) new hn h1 hl
    have hcb:=ok c τ hc1
    have tv:tlo v=c∧thi v=c+1:=by rw [h2];exact ⟨rfl,rfl⟩
    rcases e4 with ⟨q,_⟩ | ⟨_,t1,t2,t3⟩
    · rw [h2] at q;cases q
    · have nb:∀ x,x < h.length→x≠c→h'[x]?=h[x]?:=fun x hx hne=>e3 x hx (by omega)
      refine ⟨v',h',g,e1,⟨e2,fun x hx _ q=>nb x hx fun e=>?_,fun _ _ _ q=>q,fun _ _ _ q=>q,fun x t q=>by rw [t1];exact ok x t q⟩,nb b hb (by omega),⟨e5.len,?_⟩,fun x t q=>.inl q⟩
      · subst e;exact q τ hc1 rfl
      · rcases e5.is with ⟨_,q⟩ | ⟨c',l1,l2,l3,l4⟩
        · simp at q;exact absurd q.2 h1
        · have:c'=c:=by omega
          subst this;exact .inr ⟨c',hc1,l3,l4⟩
theorem Has.same (a:Has g h τ sz ty v rws) (ok:TagOk b g h) (s:Same b (b+1) h h'):Has g h' τ sz ty v rws∧TagOk b g h':=by
  refine ⟨⟨a.len,?_⟩,fun c t q=>by rw [s.len];exact ok c t q⟩
  rcases a.is with q | ⟨c,h1,h2,h3⟩
  · exact .inl q
  · have:=(ok c τ h1).1
    exact .inr ⟨c,h1,h2,by rw [s.blk c (by omega)];exact h3⟩
end
section
variable {X:CallF} {B h:Heap} {b:Nat} {cv:Value} {l:List Int} {n:Nat} {es:List E} {ev:Value}
structure Ms (B h:Heap) (b:Nat) (cv:Value) (l:List Int) (h':Heap) (g:Tags) (mv uv:Value) (ms:List Cp) (us:List Int):Prop where
  d:Dr B b cv l h'
  f:Fr' b h h'
  ok:TagOk b g h'
  hi:∀ c τ,g c=some τ→h.length≤c
  m:Has g h' (.lk 0) 2 y_Couple mv (cps ms)
  u:Has g h' (.rg 0) 1 y_int uv (ints us)
theorem Ms.same {h' h2:Heap} {g:Tags} {mv uv:Value} {ms:List Cp} {us:List Int} (M:Ms B h b cv l h' g mv uv ms us) (s:Same b (b+1) h' h2) (d2:Dr B b cv l h2):Ms B h b cv l h2 g mv uv ms us :=
  ⟨d2,M.f.trans (Fr'.same s),(M.m.same M.ok s).2,M.hi,(M.m.same M.ok s).1,(M.u.same M.ok s).1⟩
theorem Ms.turn {h' h2:Heap} {g g':Tags} {mv uv mv' uv':Value} {ms ms':List Cp} {us us':List Int} {T:Tg→Prop} (d0:Dr B b cv l h) (M:Ms B h b cv l h' g mv uv ms us) (e:Tn b T g h' g' h2) (hb:h2[b]?=h'[b]?) (hg:∀ c τ,g' c=some τ→g c=some τ∨c=h'.length) (hm:Has g' h2 (.lk 0) 2 y_Couple mv' (cps ms')) (hu:Has g' h2 (.rg 0) 1 y_int uv' (ints us')):Ms B h b cv l h2 g' mv' uv' ms' us':=by
  have F2:Fr' b h h2:=⟨Nat.le_trans M.f.len e.len,fun c hc hne=>by
    rw [e.blk c (Nat.lt_of_lt_of_le hc M.f.len) hne fun τ q=>by have:=M.hi c τ q;omega]
    exact M.f.old c hc hne⟩
  obtain ⟨i,x,hi,hc⟩:=M.d.cur
  refine ⟨d0.same F2 ⟨i,x,hi,by rw [hb];exact hc⟩,F2,e.ok,fun c τ q=>?_,hm,hu⟩
  rcases hg c τ q with q | q
  · exact M.hi c τ q
  · rw [q];exact M.f.len
theorem Ms.pushM {h':Heap} {g:Tags} {mv uv:Value} {ms:List Cp} {us:List Int} (d0:Dr B b cv l h) (M:Ms B h b cv l h' g mv uv ms us) (a c:Int) (hl:ms.length+1≤lim):∃ mv' h2 g',appLW h' 2 y_Couple 1 mv (some [.int .i64 a,.int .i64 c])=some (mv',h2)∧Ms B h b cv l h2 g' mv' uv (ms++[⟨a,c⟩]) us:=by
  obtain ⟨mv',h2,g',e1,e2,e3,e4,e5⟩:=M.m.pushs M.ok M.d.lt (new:=[cpR ⟨a,c⟩]) (fun r hr=>by rw [List.mem_singleton.1 hr];rfl) (by simp) (by rw [List.length_map];exact hl)
  have e4':Has g' h2 (.lk 0) 2 y_Couple mv' (cps (ms++[⟨a,c⟩])):=by simpa [cps] using e4
  exact ⟨mv',h2,g',e1,M.turn d0 e2 e3 e5 e4' (M.u.tn M.ok e2 (by simp))⟩
theorem Ms.pushU {h':Heap} {g:Tags} {mv uv:Value} {ms:List Cp} {us:List Int} (d0:Dr B b cv l h) (M:Ms B h b cv l h' g mv uv ms us) (a c:Int) (hl:us.length+2≤lim):∃ uv' h2 g',appLW h' 1 y_int 2 uv (some [.int .i64 a,.int .i64 c])=some (uv',h2)∧Ms B h b cv l h2 g' mv uv' ms (us++[a,c]):=by
  obtain ⟨uv',h2,g',e1,e2,e3,e4,e5⟩:=M.u.pushs M.ok M.d.lt (new:=[[.int .i64 a],[.int .i64 c]]) (fun r hr=>by simp at hr;rcases hr with e | e<;>rw [e]<;>rfl) (by simp) (by rw [ints_len];exact hl)
  have e4':Has g' h2 (.rg 0) 1 y_int uv' (ints (us++[a,c])):=by simpa [ints] using e4
  exact ⟨uv',h2,g',e1,M.turn d0 e2 e3 e5 (M.m.tn M.ok e2 (by simp)) e4'⟩
set_option maxRecDepth 100000 in
theorem k_l09Match {lo hi : Nat} (d0 : Dr B b cv l h) (oe : Own h lo hi 5 y_Edge ev (edges es)) (hlo : b < lo) (hhi : hi ≤ h.length) (hl : es.length ≤ 1000) :
    ∃ mv m hh,C T X n_spec_l09Match [pk b 0,graphV n ev] h=some (mv,hh)∧Own hh h.length hh.length 2 y_Couple mv (cps m)∧m.length≤2000∧Dr B b cv l hh∧Fr' b h hh:=by
  suffices hx:∃ w hh,C T X n_spec_l09Match [pk b 0,graphV n ev] h=some (w,hh)∧∃ m,Own hh h.length hh.length 2 y_Couple w (cps m)∧m.length≤2000∧Dr B b cv l hh∧Fr' b h hh by
    obtain ⟨w,hh,c,m,q⟩:=hx;exact ⟨w,m,hh,c,q⟩
  refine C_ex t_spec_l09Match rfl ?_;unfold F_spec_l09Match graphV;have hbl:=d0.lt;have p1:h <+: h++([⟨[],2,y_Couple,true⟩]:Heap):=List.prefix_append _ _;have p2:h++([⟨[],2,y_Couple,true⟩]:Heap) <+: h++([⟨[],2,y_Couple,true⟩]:Heap)++([⟨[],1,y_int,true⟩]:Heap):=List.prefix_append _ _
  have M0:∃ g,Ms B h b cv l (h++([⟨[],2,y_Couple,true⟩]:Heap)++([⟨[],1,y_int,true⟩]:Heap)) g (.slice (some ⟨h.length,0,none⟩) 0 0) (.slice (some ⟨(h++([⟨[],2,y_Couple,true⟩]:Heap)).length,0,none⟩) 0 0) [] []:=by
    have ok0:TagOk b (fun _=>none) h:=fun c τ q=>by cases q
    have t1:=tn_claim (τ:=.lk 0) ok0 hbl p1
    have t2:=tn_claim (τ:=.rg 0) t1.ok (by have:=pre_len p1;omega) p2
    have H1:Has (claim (fun _=>none) h (h++([⟨[],2,y_Couple,true⟩]:Heap)) (.lk 0)) (h++([⟨[],2,y_Couple,true⟩]:Heap)) (.lk 0) 2 y_Couple (.slice (some ⟨h.length,0,none⟩) 0 0) (cps []):=has_claim Acc.new.own
    have H2:=has_claim (g:=claim (fun _=>none) h (h++([⟨[],2,y_Couple,true⟩]:Heap)) (.lk 0)) (τ:=.rg 0) (Acc.new (h:=h++([⟨[],2,y_Couple,true⟩]:Heap)) (sz:=1) (ty:=y_int)).own
    refine ⟨_,d0.up (p1.trans p2),Fr'.pre (p1.trans p2),t2.ok,fun c τ q=>?_,H1.tn t1.ok t2 (by simp),H2⟩
    unfold claim at q;split at q
    · have:=pre_len p1;omega
    · split at q
      · omega
      · cases q
  obtain ⟨g0,M0⟩:=M0;simp only [zeros,fillAt,go_sem]
  refine w_for es.length (fun i t loc hh=>t 0=pk b 0∧loc 3=some [.int .i64 (n:Nat),ev]∧t 7=.int .i64 (i:Nat)∧∃ g mv uv ms us,t 5=mv∧t 6=uv∧Ms B h b cv l hh g mv uv ms us∧ms.length≤i∧us.length≤2*i) ⟨rfl,rfl,rfl,g0,_,_,[],[],rfl,rfl,M0,Nat.le_refl _,Nat.le_refl _⟩ ?_
  clear M0 p1 p2
  rintro i t loc h1 hi ⟨t0,l3,t7,g,mv,uv,ms,us,t5,t6,M,hm1,hu1⟩;have oe1:Rows h1 5 ev (edges es):=(oe.fr M.f hlo hhi).rows;simp only [t7,l3,oe1.lnm,go_sem]
  refine w_open (by simp only [go_sem];rfl) ?_ ?_<;>intro hc
  · have hi1:i < es.length:=by omega
    have hw:IntKind.i64.wrap ((i:Int)+1)=((i+1:Nat):Int):=w64 (by omega) (by omega)
    have el:=edge_el oe1 hi1;obtain ⟨e,hE⟩:∃ e,e=es.getD i e0:=⟨_,rfl⟩;rw [← hE] at el;obtain ⟨x,h2,c2,d2,s2⟩:=k_l01Once (X:=X) M.d 3;have M2:=M.same s2 d2
    cases x with
    | false =>
      simp only [t0,t5,t6,t7,l3,el.1,el.2.1,el.2.2.1,c2,hw,zeros,fillAt,go_sem]
      exact ⟨hi1,g,mv,uv,ms,us,rfl,rfl,M2,by omega,by omega⟩
    | true =>
      have i1:=k_spec_l03In (X:=X) (n:=e.a) M2.u.rows (by unfold lim;omega)
      have i2:=k_spec_l03In (X:=X) (n:=e.b) M2.u.rows (by unfold lim;omega)
      by_cases q1:e.a∈us
      · rw [decide_eq_true q1] at i1
        simp only [t0,t5,t6,t7,l3,el.1,el.2.1,el.2.2.1,c2,i1,hw,zeros,fillAt,go_sem]
        exact ⟨hi1,g,mv,uv,ms,us,rfl,rfl,M2,by omega,by omega⟩
      rw [decide_eq_false q1] at i1
      by_cases q2:e.b∈us
      · rw [decide_eq_true q2] at i2
        simp only [t0,t5,t6,t7,l3,el.1,el.2.1,el.2.2.1,c2,i1,i2,hw,zeros,fillAt,go_sem]
        exact ⟨hi1,g,mv,uv,ms,us,rfl,rfl,M2,by omega,by omega⟩
      rw [decide_eq_false q2] at i2
      obtain ⟨mv3,h3,g3,e3,M3⟩:=M2.pushM d0 e.a e.b (by unfold lim;omega)
      obtain ⟨uv4,h4,g4,e4,M4⟩:=M3.pushU d0 e.a e.b (by unfold lim;omega)
      have lnm:=M2.m.rows.lnm
      by_cases q3:(ms.length:Int)=0
      · simp only [t0,t5,t6,t7,l3,el.1,el.2.1,el.2.2.1,c2,i1,i2,lnm,q3,e3,e4,hw,zeros,fillAt,List.cons_append,List.nil_append,go_sem]
        exact ⟨hi1,g4,mv3,uv4,_,_,rfl,rfl,M4,by simp;omega,by simp;omega⟩
      · have hw2:IntKind.i64.wrap ((ms.length:Int) - 1)=((ms.length - 1:Nat):Int):=by rw [w64 (by omega) (by omega)];omega
        have cl:=cp_el M2.m.rows (i:=ms.length - 1) (by omega)
        by_cases q4:(ms.getD (ms.length - 1) c0).a < e.a
        · simp only [t0,t5,t6,t7,l3,el.1,el.2.1,el.2.2.1,c2,i1,i2,lnm,q3,q4,hw2,cl.1,cl.2.1,cl.2.2.2.1,e3,e4,hw,Nat.zero_add,zeros,fillAt,List.cons_append,List.nil_append,go_sem]
          exact ⟨hi1,g4,mv3,uv4,_,_,rfl,rfl,M4,by simp;omega,by simp;omega⟩
        · simp only [t0,t5,t6,t7,l3,el.1,el.2.1,el.2.2.1,c2,i1,i2,lnm,q3,q4,hw2,cl.1,cl.2.1,cl.2.2.2.1,hw,Nat.zero_add,zeros,fillAt,List.cons_append,List.nil_append,go_sem]
          exact ⟨hi1,g,mv,uv,ms,us,rfl,rfl,M2,by omega,by omega⟩
  have hie:i=es.length:=by omega
  have fin:∀ {hh g mv uv ms us},Ms B h b cv l hh g mv uv ms us→ms.length≤2000→live mv=true∧∃ m,Own (finish h (mv,hh)).2 h.length (finish h (mv,hh)).2.length 2 y_Couple (finish h (mv,hh)).1 (cps m)∧m.length≤2000∧Dr B b cv l (finish h (mv,hh)).2∧Fr' b h (finish h (mv,hh)).2:=fun {hh g mv uv ms us} M hl=>by
    obtain ⟨f1,f2⟩:=fin_fr (v:=mv) d0 M.d M.f;refine ⟨?_,ms,?_,hl,f1,f2⟩
    · rcases M.m.is with ⟨q,_⟩ | ⟨c,_,q,_⟩<;>rw [q]<;>rfl
    · rw [finish_fst]
      rcases M.m.own with ⟨q1,q2⟩ | ⟨c,k1,k2,o⟩
      · rw [q1,q2];exact Own.nil
      · have hd:finish h (mv,hh)=(mv,hh):=finish_deep (by rw [k2];rfl)
        rw [hd];exact o.wide (M.hi c _ k1) (M.ok c _ k1).2
  obtain ⟨y,h2,c2,d2,s2⟩:=k_l01Once (X:=X) M.d 15;have M2:=M.same s2 d2
  cases y with
  | false =>
    simp only [t0,t5,t6,t7,l3,c2,go_sem]
    exact fin M2 (by omega)
  | true =>
    obtain ⟨a1,h3,c3,d3,s3,_⟩:=k_l01Below (X:=X) d2 9;have M3:=M2.same s3 d3;obtain ⟨a2,h4,c4,d4,s4,_⟩:=k_l01Below (X:=X) d3 10;have M4:=M3.same s4 d4
    obtain ⟨mv5,h5,g5,e5,M5⟩:=M4.pushM d0 a1 a2 (by unfold lim;omega)
    simp only [t0,t5,t6,t7,l3,c2,c3,c4,e5,zeros,fillAt,List.cons_append,List.nil_append,go_sem]
    exact fin M5 (by simp;omega)
end
end Go.Proofs.Ytafhipglhnfgnaa.Ab
set_option linter.unusedSimpArgs false
set_option linter.unusedVariables false
set_option linter.unnecessarySimpa false
set_option maxHeartbeats 4000000
namespace Go.Proofs.Ytafhipglhnfgnaa.Ab
open Go.RowKit
section
variable {X:CallF} {h:Heap} {cv ev mv:Value} {l:List Int} {n:Nat} {es:List E} {m:List Cp}
theorem mok_nil {size:Int} (g:GOk size es):MOk size es []:=⟨g,fun i hi=>by simp at hi⟩
open Classical in
theorem k_DrawRightMatch (hc:Rows h 1 cv (bys l)) (hl:l.length≤1048576):∃ (n:Nat) (es:List E) (ev:Value) (m:List Cp) (mv:Value) (hh:Heap),C T X n_spec_DrawRightMatch [cv] h=some (.tuple ⟨[graphV n ev,mv]⟩,hh)∧GOk n es∧h <+: hh∧Own hh h.length hh.length 5 y_Edge ev (edges es)∧Own hh h.length hh.length 2 y_Couple mv (cps m)∧MOk n es m:=by
  suffices hx:∃ w hh,C T X n_spec_DrawRightMatch [cv] h=some (w,hh)∧∃ (n:Nat) (es:List E) (ev:Value) (m:List Cp) (mv:Value),w=.tuple ⟨[graphV n ev,mv]⟩∧GOk n es∧h <+: hh∧Own hh h.length hh.length 5 y_Edge ev (edges es)∧Own hh h.length hh.length 2 y_Couple mv (cps m)∧MOk n es m by
    obtain ⟨w,hh,c,n,es,ev,m,mv,rfl,r⟩:=hx;exact ⟨n,es,ev,m,mv,hh,c,r⟩
  refine C_ex t_spec_DrawRightMatch rfl ?_;unfold F_spec_DrawRightMatch;obtain ⟨x0,c1⟩:=k_l01New (X:=X) hc hl;have d1:=dr_new hc hl (x:=x0);obtain ⟨h1,hh1⟩:∃ h1:Heap,h1=h++[curB cv 0 x0]:=⟨_,rfl⟩;rw [← hh1] at c1 d1
  have f1:Fr' h.length h h1:=by rw [hh1];exact Fr'.pre (List.prefix_append _ _)
  have hl1:h1.length=h.length+1:=by rw [hh1];simp
  obtain ⟨n,es,ev,h2,c2,g,o,d2,f2⟩:=k_l08Graph (X:=X) d1;have hel:=gok_len g
  obtain ⟨mv,m,h3,c3,om,hml,d3,f3⟩:=k_l09Match (X:=X) (n:=n) d2 o (by omega) (Nat.le_refl _) (by omega)
  have oe3:Own h3 h1.length h2.length 5 y_Edge ev (edges es):=o.fr f3 (by omega) (Nat.le_refl _)
  have f13:=(f1.trans f2).trans f3;have l2:=f2.len;have l3:=f3.len
  have cm:=k_spec_MatchOk (X:=X) (size:=(n:Int)) oe3.rows om.rows (by unfold lim;omega) (by omega)
  unfold graphV at c2 c3 cm
  by_cases q:MOk n es m
  · rw [decide_eq_true q] at cm
    simp only [c1,c2,c3,cm,zeros,fillAt,List.prefix_refl,go_sem];obtain ⟨hh,e,p,hcs⟩:=finish_cases (v:=.tuple ⟨[.agg ⟨[.int .i64 (n:Nat),ev]⟩,mv]⟩) (dr_pre f13);rw [e];refine ⟨om.live,n,es,ev,m,mv,rfl,g,p,?_⟩;rcases hcs with rfl | ⟨hf,rfl⟩
    · exact ⟨oe3.wide (by omega) (by omega),om.wide (by omega) (Nat.le_refl _),q⟩
    · have hf':prim ev=true∧prim mv=true:=by
        rcases oe3.is with ⟨q1,_⟩ | ⟨c1,_,_,q1,_⟩<;>rcases om.is with ⟨q2,_⟩ | ⟨c2,_,_,q2,_⟩<;>rw [q1,q2] at hf<;>rw [q1,q2]<;>simp [flat,flat1,prim] at hf ⊢
      exact ⟨oe3.flatP hf'.1,om.flatP hf'.2,q⟩
  · rw [decide_eq_false q] at cm
    have p4:h3 <+: h3++([⟨[],2,y_Couple,true⟩]:Heap):=List.prefix_append _ _;simp only [c1,c2,c3,cm,zeros,fillAt,List.prefix_refl,go_sem]
    have hd:∀ hx:Heap,finish h (.tuple ⟨[.agg ⟨[.int .i64 (n:Nat),ev]⟩,.slice (some ⟨h3.length,0,none⟩) 0 0]⟩,hx)=(.tuple ⟨[.agg ⟨[.int .i64 (n:Nat),ev]⟩,.slice (some ⟨h3.length,0,none⟩) 0 0]⟩,hx):=fun hx=>finish_deep (by simp [flat,flat1,prim])
    rw [hd]
    exact ⟨n,es,ev,[],_,rfl,g,(dr_pre f13).trans p4,(oe3.up p4).wide (by omega) (Nat.le_trans l3 (pre_len p4)),(Acc.new (h:=h3) (sz:=2) (ty:=y_Couple)).own.wide (by omega) (Nat.le_refl _),mok_nil g⟩
open Classical in
theorem k_spec_EdgeAt {size x y:Int} (he:Rows h 5 ev (edges es)) (hl:es.length≤lim) (g:GOk size es):C T X n_spec_EdgeAt [graphV size ev,.int .i64 x,.int .i64 y] h=some (.int .i64 (edgeIx es x y),h):=by
  have cg:=k_spec_GraphOk (X:=X) (size:=size) he hl;rw [decide_eq_true g] at cg;have ca:=k_spec_l08At (X:=X) (size:=size) (x:=x) (y:=y) he hl;refine C_go t_spec_EdgeAt rfl ?_;unfold F_spec_EdgeAt;unfold graphV at cg ca ⊢;simp only [cg,ca,List.prefix_refl,go_sem]
theorem k_laws_worth {size:Int} (he:Rows h 5 ev (edges es)) (hm:Rows h 2 mv (cps m)) (hl:es.length≤lim) (hml:m.length≤1048576) (g:MOk size es m):C T X n_laws_worth [graphV size ev,mv] h=some (.int .i64 (worthL es m),h):=by
  have hgl:=mok_len g;have g11:=g.1.1;have hwb:=worthL_bnd g;refine C_go t_laws_worth rfl ?_;unfold F_laws_worth graphV;simp only [go_sem]
  refine w_for m.length (fun i t loc h'=>h'=h∧t 1=mv∧loc 2=some [.int .i64 size,ev]∧t 5=.int .i64 (worthL es (m.take i))∧t 6=.int .i64 i) ⟨rfl,rfl,rfl,rfl,rfl⟩ ?_
  rintro i t loc h' hi ⟨rfl,t1,l2,t5,t6⟩;simp only [t1,t6,hm.lnm,go_sem]
  refine w_open (by simp only [go_sem];rfl) ?_ ?_<;>intro hc
  · have hi1:i < m.length:=by omega
    have hw:IntKind.i64.wrap ((i:Int)+1)=((i+1:Nat):Int):=w64 (by omega) (by omega)
    have hel:=cp_el hm hi1;have cat:=k_spec_EdgeAt (X:=X) (size:=size) (x:=(m.getD i c0).a) (y:=(m.getD i c0).b) he hl g.1;obtain ⟨k,h1,h2⟩:=ix_lt (g.2 i hi1).2.1;rw [h1] at cat;have hek:=edge_el he h2;have hWk:=eok_w (gok_mem g.1 (getD_mem (d:=e0) h2));have csc:=k_spec_Scalar (X:=X) (h:=h') hWk
    have hsc:scalar (es.getD k e0).w1 (es.getD k e0).w2 (es.getD k e0).w3=scAt es (m.getD i c0):=by unfold scAt;rw [h1];rfl
    rw [hsc] at csc;have hst:=worthL_take (es:=es) hi1
    have b1:=hwb i (by omega)
    have b2:=scAt_bnd g hi1
    have hw2:IntKind.i64.wrap (worthL es (m.take i)+scAt es (m.getD i c0))=worthL es (m.take (i+1)):=by rw [hst];exact w64 (by omega) (by omega)
    have hk0:(k:Int)≥0:=by omega
    unfold graphV at cat;unfold edgeV edgeR at csc;simp only [t1,l2,t5,t6,hel.1,hel.2.1,hel.2.2.2.1,hel.2.2.2.2,cat,hk0,hek.1,hek.2.2.1,csc,hw2,hw,Nat.zero_add,List.prefix_refl,go_sem];exact hi1
  · have hil:i=m.length:=by omega
    subst hil;rw [List.take_length] at t5;simp only [t5,go_sem]
end
end Go.Proofs.Ytafhipglhnfgnaa.Ab
set_option linter.unusedSimpArgs false
set_option linter.unusedVariables false
set_option linter.unnecessarySimpa false
set_option maxHeartbeats 4000000
namespace Go.Proofs.Ytafhipglhnfgnaa.Ab
open Go.RowKit
section
variable {X:CallF} {h:Heap} {ev mv nv:Value} {es:List E} {m n:List Cp} {size:Int} {c:Cp}
theorem OwnLLs.any {h:Heap} {lo hi:Nat} {tyO tyI:TypeId} {ll:List (List Int)} {vs:List Value} {v:Value} (o:OwnLLs h lo hi tyO tyI v ll vs) {i:Nat} (hi1:i < ll.length):vs.getD i nilV=nilV∨(lo≤tlo (vs.getD i nilV)∧thi (vs.getD i nilV)≤hi):=by
  rcases (o.ins i hi1).within with h | ⟨h1,h2,_⟩
  · exact .inl h
  · exact .inr ⟨h1,h2⟩
end
end Go.Proofs.Ytafhipglhnfgnaa.Ab
