/- Joined. No conditions. -/
import Derived.Test.YtafhipglhnfgnaaM18
import Derived.Test.YtafhipglhnfgnaaM4
import Derived.Test.YtafhipglhnfgnaaM14
set_option linter.unusedSimpArgs false
set_option linter.unusedVariables false
set_option linter.unnecessarySimpa false
set_option maxHeartbeats 4000000
namespace Go.Proofs.Ytafhipglhnfgnaa.Ab
open Go.RowKit
def vt (n:Int):ByteArray:=if 0≤n∧n≤1000000000 then KR n.toNat else noT
def qh (s:ByteArray)(l:List Int):ByteArray:=l.foldl (fun s n=>s++vt n) s
theorem di {s:ByteArray}{l:List Int}{n:Int}:qh s (l++[n])=qh s l++vt n:=by simp[qh,List.foldl_append]
theorem FR {a:ByteArray}:∀ {l:List Int} {b:ByteArray},qh (a++b) l=a++qh b l
  | [],b=>rfl
  | n::l,b=>by
    show qh (a++b++vt n) l=a++qh (b++vt n) l;rw[ByteArray.append_assoc,FR]
theorem dh {a:ByteArray}{l:List Int}:a++qh noT l=qh a l:=by
  rw[←FR,show noT=ByteArray.empty from rfl,ByteArray.append_empty]
theorem CX (n:Int):(vt n).size≤5:=by
  unfold vt;split
  · unfold KR;rw[strOfNums_size];exact Jp _ (by omega)
  · exact Nat.zero_le _
theorem y9 {s:ByteArray}:∀ {l:List Int},(qh s l).size≤s.size+5*l.length:=by
  intro l
  induction l generalizing s with
  | nil=>simp[qh]
  | cons n l ih =>
    show (qh (s++vt n) l).size≤_;have:=ih (s:=s++vt n);rw[ByteArray.size_append] at this;have:=CX n;simp only[List.length_cons];omega
section
variable {X:Zb}{h:za}{v:Value}{l:List Int}
theorem Ko {n:Int}:C T X we [.int .i64 n] h=some (.tuple ⟨[.string (vt n),.bool (decide (0≤n∧n≤1000000000))]⟩,h):=by
  rw[GE];unfold vt;split
  · rename_i hc;simp only[hc,decide_true];rfl
  · rename_i hc;simp only[hc,decide_false]
theorem GQ {n:Int}(h0:0≤n)(h1:n≤1000000000):C T X zQ [.int .i64 n] h=some (.string (vt n),h):=by
  obtain⟨k,rfl⟩:=Int.eq_ofNat_of_zero_le h0
  rw[YK (by omega)]
  unfold vt;rw[if_pos ⟨h0,h1⟩];rfl
theorem VJ (hv:Rows h 1 v (zq l))(hl:l.length≤1000000000):C T X Zk [v] h=some (.string (qh noT l),h):=by
  refine qH Bm rfl ?_;unfold uF;simp only[zI hv,go_sem]
  refine zT l.length (fun i t loc h'=>h'=h∧t 8=v∧t 9=.int .i64 l.length∧t 10=.int .i64 i∧t 3=.string (qh noT (l.take i))) ⟨rfl,rfl,rfl,rfl,rfl⟩ ?_
  rintro i t loc h' hi ⟨rfl,t8,t9,t10,t3⟩;simp only[t9,t10,go_sem]
  refine zt (by simp only[t9,t10,go_sem];rfl) ?_ ?_<;>intro hc
  · have hi1:i<l.length:=by omega
    have hw:IntKind.i64.wrap ((i:Int)+1)=((i+1:Nat):Int):=w64 (by omega) (by omega)
    have hs:(qh noT (l.take i)).size+(vt (l.getD i 0)).size≤9223372036854775807:=by
      have:=y9 (s:=noT) (l:=l.take i);have:=CX (l.getD i 0);rw[List.length_take] at *;have:noT.size=0:=rfl;omega
    simp only[t3,t8,t9,t10,ZU hv hi1,Ko,hs,hw,go_sem]
    exact⟨hi1,by rw[Zj (d:=0) hi1,di]⟩
  · have:i=l.length:=by omega
    subst this;simp only[t3,go_sem,List.take_length]
end
theorem gY {s:ByteArray}:∀ {l:List Int},(∀x∈l,0≤x∧x≤1000000000)→(qh s l).size=s.size+(l.map fun x=>(Z1 x.toNat).length).sum
  | [],_=>by simp[qh]
  | n::l,h=>by
    have h1:=h n List.mem_cons_self
    have ih:=gY (s:=s++vt n) (l:=l) fun x hx=>h x (List.mem_cons_of_mem _ hx)
    have e:qh s (n::l)=qh (s++vt n) l:=rfl;rw[e,ih,ByteArray.size_append]
    have:(vt n).size=(Z1 n.toNat).length:=by unfold vt;rw[if_pos h1];unfold KR;exact strOfNums_size _
    rw[this];simp only[List.map_cons,List.sum_cons];omega
section
variable {X:Zb}{h:za}{s:ByteArray}
end
theorem DY {s:ByteArray}{l m:List Int}:qh s (l++m)=qh (qh s l) m:=by simp[qh,List.foldl_append]
theorem Q6 {a:ByteArray}{l m:List Int}:qh a l++qh noT m=qh a (l++m):=by rw[dh,DY]
def VV (es:List E):List Int:=es.flatMap fun e=>[e.a,e.b,e.w1,e.w2,e.w3]
def VU (m:List Cp):List Int:=m.flatMap fun c=>[c.a,c.b]
def vL (gs:List Gp):List Int:=gs.flatMap fun g=>(g.ms.length:Int)::(g.ms++[g.z])
def Uh (size:Int)(es:List E)(m:List Cp)(ys:List Int)(gs:List Gp):List Int :=
  size::(es.length:Int)::(VV es++((m.length:Int)::(VU m++(ys++((gs.length:Int)::vL gs)))))
def wV (size:Int)(es:List E)(m:List Cp)(ys:List Int)(gs:List Gp):ByteArray:=qh noT (Uh size es m ys gs)
theorem Vi {α:Type}{d:α}{l:List α}{i:Nat}(hi:i<l.length):l.take (i+1)=l.take i++[l.getD i d]:=by
  rw[List.take_add_one,List.getElem?_eq_getElem hi,List.getD_eq_getElem?_getD,List.getElem?_eq_getElem hi];rfl
theorem GZ {es:List E}{i:Nat}(hi:i<es.length):VV (es.take (i+1))=VV (es.take i)++[(es.getD i e0).a,(es.getD i e0).b,(es.getD i e0).w1,(es.getD i e0).w2,(es.getD i e0).w3]:=by
  rw[Vi (d:=e0) hi];unfold VV;rw[List.flatMap_append];rfl
theorem GY {m:List Cp}{i:Nat}(hi:i<m.length):VU (m.take (i+1))=VU (m.take i)++[(m.getD i c0).a,(m.getD i c0).b]:=by
  rw[Vi (d:=c0) hi];unfold VU;rw[List.flatMap_append];rfl
theorem G1 {gs:List Gp}{i:Nat}(hi:i<gs.length):vL (gs.take (i+1))=vL (gs.take i)++(((gs.getD i g0).ms.length:Int)::((gs.getD i g0).ms++[(gs.getD i g0).z])):=by
  rw[Vi (d:=g0) hi];unfold vL;rw[List.flatMap_append];simp
theorem Fe {h:za}{ty:TypeId}{l:List Int}:Rows (h++[⟨l.map fun n=>.int .i64 n,1,ty,false⟩]) 1 (.slice (some ⟨h.length,0,none⟩) l.length l.length) (zq l):=by
  refine⟨bi,.inr ⟨h.length,0,l.length,⟨l.map fun n=>.int .i64 n,1,ty,false⟩,by rw[z9],by simp,rfl,by simp,by rw[z9];exact Nat.le_refl _,?_⟩⟩
  rw[z9,JR,List.drop_zero,Nat.mul_one]
  exact List.take_of_length_le (by simp)
def ui (size:Int)(ev mv yv gv:Value):Value:=.agg ⟨[.int .i64 size,ev,mv,yv,gv]⟩
section
variable {X:Zb}{h:za}{ev yv gv mv:Value}{ys:List Int}{gs:List Gp}{es:List E}{m:List Cp}{size:Int}
theorem zek {g:za}{a:Int}:Ua 1 1 zf g (some [.int .i64 a])=some (.slice (some ⟨g.length,0,none⟩) 1 1,g++[⟨[.int .i64 a],1,zf,false⟩]):=yI ⟨rfl,by omega,by unfold lim;omega⟩
theorem zf0 {g:za}{a b:Int}:Ua 2 1 zf g (some [.int .i64 a,.int .i64 b])=some (.slice (some ⟨g.length,0,none⟩) 2 2,g++[⟨[.int .i64 a,.int .i64 b],1,zf,false⟩]):=yI ⟨rfl,by omega,by unfold lim;omega⟩
theorem zhG {g:za}{a b c d e:Int}:Ua 5 1 zf g (some [.int .i64 a,.int .i64 b,.int .i64 c,.int .i64 d,.int .i64 e])=some (.slice (some ⟨g.length,0,none⟩) 5 5,g++[⟨[.int .i64 a,.int .i64 b,.int .i64 c,.int .i64 d,.int .i64 e],1,zf,false⟩]):=yI ⟨rfl,by omega,by unfold lim;omega⟩
theorem CW {g:za}{a:Int}:C T X Zk [.slice (some ⟨g.length,0,none⟩) 1 1] (g++[⟨[.int .i64 a],1,zf,false⟩])=some (.string (qh noT [a]),g++[⟨[.int .i64 a],1,zf,false⟩]):=VJ (Fe (l:=[a])) (by simp)
theorem zdM {g:za}{a b:Int}:C T X Zk [.slice (some ⟨g.length,0,none⟩) 2 2] (g++[⟨[.int .i64 a,.int .i64 b],1,zf,false⟩])=some (.string (qh noT [a,b]),g++[⟨[.int .i64 a,.int .i64 b],1,zf,false⟩]):=VJ (Fe (l:=[a,b])) (by simp)
theorem zg2 {g:za}{a b c d e:Int}:C T X Zk [.slice (some ⟨g.length,0,none⟩) 5 5] (g++[⟨[.int .i64 a,.int .i64 b,.int .i64 c,.int .i64 d,.int .i64 e],1,zf,false⟩])=some (.string (qh noT [a,b,c,d,e]),g++[⟨[.int .i64 a,.int .i64 b,.int .i64 c,.int .i64 d,.int .i64 e],1,zf,false⟩]):=VJ (Fe (l:=[a,b,c,d,e])) (by simp)
theorem Uu:(VV es).length=5*es.length:=by
  unfold VV
  induction es with
  | nil=>rfl
  | cons e es ih=>rw[List.flatMap_cons,List.length_append,ih,List.length_cons];simp;omega
theorem Ut:(VU m).length=2*m.length:=by
  unfold VU
  induction m with
  | nil=>rfl
  | cons e m ih=>rw[List.flatMap_cons,List.length_append,ih,List.length_cons];simp;omega
theorem X8 (hb:∀g∈gs,g.ms.length≤1048576):(vL gs).length≤1048578*gs.length:=by
  unfold vL
  induction gs with
  | nil=>exact Nat.le_refl _
  | cons e gs ih =>
    have:=ih fun g hg=>hb g (List.mem_cons_of_mem _ hg)
    have:=hb e List.mem_cons_self;rw[List.flatMap_cons,List.length_append,List.length_cons];simp only[List.length_cons,List.length_append,List.length_nil];omega
theorem uD {l m:List Int}(h:l.length+m.length≤100000000000000):(qh noT l).size+(qh noT m).size≤9223372036854775807:=by
  have h1:=y9 (s:=noT) (l:=l);have h2:=y9 (s:=noT) (l:=m);have h3:noT.size=0:=rfl;omega
open Classical in
theorem yf (he : Rows h 5 ev (ZF es)) (hm : Rows h 2 mv (cps m)) (hy : Rows h 1 yv (zq ys)) (hg : qp h gv gs) (hl : es.length ≤ lim) (hml : m.length ≤ 1048576) (hb : uG ys gs) :
    C T X QP [ui size ev mv yv gv] h=some (.tuple ⟨[.string (if ZG size es m ys gs then wV size es m ys gs else noT),.bool (decide (ZG size es m ys gs))]⟩,h):=by
  have hc:=Ve (X:=X) (size:=size) he hm hy hg hl hml hb;refine qH Kv rfl ?_;unfold Wc ui;unfold zC Zg at hc
  by_cases g:ZG size es m ys gs
  rotate_left
  · rw[if_neg g]
    simp only[hc,g,go_sem]
  rw[if_pos g];unfold lim at hl;simp only[hc,g,he.lnm,zj,zi,zf0,zdM,go_sem];obtain⟨H1,hH1⟩:∃H1:za,H1=h++[⟨[.int .i64 size,.int .i64 es.length],1,zf,false⟩]:=⟨_,rfl⟩
  have hp1:h <+: H1:=by rw[hH1];exact List.prefix_append _ _
  rw[←hH1];simp only[(he.up hp1).lnm,go_sem];obtain⟨A,hA⟩:∃A:List Int,A=[size,(es.length:Int)]:=⟨_,rfl⟩;rw[←hA]
  have hAl:A.length=2:=by rw[hA];rfl
  refine zT es.length (fun i t loc h'=>loc 1=some [.int .i64 size,ev,mv,yv,gv]∧t 30=ev∧t 31=.int .i64 es.length∧t 32=.int .i64 i∧h <+: h'∧t 4=.string (qh noT (A++VV (es.take i)))) ⟨rfl,rfl,rfl,rfl,hp1,by rw[List.take_zero];unfold VV;rw[List.flatMap_nil,List.append_nil];rfl⟩ ?_
  rintro i t loc h2 hi ⟨l1,t30,t31,t32,hp,t4⟩;simp only[t31,t32,go_sem]
  refine zt (by simp only[go_sem];rfl) ?_ ?_<;>intro hc
  · have hi1:i<es.length:=by omega
    have hw:IntKind.i64.wrap ((i:Int)+1)=((i+1:Nat):Int):=w64 (by omega) (by omega)
    have el:=ZK (he.up hp) hi1
    have ft:=uD (l:=A++VV (es.take i)) (m:=[(es.getD i e0).a,(es.getD i e0).b,(es.getD i e0).w1,(es.getD i e0).w2,(es.getD i e0).w3]) (by rw[List.length_append,Uu,List.length_take];simp;omega)
    simp only[l1,t4,t30,t31,t32,el.1,el.2.2.1,zj,zi,zhG,zg2,Q6,ft,hw,go_sem]
    exact⟨hi1,hp.trans (List.prefix_append _ _),by rw[GZ hi1,List.append_assoc]⟩
  have hin:i=es.length:=by omega
  subst hin;rw[List.take_length] at t4;obtain⟨A1,hA1⟩:∃A1:List Int,A1=A++VV es:=⟨_,rfl⟩;rw[←hA1] at t4
  have hA1l:A1.length=2+5*es.length:=by rw[hA1,List.length_append,Uu,hAl]
  have ft:=uD (l:=A1) (m:=[(m.length:Int)]) (by simp;omega)
  obtain⟨H2,hH2⟩:∃H2:za,H2=h2++[⟨[.int .i64 m.length],1,zf,false⟩]:=⟨_,rfl⟩
  have hp2:h <+: H2:=by rw[hH2];exact hp.trans (List.prefix_append _ _)
  have hv2:C T X Zk [.slice (some ⟨h2.length,0,none⟩) 1 1] H2=some (.string (qh noT [(m.length:Int)]),H2):=by rw[hH2];exact CW
  simp only[l1,t4,zj,zi,(hm.up hp).lnm,zek,hv2,Q6,ft,←hH2,(hm.up hp2).lnm,go_sem];obtain⟨A2,hA2⟩:∃A2:List Int,A2=A1++[(m.length:Int)]:=⟨_,rfl⟩;rw[←hA2]
  have hA2l:A2.length=3+5*es.length:=by rw[hA2,List.length_append,hA1l];simp;omega
  clear t4 t30 t31 t32 hp l1
  refine zT m.length (fun i t loc h'=>loc 1=some [.int .i64 size,ev,mv,yv,gv]∧t 59=mv∧t 60=.int .i64 m.length∧t 61=.int .i64 i∧h <+: h'∧t 4=.string (qh noT (A2++VU (m.take i)))) ⟨rfl,rfl,rfl,rfl,hp2,by rw[List.take_zero];unfold VU;rw[List.flatMap_nil,List.append_nil];rfl⟩ ?_
  rintro i t loc h3 hi2 ⟨l1,t59,t60,t61,hp,t4⟩;simp only[t60,t61,go_sem]
  refine zt (by simp only[go_sem];rfl) ?_ ?_<;>intro hc
  · have hi1:i<m.length:=by omega
    have hw:IntKind.i64.wrap ((i:Int)+1)=((i+1:Nat):Int):=w64 (by omega) (by omega)
    have el:=YG (hm.up hp) hi1
    have ft:=uD (l:=A2++VU (m.take i)) (m:=[(m.getD i c0).a,(m.getD i c0).b]) (by rw[List.length_append,Ut,List.length_take];simp;omega)
    simp only[l1,t4,t59,t60,t61,el.1,el.2.2.1,zj,zi,zf0,zdM,Q6,ft,hw,go_sem]
    exact⟨hi1,hp.trans (List.prefix_append _ _),by rw[GY hi1,List.append_assoc]⟩
  have hin:i=m.length:=by omega
  subst hin;rw[List.take_length] at t4;obtain⟨A3,hA3⟩:∃A3:List Int,A3=A2++VU m:=⟨_,rfl⟩;rw[←hA3] at t4
  have hA3l:A3.length=3+5*es.length+2*m.length:=by rw[hA3,List.length_append,hA2l,Ut]
  have hvy:=VJ (X:=X) (hy.up hp) (by have:=hb.1;omega)
  have ft1:=uD (l:=ys) (m:=[(gs.length:Int)]) (by have:=hb.1;simp;omega)
  have ft2:=uD (l:=A3) (m:=ys++[(gs.length:Int)]) (by have:=hb.1;simp;omega)
  obtain⟨H3,hH3⟩:∃H3:za,H3=h3++[⟨[.int .i64 gs.length],1,zf,false⟩]:=⟨_,rfl⟩
  have hv3:C T X Zk [.slice (some ⟨h3.length,0,none⟩) 1 1] H3=some (.string (qh noT [(gs.length:Int)]),H3):=by rw[hH3];exact CW
  have hp3':h3 <+: H3:=by rw[hH3];exact List.prefix_append _ _
  have hp3:h <+: H3:=hp.trans hp3';simp only[l1,t4,zj,zi,(hg.up hp).ln,hvy,zek,hv3,Q6,ft1,ft2,←hH3,hp3',(hg.up hp3).ln,List.prefix_refl,List.prefix_append,go_sem];obtain⟨A4,hA4⟩:∃A4:List Int,A4=A3++(ys++[(gs.length:Int)]):=⟨_,rfl⟩;rw[←hA4]
  have hA4l:A4.length=4+5*es.length+2*m.length+ys.length:=by rw[hA4,List.length_append,List.length_append,hA3l];simp;omega
  clear t4 t59 t60 t61 hp l1
  refine zT gs.length (fun i t loc h'=>t 89=gv∧t 90=.int .i64 gs.length∧t 91=.int .i64 i∧h <+: h'∧t 4=.string (qh noT (A4++vL (gs.take i)))) ⟨rfl,rfl,rfl,hp3,by rw[List.take_zero];unfold vL;rw[List.flatMap_nil,List.append_nil];rfl⟩ ?_
  rintro i t loc h4 hi3 ⟨t89,t90,t91,hp,t4⟩;simp only[t90,t91,go_sem]
  refine zt (by simp only[go_sem];rfl) ?_ ?_<;>intro hc
  · have hi1:i<gs.length:=by omega
    have hgn:=hb.2.1
    have hw:IntKind.i64.wrap ((i:Int)+1)=((i+1:Nat):Int):=w64 (by omega) (by omega)
    obtain⟨x,el1,el2,el3,el4,el5,hx⟩:=(hg.up hp).el hi1;obtain⟨g1,hg1⟩:∃g1,g1=gs.getD i g0:=⟨_,rfl⟩
    have hgm:g1.ms.length≤1048576:=by rw[hg1];exact hb.2.2 _ (zE (d:=g0) hi1)
    have hgl:=X8 (gs:=gs.take i) fun g q=>hb.2.2 g (List.mem_of_mem_take q)
    rw[List.length_take] at hgl;rw[←hg1] at el3 hx;obtain⟨H4,hH4⟩:∃H4:za,H4=h4++[⟨[.int .i64 g1.ms.length],1,zf,false⟩]:=⟨_,rfl⟩
    have hp4:h4 <+: H4:=by rw[hH4];exact List.prefix_append _ _
    have hv4:C T X Zk [.slice (some ⟨h4.length,0,none⟩) 1 1] H4=some (.string (qh noT [(g1.ms.length:Int)]),H4):=by rw[hH4];exact CW
    have hvm:=VJ (X:=X) (hx.up hp4) (by omega)
    obtain⟨H5,hH5⟩:∃H5:za,H5=H4++[⟨[.int .i64 g1.z],1,zf,false⟩]:=⟨_,rfl⟩
    have hp5:H4 <+: H5:=by rw[hH5];exact List.prefix_append _ _
    have hv5:C T X Zk [.slice (some ⟨H4.length,0,none⟩) 1 1] H5=some (.string (qh noT [g1.z]),H5):=by rw[hH5];exact CW
    have ft1:=uD (l:=[(g1.ms.length:Int)]) (m:=g1.ms) (by simp;omega)
    have ft2:=uD (l:=(g1.ms.length:Int)::g1.ms) (m:=[g1.z]) (by simp;omega)
    have ft3:=uD (l:=A4++vL (gs.take i)) (m:=(g1.ms.length:Int)::(g1.ms++[g1.z])) (by
      rw[List.length_append,hA4l];have:=hb.1;simp only[List.length_append,List.length_cons,List.length_nil]
      omega)
    simp only[t4,t89,t90,t91,el1,el3,zj,zi,zI hx,zek,hv4,←hH4,hvm,hv5,←hH5,Q6,List.cons_append,List.nil_append,ft1,ft2,ft3,hw,go_sem];refine⟨hi1,hp.trans (hp4.trans hp5),?_⟩;rw[G1 hi1,←hg1];simp
  · have hin:i=gs.length:=by omega
    subst hin;rw[List.take_length] at t4;simp only[t4,go_sem]
    have e:A4++vL gs=Uh size es m ys gs:=by
      rw[hA4,hA3,hA2,hA1,hA];simp[Uh]
    rw[e];exact zF rfl hp
theorem XY {size:Int}{es:List E}(g:GOk size es):∀e∈es,EOk size e:=fun e he=>by
  obtain⟨i,hi,rfl⟩:=Zv (d:=e0) he;exact (g.2 i hi).1
theorem je {n:Int}(h0:0≤n)(h1:n≤1000000000):C T X zQ [.int .i64 n] h=some (.string (qh noT [n]),h):=by
  have e:qh noT [n]=vt n:=by
    show noT++vt n=vt n;exact ByteArray.empty_append
  rw[e];exact GQ h0 h1
open Classical in
theorem yh (he : Rows h 5 ev (ZF es)) (hm : Rows h 2 mv (cps m)) (hy : Rows h 1 yv (zq ys)) (hg : qp h gv gs) (hl : es.length ≤ lim) (hml : m.length ≤ 1048576) (hb : uG ys gs) :
    C T X QS [ui size ev mv yv gv] h=some (.tuple ⟨[.string (if ZG size es m ys gs then wV size es m ys gs else noT),.bool (decide (ZG size es m ys gs))]⟩,h):=by
  have hc:=Um (X:=X) (size:=size) he hm hy hg hl hml hb;refine qH Ky rfl ?_;unfold Wf ui;unfold zC Zg at hc
  by_cases g:ZG size es m ys gs
  rotate_left
  · rw[if_neg g]
    simp only[hc,g,go_sem]
  rw[if_pos g];have hgo:=g.1.1.1;have hsz:=hgo.1;have hE:=XY hgo;have hel:=Ye hgo;unfold lim at hl
  have vs:=je (X:=X) (h:=h) (n:=size) (by omega) (by omega)
  have vn:=je (X:=X) (h:=h) (n:=(es.length:Int)) (by omega) (by omega)
  have ft:=uD (l:=[size]) (m:=[(es.length:Int)]) (by simp)
  simp only[hc,g,he.lnm,vs,vn,Q6,ft,List.prefix_refl,List.cons_append,List.nil_append,go_sem];obtain⟨A,hA⟩:∃A:List Int,A=[size,(es.length:Int)]:=⟨_,rfl⟩;rw[←hA]
  have hAl:A.length=2:=by rw[hA];rfl
  refine zT es.length (fun i t loc h'=>h'=h∧loc 1=some [.int .i64 size,ev,mv,yv,gv]∧t 5=.int .i64 i∧t 4=.string (qh noT (A++VV (es.take i)))) ⟨rfl,rfl,rfl,by rw[List.take_zero];unfold VV;rw[List.flatMap_nil,List.append_nil];rfl⟩ ?_
  rintro i t loc h' hi ⟨rfl,l1,t5,t4⟩;simp only[l1,t5,he.lnm,go_sem]
  refine zt (by simp only[go_sem];rfl) ?_ ?_<;>intro hc
  · have hi1:i<es.length:=by omega
    have hw:IntKind.i64.wrap ((i:Int)+1)=((i+1:Nat):Int):=w64 (by omega) (by omega)
    have el:=ZK he hi1;have q:=hE _ (zE (d:=e0) hi1);obtain⟨e,hee⟩:∃e,e=es.getD i e0:=⟨_,rfl⟩;have sn:=GZ hi1;rw[←hee] at el q sn;unfold EOk at q
    have v1:=je (X:=X) (h:=h') (n:=e.a) (by omega) (by omega)
    have v2:=je (X:=X) (h:=h') (n:=e.b) (by omega) (by omega)
    have v3:=je (X:=X) (h:=h') (n:=e.w1) (by omega) (by omega)
    have v4:=je (X:=X) (h:=h') (n:=e.w2) (by omega) (by omega)
    have v5:=je (X:=X) (h:=h') (n:=e.w3) (by omega) (by omega)
    obtain⟨L,hL⟩:∃L:List Int,L=A++VV (es.take i):=⟨_,rfl⟩
    have hLl:L.length≤100000:=by rw[hL,List.length_append,Uu,List.length_take];omega
    rw[←hL] at t4
    have f1:=uD (l:=L) (m:=[e.a]) (by simp;omega)
    have f2:=uD (l:=L++[e.a]) (m:=[e.b]) (by simp;omega)
    have f3:=uD (l:=L++[e.a,e.b]) (m:=[e.w1]) (by simp;omega)
    have f4:=uD (l:=L++[e.a,e.b,e.w1]) (m:=[e.w2]) (by simp;omega)
    have f5:=uD (l:=L++[e.a,e.b,e.w1,e.w2]) (m:=[e.w3]) (by simp;omega)
    simp only[l1,t4,t5,el.1,el.2.2.1,v1,v2,v3,v4,v5,f1,f2,f3,f4,f5,Q6,List.append_assoc,List.cons_append,List.nil_append,List.prefix_refl,hw,go_sem]
    exact⟨hi1,by rw[sn,hL,List.append_assoc]⟩
  have hin:i=es.length:=by omega
  subst hin;rw[List.take_length] at t4;obtain⟨A1,hA1⟩:∃A1:List Int,A1=A++VV es:=⟨_,rfl⟩;rw[←hA1] at t4
  have hA1l:A1.length=2+5*es.length:=by rw[hA1,List.length_append,Uu,hAl]
  have hmk:=UQ g.2.1
  have vm:=je (X:=X) (h:=h') (n:=(m.length:Int)) (by omega) (by omega)
  have ft:=uD (l:=A1) (m:=[(m.length:Int)]) (by simp;omega)
  simp only[l1,t4,hm.lnm,vm,Q6,ft,go_sem];obtain⟨A2,hA2⟩:∃A2:List Int,A2=A1++[(m.length:Int)]:=⟨_,rfl⟩;rw[←hA2]
  have hA2l:A2.length=3+5*es.length:=by rw[hA2,List.length_append,hA1l];simp;omega
  obtain⟨h,hh⟩:∃h,h=h':=⟨_,rfl⟩;rw[←hh] at he hm hy hg ⊢
  clear t4 t5 l1 vm vs vn
  refine zT m.length (fun i t loc h'=>h'=h∧loc 1=some [.int .i64 size,ev,mv,yv,gv]∧t 7=.int .i64 i∧t 4=.string (qh noT (A2++VU (m.take i)))) ⟨rfl,rfl,rfl,by rw[List.take_zero];unfold VU;rw[List.flatMap_nil,List.append_nil];rfl⟩ ?_
  rintro i t loc h' hi ⟨rfl,l1,t7,t4⟩;simp only[l1,t7,hm.lnm,go_sem]
  refine zt (by simp only[go_sem];rfl) ?_ ?_<;>intro hc
  · have hi1:i<m.length:=by omega
    have hw:IntKind.i64.wrap ((i:Int)+1)=((i+1:Nat):Int):=w64 (by omega) (by omega)
    have el:=YG hm hi1;have q:=g.2.1.2 i hi1;have sn:=GY hi1;obtain⟨e,hee⟩:∃e,e=m.getD i c0:=⟨_,rfl⟩;unfold FI at q;rw[←hee] at el q sn
    have qr:0≤e.a∧e.a≤9∧0≤e.b∧e.b≤9:=by
      rcases Vx (p:=yp e.a e.b) e0 es with⟨c1,_⟩ | ⟨j,_,c2,c3,_⟩
      · have:=q.2.1
        unfold ZS at this;omega
      · have:=hE _ (zE (d:=e0) c2)
        unfold EOk at this;unfold yp at c3;omega
    have v1:=je (X:=X) (h:=h') (n:=e.a) (by omega) (by omega)
    have v2:=je (X:=X) (h:=h') (n:=e.b) (by omega) (by omega)
    obtain⟨L,hL⟩:∃L:List Int,L=A2++VU (m.take i):=⟨_,rfl⟩
    have hLl:L.length≤10000000:=by rw[hL,List.length_append,Ut,List.length_take];omega
    rw[←hL] at t4
    have f1:=uD (l:=L) (m:=[e.a]) (by simp;omega)
    have f2:=uD (l:=L++[e.a]) (m:=[e.b]) (by simp;omega)
    simp only[l1,t4,t7,el.1,el.2.1,el.2.2.2.1,el.2.2.2.2,v1,v2,f1,f2,Q6,List.append_assoc,List.cons_append,List.nil_append,List.prefix_refl,hw,go_sem]
    exact⟨hi1,by rw[sn,hL,List.append_assoc]⟩
  have hin:i=m.length:=by omega
  subst hin;rw[List.take_length] at t4;obtain⟨A3,hA3⟩:∃A3:List Int,A3=A2++VU m:=⟨_,rfl⟩;rw[←hA3] at t4
  have hA3l:A3.length=3+5*es.length+2*m.length:=by rw[hA3,List.length_append,hA2l,Ut]
  simp only[l1,t4,go_sem];obtain⟨h,hh⟩:∃h,h=h':=⟨_,rfl⟩;rw[←hh] at he hm hy hg ⊢
  clear t4 t7 l1
  have hyl:=g.1.1.2.1
  refine zT ys.length (fun i t loc h'=>h'=h∧loc 1=some [.int .i64 size,ev,mv,yv,gv]∧t 8=.int .i64 i∧t 4=.string (qh noT (A3++ys.take i))) ⟨rfl,rfl,rfl,by rw[List.take_zero,List.append_nil];rfl⟩ ?_
  rintro i t loc h' hi ⟨rfl,l1,t8,t4⟩;simp only[l1,t8,zI hy,go_sem]
  refine zt (by simp only[go_sem];rfl) ?_ ?_<;>intro hc
  · have hi1:i<ys.length:=by omega
    have hw:IntKind.i64.wrap ((i:Int)+1)=((i+1:Nat):Int):=w64 (by omega) (by omega)
    have el:=ZU hy hi1;have q:=g.1.2.1 i hi1
    have v1:=je (X:=X) (h:=h') (n:=ys.getD i 0) (by omega) (by omega)
    have f1:=uD (l:=A3++ys.take i) (m:=[ys.getD i 0]) (by rw[List.length_append,List.length_take];simp;omega)
    simp only[l1,t4,t8,el.1,el.2,v1,f1,Q6,hw,go_sem]
    exact⟨hi1,by rw[Vi (d:=0) hi1,List.append_assoc]⟩
  have hin:i=ys.length:=by omega
  subst hin;rw[List.take_length] at t4;have hgl8:=g.1.1.2.2
  have vg:=je (X:=X) (h:=h') (n:=(gs.length:Int)) (by omega) (by omega)
  have ft:=uD (l:=A3++ys) (m:=[(gs.length:Int)]) (by rw[List.length_append];simp;omega)
  simp only[l1,t4,hg.ln,vg,Q6,ft,go_sem];obtain⟨A4,hA4⟩:∃A4:List Int,A4=A3++ys++[(gs.length:Int)]:=⟨_,rfl⟩;rw[←hA4]
  have hA4l:A4.length=4+5*es.length+2*m.length+ys.length:=by rw[hA4,List.length_append,List.length_append,hA3l];simp;omega
  obtain⟨h,hh⟩:∃h,h=h':=⟨_,rfl⟩;rw[←hh] at he hm hy hg ⊢
  clear t4 t8 l1 vg
  refine zT gs.length (fun i t loc h'=>h'=h∧loc 1=some [.int .i64 size,ev,mv,yv,gv]∧t 9=.int .i64 i∧t 4=.string (qh noT (A4++vL (gs.take i)))) ⟨rfl,rfl,rfl,by rw[List.take_zero];unfold vL;rw[List.flatMap_nil,List.append_nil];rfl⟩ ?_
  rintro i t loc h' hi ⟨rfl,l1,t9,t4⟩;simp only[l1,t9,hg.ln,go_sem]
  refine zt (by simp only[go_sem];rfl) ?_ ?_<;>intro hc
  · have hi1:i<gs.length:=by omega
    have hw:IntKind.i64.wrap ((i:Int)+1)=((i+1:Nat):Int):=w64 (by omega) (by omega)
    obtain⟨x,el1,el2,el3,el4,el5,hx⟩:=hg.el hi1;have q:=(g.1.2.2.1 i hi1).1
    have hgl:=X8 (gs:=gs.take i) fun g q=>hb.2.2 g (List.mem_of_mem_take q)
    rw[List.length_take] at hgl;have hgm:=hb.2.2 _ (zE (d:=g0) hi1);have sn:=G1 hi1;obtain⟨g1,hg1⟩:∃g1,g1=gs.getD i g0:=⟨_,rfl⟩;rw[←hg1] at el3 hx q hgm sn;unfold yj at q
    have v1:=je (X:=X) (h:=h') (n:=(g1.ms.length:Int)) (by omega) (by omega)
    obtain⟨L,hL⟩:∃L:List Int,L=A4++vL (gs.take i):=⟨_,rfl⟩
    have hLl:L.length≤100000000:=by rw[hL,List.length_append];omega
    rw[←hL] at t4
    have f1:=uD (l:=L) (m:=[(g1.ms.length:Int)]) (by simp;omega)
    simp only[l1,t4,t9,el1,el3,zI hx,v1,f1,Q6,zj,zi,go_sem];obtain⟨B,hB⟩:∃B:List Int,B=L++[(g1.ms.length:Int)]:=⟨_,rfl⟩
    have hBl:B.length≤100000001:=by rw[hB,List.length_append];simp;omega
    rw[←hB];obtain⟨h,hh⟩:∃h,h=h':=⟨_,rfl⟩;rw[←hh] at he hm hy hg hx ⊢
    refine zT g1.ms.length (fun j t loc h'=>h'=h∧loc 1=some [.int .i64 size,ev,mv,yv,gv]∧loc 10=some [x,.int .i64 g1.z]∧t 9=.int .i64 i∧t 11=.int .i64 j∧t 4=.string (qh noT (B++g1.ms.take j))) ⟨rfl,rfl,rfl,rfl,rfl,by rw[List.take_zero,List.append_nil];rfl⟩ ?_
    rintro j t loc h' hj ⟨rfl,l1,l10,t9,t11,t4⟩;simp only[l1,l10,t9,t11,zI hx,go_sem]
    refine zt (by simp only[go_sem];rfl) ?_ ?_<;>intro hc
    · have hj1:j<g1.ms.length:=by omega
      have hw:IntKind.i64.wrap ((j:Int)+1)=((j+1:Nat):Int):=w64 (by omega) (by omega)
      have elj:=ZU hx hj1;have qj:=q.2 j hj1
      have v1:=je (X:=X) (h:=h') (n:=g1.ms.getD j 0) (by omega) (by omega)
      have f1:=uD (l:=B++g1.ms.take j) (m:=[g1.ms.getD j 0]) (by rw[List.length_append,List.length_take];simp;omega)
      simp only[l1,l10,t4,t9,t11,elj.1,elj.2,v1,f1,Q6,hw,go_sem]
      exact⟨hj1,by rw[Vi (d:=0) hj1,List.append_assoc]⟩
    · have hjn:j=g1.ms.length:=by omega
      subst hjn;rw[List.take_length] at t4
      have v1:=je (X:=X) (h:=h') (n:=g1.z) (by omega) (by omega)
      have f1:=uD (l:=B++g1.ms) (m:=[g1.z]) (by rw[List.length_append];simp;omega)
      simp only[l1,l10,t4,t9,v1,f1,Q6,hw,go_sem]
      exact⟨hi1,by rw[sn,hB,hL];simp⟩
  · have hin:i=gs.length:=by omega
    subst hin;rw[List.take_length] at t4;simp only[t4,go_sem]
    have e:A4++vL gs=Uh size es m ys gs:=by
      rw[hA4,hA3,hA2,hA1,hA];simp[Uh]
    rw[e];rfl
end
section
variable {α:Type}{s:ByteArray}{p q r:Nat × Bool}{l m:List Int}
def rdN (step:Nat × Bool→α × (Nat × Bool)):Nat→Nat × Bool→List α × (Nat × Bool)
  | 0,p=>([],p)
  | n+1,p=>if p.2=true then ([],p) else ((step p).1::(rdN step n (step p).2).1,(rdN step n (step p).2).2)
def wO (step:Nat × Bool→α × (Nat × Bool))(n:Nat)(p0:Nat × Bool)(L:List α)(k:Nat)(p:Nat × Bool):Prop:=rdN step n p0=(L++(rdN step k p).1,(rdN step k p).2)
theorem wO.start {step:Nat × Bool→α × (Nat × Bool)}{n:Nat}:wO step n p [] n p:=by unfold wO;simp
theorem wO.next {step:Nat × Bool→α × (Nat × Bool)}{n k:Nat}{p0:Nat × Bool}{L:List α}(h:wO step n p0 L (k+1) p)(hp:p.2=false):wO step n p0 (L++[(step p).1]) k (step p).2:=by
  unfold wO at *;rw[h]
  have e:rdN step (k+1) p=((step p).1::(rdN step k (step p).2).1,(rdN step k (step p).2).2):=by
    rw[rdN,if_neg (by rw[hp];simp)]
  rw[e];simp
theorem wO.done {step:Nat × Bool→α × (Nat × Bool)}{n k:Nat}{p0:Nat × Bool}{L:List α}(h:wO step n p0 L k p)(hp:k=0∨p.2=true):rdN step n p0=(L,p):=by
  unfold wO at h;rw[h];rcases hp with rfl | hp
  · simp[rdN]
  · cases k with
    | zero=>simp[rdN]
    | succ k=>rw[rdN,if_pos hp];simp
theorem uW {step:Nat × Bool→α × (Nat × Bool)}:∀ {n:Nat} {p:Nat × Bool},(rdN step n p).1.length≤n
  | 0,_=>Nat.le_refl 0
  | n+1,p=>by
    rw[rdN];split
    · exact Nat.zero_le _
    · have:=uW (step:=step) (n:=n) (p:=(step p).2)
      simp only[List.length_cons];omega
theorem wO.len {step:Nat × Bool→α × (Nat × Bool)}{n k:Nat}{p0:Nat × Bool}{L:List α}(h:wO step n p0 L k p):L.length≤n:=by
  have h1:=uW (step:=step) (n:=n) (p:=p0);unfold wO at h;rw[h] at h1;simp only[List.length_append] at h1;omega
theorem Bh {a b c:Nat}(h1:a≤b)(h2:b≤c):WT s a c=WT s a b++WT s b c:=by
  unfold WT;rw[←List.map_append]
  congr 1
  have:=List.take_append_drop (b-a) ((s.data.toList.drop a).take (c-a))
  rw[List.take_take,Nat.min_eq_left (by omega),List.drop_take,List.drop_drop,show a+(b-a)=b by omega,show c-a-(b-a)=c-b by omega] at this
  exact this.symm
def Zx (l:List Int):List Int:=l.flatMap fun n=>Z1 n.toNat
theorem Qb:Zx (l++m)=Zx l++Zx m:=by simp[Zx]
def Rd (s:ByteArray)(p q:Nat × Bool)(l:List Int):Prop:=p.2=false∧q.2=false∧p.1≤q.1∧q.1≤s.size∧WT s p.1 q.1=Zx l∧∀x∈l,0≤x∧x≤1000000000
theorem Rd.nil (h:p.2=false)(hp:p.1≤s.size):Rd s p p []:=⟨h,h,Nat.le_refl _,hp,yT,fun x hx=>absurd hx List.not_mem_nil⟩
theorem Rd.trans (a:Rd s p q l)(b:Rd s q r m):Rd s p r (l++m):=by
  obtain⟨a1,a2,a3,a4,a5,a6⟩:=a;obtain⟨b1,b2,b3,b4,b5,b6⟩:=b
  refine⟨a1,b2,by omega,b4,?_,fun x hx=>(List.mem_append.1 hx).elim (a6 x) (b6 x)⟩
  rw[Bh a3 b3,a5,b5,Qb]
theorem US (h:p.2=true):(ze s p).2.2=true:=by unfold ze;rw[h]
theorem qB (h:(ze s p).2.2=false):Rd s p (ze s p).2 [(ze s p).1]:=by
  have hp:p.2=false:=by
    cases hb:p.2 with
    | false=>rfl
    | true=>rw[US hb] at h;cases h
  have h':=h;unfold ze at h' ⊢;rw[hp] at h' ⊢;simp only at h' ⊢
  cases hr:Ja s (p.1:Int) with
  | none=>rw[hr] at h';simp at h'
  | some k =>
    obtain⟨n,k⟩:=k;have hb:=Jb hr;have hs:=zbq hr
    refine⟨hp,rfl,by simp only;omega,hb.2.2,?_,fun x hx=>?_⟩
    · rw[hs.1]
      simp[Zx]
    · rw[List.mem_singleton.1 hx]
      simp only;omega
theorem VB {step:Nat × Bool→α × (Nat × Bool)}{n:Nat}(h:p.2=true):(rdN step n p).2.2=true:=by
  cases n with
  | zero=>exact h
  | succ n=>rw[rdN,if_pos h];exact h
theorem WH {step:Nat × Bool→α × (Nat × Bool)}{f:α→List Int}(hs:∀p,(step p).2.2=false→Rd s p (step p).2 (f (step p).1)):∀ {n:Nat} {p:Nat × Bool},p.1≤s.size→(rdN step n p).2.2=false→Rd s p (rdN step n p).2 ((rdN step n p).1.flatMap f)∧(rdN step n p).1.length=n
  | 0,p,hp,h=>⟨Rd.nil h hp,rfl⟩
  | n+1,p,hp,h=>by
    have hf:p.2=false:=by
      cases hb:p.2 with
      | false=>rfl
      | true=>rw[VB hb] at h;cases h
    have e:rdN step (n+1) p=((step p).1::(rdN step n (step p).2).1,(rdN step n (step p).2).2):=by
      rw[rdN,if_neg (by rw[hf];simp)]
    rw[e] at h ⊢;simp only at h ⊢
    have h1:(step p).2.2=false:=by
      cases hb:(step p).2.2 with
      | false=>rfl
      | true=>rw[VB hb] at h;cases h
    have r1:=hs p h1;obtain⟨r2,r3⟩:=WH hs (n:=n) r1.2.2.2.1 h
    exact⟨by rw[List.flatMap_cons];exact r1.trans r2,by rw[List.length_cons,r3]⟩
def VI (s:ByteArray)(p:Nat × Bool):E × (Nat × Bool):=(⟨sV s p 0,sV s p 1,sV s p 2,sV s p 3,sV s p 4⟩,sS s p 5)
def VG (s:ByteArray)(p:Nat × Bool):Cp × (Nat × Bool):=(⟨sV s p 0,sV s p 1⟩,sS s p 2)
def Zp (cap:Int→Nat)(s:ByteArray)(p:Nat × Bool):Gp × (Nat × Bool) :=
  (⟨(rdN (ze s) (cap (ze s p).1) (ze s p).2).1,(ze s (rdN (ze s) (cap (ze s p).1) (ze s p).2).2).1⟩,(ze s (rdN (ze s) (cap (ze s p).1) (ze s p).2).2).2)
theorem ZR {a b:Bool}(h:a=true→b=true)(hb:b=false):a=false:=by
  cases a with
  | false=>rfl
  | true=>rw[h rfl] at hb;cases hb
theorem zdJ {p:Nat × Bool}(hp:p.1≤s.size):∀i,(sS s p i).2=false→Rd s p (sS s p i) ((List.range i).map fun j=>sV s p j)
  | 0,h=>Rd.nil h hp
  | i+1,h=>by
    have hn:sS s p (i+1)=(ze s (sS s p i)).2:=rfl;rw[hn] at h ⊢;have r2:=qB h;have r1:=zdJ hp i (ZR US h);rw[List.range_succ,List.map_append];exact r1.trans r2
theorem Rd.le (a:Rd s p q l):p.1≤s.size:=by obtain⟨_,_,h1,h2,_⟩:=a;omega
theorem zbs {i:Nat}(h:(sS s p (i+1)).2=false):Rd s p (sS s p (i+1)) ((List.range (i+1)).map fun j=>sV s p j):=by
  have h1:(sS s p 1).2=false:=by
    have:∀k,(sS s p (1+k)).2=false→(sS s p 1).2=false:=fun k=>by
      induction k with
      | zero=>exact id
      | succ k ih=>exact fun h=>ih (ZR US h)
    exact this i (by rw[Nat.add_comm];exact h)
  exact zdJ (qB h1).le (i+1) h
theorem FZ (h:(VI s p).2.2=false):Rd s p (VI s p).2 ((fun e:E=>[e.a,e.b,e.w1,e.w2,e.w3]) (VI s p).1):=zbs h
theorem gB (h:(VG s p).2.2=false):Rd s p (VG s p).2 ((fun e:Cp=>[e.a,e.b]) (VG s p).1):=zbs h
theorem uM {cap:Int→Nat}(h:(Zp cap s p).2.2=false):(rdN (ze s) (cap (ze s p).1) (ze s p).2).2.2=false∧(ze s p).2.2=false:=by
  have h1:(rdN (ze s) (cap (ze s p).1) (ze s p).2).2.2=false:=ZR US h;exact⟨h1,ZR VB h1⟩
theorem uX:l.flatMap (fun n=>[n])=l:=by
  induction l with
  | nil=>rfl
  | cons a l ih=>rw[List.flatMap_cons,ih];rfl
theorem zan {cap:Int→Nat}(h:(Zp cap s p).2.2=false)(hc:((Zp cap s p).1.ms.length:Int)=(ze s p).1):Rd s p (Zp cap s p).2 ((fun g:Gp=>(g.ms.length:Int)::(g.ms++[g.z])) (Zp cap s p).1):=by
  obtain⟨h1,h2⟩:=uM h;have r1:=qB h2
  have r2:=(WH (f:=fun n=>[n]) (fun p h=>qB h) r1.2.2.2.1 h1).1
  rw[uX] at r2;have r3:=qB h;have:=(r1.trans r2).trans r3;simp only;rw[hc];exact this
end
def rz (s:ByteArray):Int × (Nat × Bool):=ze s (0,false)
def rne (s:ByteArray):Int × (Nat × Bool):=ze s (rz s).2
def re (cap:Int→Nat)(s:ByteArray):List E × (Nat × Bool):=rdN (VI s) (cap (rne s).1) (rne s).2
def rnm (cap:Int→Nat)(s:ByteArray):Int × (Nat × Bool):=ze s (re cap s).2
def rm (cap:Int→Nat)(s:ByteArray):List Cp × (Nat × Bool):=rdN (VG s) (cap (rnm cap s).1) (rnm cap s).2
def ry (cap:Int→Nat)(s:ByteArray):List Int × (Nat × Bool):=rdN (ze s) (cap (rz s).1) (rm cap s).2
def rgn (cap:Int→Nat)(s:ByteArray):Int × (Nat × Bool):=ze s (ry cap s).2
def rg (cap:Int→Nat)(s:ByteArray):List Gp × (Nat × Bool):=rdN (Zp cap s) (cap (rgn cap s).1) (rgn cap s).2
def C3 (s:ByteArray):Prop:=(rg Int.toNat s).2.2=false∧(rg Int.toNat s).2.1=s.size∧ZG (rz s).1 (re Int.toNat s).1 (rm Int.toNat s).1 (ry Int.toNat s).1 (rg Int.toNat s).1
def zb (n:Int):Nat:=min n.toNat 100
def zbX (s:ByteArray):Prop:=(rg zb s).2.2=false∧ZG (rz s).1 (re zb s).1 (rm zb s).1 (ry zb s).1 (rg zb s).1∧wV (rz s).1 (re zb s).1 (rm zb s).1 (ry zb s).1 (rg zb s).1=s
theorem zaw {size:Int}{g:Gp}(h:yj size g)(hs:size≤9):g.ms.length≤9:=by
  have key:∀j,j<g.ms.length→(j:Int)≤g.ms.getD j 0:=by
    intro j
    induction j with
    | zero=>intro hj;exact (h.2 0 hj).1.1
    | succ j ih =>
      intro hj
      have:=ih (by omega)
      have:=(h.2 (j+1) hj).2 (by omega)
      simp only[Nat.add_sub_cancel] at this;omega
  by_cases h9:g.ms.length≤9
  · exact h9
  · have:=key 9 (by omega)
    have:=(h.2 9 (by omega)).1.2
    omega
theorem B7 {n:Int}{k:Nat}(h:zb n=k)(hk:k<100):zb n=n.toNat:=by unfold zb at *;omega
section
variable {s:ByteArray}
theorem zbj {cap:Int→Nat}(h:(rg cap s).2.2=false):(rgn cap s).2.2=false∧(ry cap s).2.2=false∧(rm cap s).2.2=false∧(rnm cap s).2.2=false∧(re cap s).2.2=false∧(rne s).2.2=false∧(rz s).2.2=false:=by
  have h1:(rgn cap s).2.2=false:=ZR VB h;have h2:(ry cap s).2.2=false:=ZR US h1;have h3:(rm cap s).2.2=false:=ZR VB h2;have h4:(rnm cap s).2.2=false:=ZR VB h3;have h5:(re cap s).2.2=false:=ZR US h4;have h6:(rne s).2.2=false:=ZR VB h5;exact⟨h1,h2,h3,h4,h5,h6,ZR US h6⟩
theorem yE:∀ {n:Nat} {p:Nat × Bool},((rdN (Zp Int.toNat s) n p).2.2=false∧(∀g∈(rdN (Zp Int.toNat s) n p).1,g.ms.length<100))∨((rdN (Zp zb s) n p).2.2=false∧(∀g∈(rdN (Zp zb s) n p).1,g.ms.length<100))→rdN (Zp zb s) n p=rdN (Zp Int.toNat s) n p
  | 0,_,_=>rfl
  | n+1,p,h=>by
    by_cases hp:p.2=true
    · rw[rdN,rdN,if_pos hp,if_pos hp]
    · have e:∀cap,rdN (Zp cap s) (n+1) p=((Zp cap s p).1::(rdN (Zp cap s) n (Zp cap s p).2).1,(rdN (Zp cap s) n (Zp cap s p).2).2):=fun cap=>by rw[rdN,if_neg hp]
      rw[e,e] at *;simp only at h
      have hg:Zp zb s p=Zp Int.toNat s p:=by
        have key:zb (ze s p).1=(ze s p).1.toNat:=by
          rcases h with⟨h1,h2⟩ | ⟨h1,h2⟩
          · have h3:=h2 _ List.mem_cons_self
            have h4:=uM (s:=s) (ZR VB h1)
            have h5:=(WH (f:=fun n=>[n]) (fun p h=>qB h) (qB h4.2).2.2.2.1 h4.1).2
            unfold Zp at h3;simp only at h3;rw[h5] at h3;unfold zb;omega
          · have h3:=h2 _ List.mem_cons_self
            have h4:=uM (s:=s) (ZR VB h1)
            have h5:=(WH (f:=fun n=>[n]) (fun p h=>qB h) (qB h4.2).2.2.2.1 h4.1).2
            unfold Zp at h3;simp only at h3;rw[h5] at h3;exact B7 rfl h3
        unfold Zp;rw[key]
      rw[hg] at h ⊢
      have ih:=yE (n:=n) (p:=(Zp Int.toNat s p).2) (by
        rcases h with⟨h1,h2⟩ | ⟨h1,h2⟩
        · exact .inl ⟨h1,fun g q=>h2 g (List.mem_cons_of_mem _ q)⟩
        · exact .inr ⟨h1,fun g q=>h2 g (List.mem_cons_of_mem _ q)⟩)
      rw[ih]
theorem vZ {size:Int}{es:List E}{m:List Cp}{ys:List Int}{gs:List Gp}(g:ZG size es m ys gs):size≤9∧es.length<100∧m.length<100∧(ys.length:Int)=size∧gs.length<100∧∀x∈gs,x.ms.length<100:=by
  have h1:=Ye g.1.1.1;have h2:=UQ g.2.1;have h3:=g.1.1.1.1
  refine⟨h3.2,by omega,by omega,g.1.1.2.1,by have:=g.1.1.2.2;omega,fun x hx=>?_⟩
  obtain⟨i,hi,rfl⟩:=Zv (d:=g0) hx;have:=zaw (g.1.2.2.1 i hi).1 h3.2;omega
theorem J7 (h : ∃ cap, (cap = Int.toNat ∨ cap = zb) ∧ (rg cap s).2.2 = false ∧ ZG (rz s).1 (re cap s).1 (rm cap s).1 (ry cap s).1 (rg cap s).1) :
    re zb s=re Int.toNat s∧rm zb s=rm Int.toNat s∧ry zb s=ry Int.toNat s∧rg zb s=rg Int.toNat s:=by
  obtain⟨cap,hcap,hb,hc⟩:=h;obtain⟨u1,u2,u3,u4,u5,u6,u7⟩:=zbj hb;obtain⟨k1,k2,k3,k4,k5,k6⟩:=vZ hc;have lz:=qB (s:=s) (p:=(0,false)) u7;have lne:=qB u6
  have le:=WH (f:=fun e:E=>[e.a,e.b,e.w1,e.w2,e.w3]) (fun p h=>FZ h) lne.2.2.2.1 u5
  have lnm:=qB u4
  have lm:=WH (f:=fun e:Cp=>[e.a,e.b]) (fun p h=>gB h) lnm.2.2.2.1 u3
  have ly:=WH (f:=fun n=>[n]) (fun p h=>qB h) lm.1.2.2.2.1 u2
  have lng:=qB u1
  have ce:∀n:Int,cap n<100→zb n=n.toNat:=fun n hn=>by
    rcases hcap with rfl | rfl
    · unfold zb;omega
    · exact B7 rfl hn
  have cz:∀n:Int,cap n<100→cap n=n.toNat:=fun n hn=>by
    rcases hcap with rfl | rfl
    · rfl
    · exact B7 rfl hn
  have n1:cap (rne s).1<100:=by rw[←le.2];exact k2
  have e1:re zb s=re Int.toNat s:=by unfold re;rw[ce _ n1]
  have e1':re cap s=re Int.toNat s:=by unfold re;rw[cz _ n1]
  have n2:cap (rnm cap s).1<100:=by rw[←lm.2];exact k3
  have en:rnm zb s=rnm Int.toNat s:=by unfold rnm;rw[e1]
  have en':rnm cap s=rnm Int.toNat s:=by unfold rnm;rw[e1']
  have e2:rm zb s=rm Int.toNat s:=by unfold rm;rw[en,←en',ce _ n2]
  have e2':rm cap s=rm Int.toNat s:=by unfold rm;rw[cz _ n2,en']
  have n3:cap (rz s).1<100:=by
    rw[←ly.2];have:((ry cap s).1.length:Int)=(rz s).1:=k4;show (ry cap s).1.length<100;omega
  have e3:ry zb s=ry Int.toNat s:=by unfold ry;rw[e2,ce _ n3]
  have e3':ry cap s=ry Int.toNat s:=by unfold ry;rw[e2',cz _ n3]
  have eg:rgn zb s=rgn Int.toNat s:=by unfold rgn;rw[e3]
  have eg':rgn cap s=rgn Int.toNat s:=by unfold rgn;rw[e3']
  refine⟨e1,e2,e3,?_⟩
  have hlen:(rg cap s).1.length=cap (rgn cap s).1:=by
    have:∀ {n:Nat} {p:Nat × Bool},(rdN (Zp cap s) n p).2.2=false→(rdN (Zp cap s) n p).1.length=n:=by
      intro n
      induction n with
      | zero=>intro p _;rfl
      | succ n ih =>
        intro p h;have hp:p.2=false:=ZR VB h
        rw[rdN,if_neg (by rw[hp];simp)] at h ⊢
        simp only[List.length_cons];rw[ih h]
    exact this hb
  have n4:cap (rgn cap s).1<100:=by rw[←hlen];exact k5
  unfold rg at hb k6 ⊢;rw[eg,←eg',ce _ n4];rw[cz _ n4] at hb k6;rcases hcap with rfl | rfl
  · exact yE (.inl ⟨hb,k6⟩)
  · exact yE (.inr ⟨hb,k6⟩)
theorem XW {p:Nat × Bool}(h:(Zp Int.toNat s p).2.2=false):Rd s p (Zp Int.toNat s p).2 ((fun g:Gp=>(g.ms.length:Int)::(g.ms++[g.z])) (Zp Int.toNat s p).1):=by
  refine zan h ?_;obtain⟨h1,h2⟩:=uM h;have r:=qB h2
  have h3:=(WH (f:=fun n=>[n]) (fun p h=>qB h) r.2.2.2.1 h1).2
  have h4:=r.2.2.2.2.2 _ List.mem_cons_self;unfold Zp;simp only;rw[h3];omega
theorem CN (hb:(rg Int.toNat s).2.2=false)(hys:((ry Int.toNat s).1.length:Int)=(rz s).1):Rd s (0,false) (rg Int.toNat s).2 (Uh (rz s).1 (re Int.toNat s).1 (rm Int.toNat s).1 (ry Int.toNat s).1 (rg Int.toNat s).1):=by
  obtain⟨u1,u2,u3,u4,u5,u6,u7⟩:=zbj hb;have lz:=qB (s:=s) (p:=(0,false)) u7;have lne:=qB u6
  have le:=WH (f:=fun e:E=>[e.a,e.b,e.w1,e.w2,e.w3]) (fun p h=>FZ h) lne.2.2.2.1 u5
  have lnm:=qB u4
  have lm:=WH (f:=fun e:Cp=>[e.a,e.b]) (fun p h=>gB h) lnm.2.2.2.1 u3
  have ly:=WH (f:=fun n=>[n]) (fun p h=>qB h) lm.1.2.2.2.1 u2
  have lng:=qB u1
  have lg:=WH (f:=fun g:Gp=>(g.ms.length:Int)::(g.ms++[g.z])) (fun p h=>XW h) lng.2.2.2.1 hb
  rw[uX] at ly;have q1:=lne.2.2.2.2.2 _ List.mem_cons_self;have q2:=lnm.2.2.2.2.2 _ List.mem_cons_self;have q3:=lng.2.2.2.2.2 _ List.mem_cons_self
  have f1:((re Int.toNat s).1.length:Int)=(rne s).1:=by
    have:(re Int.toNat s).1.length=(rne s).1.toNat:=le.2;have:0≤(rne s).1:=q1.1;omega
  have f2:((rm Int.toNat s).1.length:Int)=(rnm Int.toNat s).1:=by
    have:(rm Int.toNat s).1.length=(rnm Int.toNat s).1.toNat:=lm.2;have:0≤(rnm Int.toNat s).1:=q2.1;omega
  have f3:((rg Int.toNat s).1.length:Int)=(rgn Int.toNat s).1:=by
    have:(rg Int.toNat s).1.length=(rgn Int.toNat s).1.toNat:=lg.2;have:0≤(rgn Int.toNat s).1:=q3.1;omega
  have all:=lz.trans (lne.trans (le.1.trans (lnm.trans (lm.1.trans (ly.1.trans (lng.trans lg.1))))));unfold Uh;rw[f1,f2,f3];exact all
theorem FS:∀ {l:List Int},(∀x∈l,0≤x∧x≤1000000000)→qh noT l=strOfNums (Zx l):=by
  intro l h
  have key:∀(l:List Int) (a:List Int),(∀x∈l,0≤x∧x≤1000000000)→qh (strOfNums a) l=strOfNums (a++Zx l):=by
    intro l
    induction l with
    | nil=>intro a _;simp[qh,Zx]
    | cons n l ih =>
      intro a h;have h1:=h n List.mem_cons_self;have e:qh (strOfNums a) (n::l)=qh (strOfNums a++vt n) l:=rfl
      have e2:strOfNums a++vt n=strOfNums (a++Z1 n.toNat):=by
        unfold vt;rw[if_pos h1];unfold KR;apply ByteArray.ext
        apply Array.toList_inj.1
        rw[ByteArray.data_append,Array.toList_append,strOfNums_data,strOfNums_data,strOfNums_data,List.map_append]
      rw[e,e2,ih _ fun x hx=>h x (List.mem_cons_of_mem _ hx)]
      simp[Zx]
  have:=key l [] h;exact this
theorem zdb:strOfNums (WT s 0 s.size)=s:=by
  rw[←kH];simp
theorem dc {l:List Int}:(Zx l).length=(l.map fun x=>(Z1 x.toNat).length).sum:=by
  unfold Zx
  induction l with
  | nil=>rfl
  | cons a l ih=>rw[List.flatMap_cons,List.length_append,ih,List.map_cons,List.sum_cons]
theorem FV:C3 s↔zbX s:=by
  constructor
  · rintro⟨h1,h2,h3⟩
    obtain⟨e1,e2,e3,e4⟩:=J7 ⟨Int.toNat,.inl rfl,h1,h3⟩;have hr:=CN h1 (vZ h3).2.2.2.1
    refine⟨by rw[e4];exact h1,by rw[e1,e2,e3,e4];exact h3,?_⟩
    rw[e1,e2,e3,e4];unfold wV;rw[FS hr.2.2.2.2.2,←hr.2.2.2.2.1,h2];exact zdb
  · rintro⟨h1,h2,h3⟩
    obtain⟨e1,e2,e3,e4⟩:=J7 ⟨zb,.inr rfl,h1,h2⟩;rw[e4] at h1;rw[e1,e2,e3,e4] at h2 h3;have hr:=CN h1 (vZ h2).2.2.2.1;refine⟨h1,?_,h2⟩;have hx:=gY (s:=noT) hr.2.2.2.2.2;unfold wV at h3;rw[h3,←dc,←hr.2.2.2.2.1,xk hr.2.2.2.1] at hx;have:noT.size=0:=rfl;simp only at hx;omega
theorem Bv (n:Nat):1≤(Z1 n).length:=by unfold Z1;split<;>simp
theorem Rd.adv {p q:Nat × Bool}{l:List Int}(a:Rd s p q l):p.1+l.length≤q.1∧q.1≤s.size:=by
  obtain⟨a1,a2,a3,a4,a5,a6⟩:=a;have h1:=xk (a:=p.1) a4;rw[a5] at h1
  have h2:l.length≤(Zx l).length:=by
    unfold Zx
    clear a5 a6 h1
    induction l with
    | nil=>exact Nat.le_refl _
    | cons n l ih=>rw[List.flatMap_cons,List.length_append,List.length_cons];have:=Bv n.toNat;omega
  omega
theorem jF {α:Type}{f:α→List Int}(hf:∀x,1≤(f x).length):∀ {l:List α},l.length≤(l.flatMap f).length∧∀x∈l,(f x).length≤(l.flatMap f).length
  | []=>⟨Nat.le_refl _,fun x h=>absurd h List.not_mem_nil⟩
  | a::l=>by
    obtain⟨h1,h2⟩:=jF hf (l:=l);have:=hf a;rw[List.flatMap_cons,List.length_append,List.length_cons]
    refine⟨by omega,fun x hx=>?_⟩
    cases List.mem_cons.1 hx with
    | inl q=>subst q;omega
    | inr q=>have:=h2 x q;omega
theorem b7 (hb:(rg Int.toNat s).2.2=false):(rm Int.toNat s).1.length≤s.size∧(ry Int.toNat s).1.length≤s.size∧(rg Int.toNat s).1.length≤s.size∧∀g∈(rg Int.toNat s).1,g.ms.length≤s.size:=by
  obtain⟨u1,u2,u3,u4,u5,u6,u7⟩:=zbj hb;have lnm:=qB u4
  have lm:=WH (f:=fun e:Cp=>[e.a,e.b]) (fun p h=>gB h) lnm.2.2.2.1 u3
  have ly:=WH (f:=fun n=>[n]) (fun p h=>qB h) lm.1.2.2.2.1 u2
  have lng:=qB u1
  have lg:=WH (f:=fun g:Gp=>(g.ms.length:Int)::(g.ms++[g.z])) (fun p h=>XW h) lng.2.2.2.1 hb
  have a1:=lm.1.adv;have a2:=ly.1.adv;have a3:=lg.1.adv
  have f1:=jF (f:=fun e:Cp=>[e.a,e.b]) (fun x=>by simp) (l:=(rm Int.toNat s).1)
  have f2:=jF (f:=fun n:Int=>[n]) (fun x=>by simp) (l:=(ry Int.toNat s).1)
  have f3:=jF (f:=fun g:Gp=>(g.ms.length:Int)::(g.ms++[g.z])) (fun x=>by simp) (l:=(rg Int.toNat s).1)
  have e1:((rm Int.toNat s).1.flatMap fun e:Cp=>[e.a,e.b]).length≤s.size:=by
    have:(rnm Int.toNat s).2.1+((rm Int.toNat s).1.flatMap fun e:Cp=>[e.a,e.b]).length≤(rm Int.toNat s).2.1:=a1.1
    have:(rm Int.toNat s).2.1≤s.size:=a1.2;omega
  have e2:((ry Int.toNat s).1.flatMap fun n:Int=>[n]).length≤s.size:=by
    have:(rm Int.toNat s).2.1+((ry Int.toNat s).1.flatMap fun n:Int=>[n]).length≤(ry Int.toNat s).2.1:=a2.1
    have:(ry Int.toNat s).2.1≤s.size:=a2.2;omega
  have e3:((rg Int.toNat s).1.flatMap fun g:Gp=>(g.ms.length:Int)::(g.ms++[g.z])).length≤s.size:=by
    have:(rgn Int.toNat s).2.1+((rg Int.toNat s).1.flatMap fun g:Gp=>(g.ms.length:Int)::(g.ms++[g.z])).length≤(rg Int.toNat s).2.1:=a3.1
    have:(rg Int.toNat s).2.1≤s.size:=a3.2;omega
  refine⟨by omega,by omega,by omega,fun g hg=>?_⟩
  have:=f3.2 g hg;simp only[List.length_cons,List.length_append,List.length_nil] at this;omega
end
structure CT where
  size:Int
  es:List E
  m:List Cp
  ys:List Int
  gs:List Gp
  ok:Bool
open Classical in
noncomputable def rdI (s:ByteArray):CT:=if C3 s then ⟨(rz s).1,(re Int.toNat s).1,(rm Int.toNat s).1,(ry Int.toNat s).1,(rg Int.toNat s).1,true⟩ else ⟨0,[],[],[],[],false⟩
open Classical in
noncomputable def rdS (s:ByteArray):CT:=if zbX s then ⟨(rz s).1,(re zb s).1,(rm zb s).1,(ry zb s).1,(rg zb s).1,true⟩ else ⟨0,[],[],[],[],false⟩
theorem CM (s:ByteArray):rdS s=rdI s:=by
  unfold rdS rdI
  by_cases h:C3 s
  · rw[if_pos (FV.1 h),if_pos h]
    obtain⟨e1,e2,e3,e4⟩:=J7 ⟨Int.toNat,.inl rfl,h.1,h.2.2⟩;rw[e1,e2,e3,e4]
  · rw[if_neg (fun k=>h (FV.2 k)),if_neg h]
def ExJ (id:Nat)(J:(Nat→Value)→(Nat→Option (List Value))→za→Prop)(e:Exit)(s:St):Prop:=e=.exit id∧s.al=(fun _=>none)∧J s.t s.loc s.h
section
variable {T:FuncId→Option Fun}{X:Zb}{t:Nat→Value}{loc:Nat→Option (List Value)}{h:za}{Q:Exit→St→Prop}
theorem VD {x : IR} (id : Nat) (N : Nat) (I : Nat → (Nat → Value) → (Nat → Option (List Value)) → za → Prop) (J : (Nat → Value) → (Nat → Option (List Value)) → za → Prop) (h1 : I N t loc h)
    (step:∀(n:Nat) (t:Nat→Value) (loc:Nat→Option (List Value)) (h:za),I n t loc h→W T X x ⟨t,loc,fun _=>none,h⟩ (Mx n I (ExJ id J)))
    (rest:∀(t:Nat→Value) (loc:Nat→Option (List Value)) (h:za),J t loc h→Q (.exit id) ⟨t,loc,fun _=>none,h⟩):W T X (.loop x) ⟨t,loc,fun _=>none,h⟩ Q:=by
  refine (WI N I h1 step).mono T X ?_;rintro e ⟨t,loc,al,h⟩ ⟨rfl,rfl,hj⟩;exact rest t loc h hj
theorem zah {id:Nat}{J:(Nat→Value)→(Nat→Option (List Value))→za→Prop}:ExJ id J (.exit id) ⟨t,loc,fun _=>none,h⟩↔J t loc h:=⟨fun h=>h.2.2,fun h=>⟨rfl,rfl,h⟩⟩
end
attribute [go_sem ↓] zah
structure Rdr (b:Nat)(ty:TypeId)(s:ByteArray)(h0 h':za)(p:Nat × Bool):Prop where
  len:h0.length≤h'.length
  old:∀c,c<h0.length→c≠b→h'[c]?=h0[c]?
  at_:h'[b]?=some (rdB ty s p)
  le:p.1≤s.size
section
variable {b lo hi sz:Nat}{ty ty':TypeId}{s:ByteArray}{h0 h1 h2 h':za}{p q:Nat × Bool}{v:Value}{rws:List (List Value)}{gs:List Gp}
theorem Rdr.refl (hb:h0[b]?=some (rdB ty s p))(hp:p.1≤s.size):Rdr b ty s h0 h0 p:=⟨Nat.le_refl _,fun _ _ _=>rfl,hb,hp⟩
theorem Rdr.trans (a:Rdr b ty s h0 h1 p)(c:Rdr b ty s h1 h2 q):Rdr b ty s h0 h2 q :=
  ⟨Nat.le_trans a.len c.len,fun i hi hb=>by rw[c.old i (by have:=a.len;omega) hb,a.old i hi hb],c.at_,c.le⟩
theorem Rdr.num (a:Rdr b ty s h0 h' p):Rdr b ty s h0 (h'.set b (rdB ty s (ze s p).2)) (ze s p).2 :=
  ⟨by rw[Zz];exact a.len,fun i hi hb=>by rw[List.getElem?_set_ne (Ne.symm hb)];exact a.old i hi hb,zbe a.at_,GX a.le⟩
theorem Rdr.push (a:Rdr b ty s h0 h' p)(hb:b<h0.length)(hl:h'.length≤h1.length)(hk:∀c,c<h0.length→h1[c]?=h'[c]?):Rdr b ty s h0 h1 p :=
  ⟨Nat.le_trans a.len hl,fun i hi hne=>by rw[hk i hi];exact a.old i hi hne,by rw[hk b hb];exact a.at_,a.le⟩
theorem bQ {x:Blk}:Qq b (b+1) h' (h'.set b x):=⟨Zz,fun c hc=>List.getElem?_set_ne (by omega)⟩
theorem Own.num (o:Own h' lo hi sz ty' v rws)(hb:b<lo){x:Blk}:Own (h'.set b x) lo hi sz ty' v rws:=o.same bQ (.inr (by omega))
theorem qK.num (o:qK h' lo hi ty' v gs)(hb:b<lo){x:Blk}:qK (h'.set b x) lo hi ty' v gs:=o.same bQ (.inr (by omega))
theorem Own.rdr (o:Own h0 lo hi sz ty' v rws)(a:Rdr b ty s h0 h' p)(hb:b<lo)(hh:hi≤h0.length):Own h' lo hi sz ty' v rws:=by
  refine⟨o.len,?_⟩;rcases o.is with hn | ⟨c,l1,l2,rfl,hc⟩
  · exact .inl hn
  · exact .inr ⟨c,l1,l2,rfl,by rw[a.old c (by omega) (by omega)];exact hc⟩
theorem qK.rdr (o:qK h0 lo hi ty' v gs)(a:Rdr b ty s h0 h' p)(hb:b<lo)(hh:hi≤h0.length):qK h' lo hi ty' v gs:=by
  obtain⟨vs,h1,h2,h3,h4⟩:=o
  exact⟨vs,h1.rdr a hb hh,fun i hi'=>(h2 i hi').rdr a hb hh,h3,h4⟩
theorem Rdr.num1 (a:Rdr b ty s h0 h' p)(i:Nat):(h'.set b (rdB ty s (sS s p i))).set b (rdB ty s (sS s p (i+1)))=h'.set b (rdB ty s (sS s p (i+1))):=List.set_set ..
theorem Rdr.nums (a:Rdr b ty s h0 h' p):∀i,Rdr b ty s h0 (h'.set b (rdB ty s (sS s p i))) (sS s p i)
  | 0=>⟨by rw[Zz];exact a.len,fun i hi hb=>by rw[List.getElem?_set_ne (Ne.symm hb)];exact a.old i hi hb,zbe a.at_,a.le⟩
  | i+1=>by
    have:=(a.nums i).num
    rw[show (ze s (sS s p i)).2=sS s p (i+1) from rfl,a.num1] at this
    exact this
end
section
variable {X:Zb}{b:Nat}{s:ByteArray}{h0 h':za}{p:Nat × Bool}
theorem YO (a:Rdr b zL s h0 h' p)(hs:s.size≤lim):C T X zu [pk b 0] h'=some (.int .i64 (sV s p 0),h'.set b (rdB zL s (sS s p 1))):=GH a.at_ hs a.le
theorem J0 (a:Rdr b zL s h0 h' p)(hs:s.size≤lim)(i:Nat):C T X zu [pk b 0] (h'.set b (rdB zL s (sS s p i)))=some (.int .i64 (sV s p i),h'.set b (rdB zL s (sS s p (i+1)))):=by
  have:=GH (X:=X) (a.nums i).at_ hs (a.nums i).le
  rw[show (ze s (sS s p i)).2=sS s p (i+1) from rfl,a.num1] at this
  exact this
theorem jQ (a:Rdr b zO s h0 h' p)(hs:s.size≤lim):C T X zV [pk b 0] h'=some (.int .i64 (sV s p 0),h'.set b (rdB zO s (sS s p 1))):=YL a.at_ hs a.le
theorem J1 (a:Rdr b zO s h0 h' p)(hs:s.size≤lim)(i:Nat):C T X zV [pk b 0] (h'.set b (rdB zO s (sS s p i)))=some (.int .i64 (sV s p i),h'.set b (rdB zO s (sS s p (i+1)))):=by
  have:=YL (X:=X) (a.nums i).at_ hs (a.nums i).le
  rw[show (ze s (sS s p i)).2=sS s p (i+1) from rfl,a.num1] at this
  exact this
theorem Yl {q:Nat × Bool}(hq:q.1≤s.size):0≤(ze s q).1∧(ze s q).1≤1000000000:=by
  unfold ze;split
  · simp
  · split
    · rename_i n k hr
      have:=Jb hr;simp only;omega
    · simp
end
section
variable {h hh:za}{sz:Nat}{ty:TypeId}{v:Value}{gs:List Gp}
theorem qK.flatG {lo hi:Nat}(o:qK h lo hi ty v gs)(hf:prim v=true){h2:za}{lo2 hi2:Nat}:qK h2 lo2 hi2 ty v gs:=by
  obtain⟨vs,o1,_⟩:=o;rcases o1.is with⟨rfl,e⟩ | ⟨b,_,_,rfl,_⟩
  · have:gs=[]:=by simpa using e
    rw[this];exact qK.nil
  · simp[prim] at hf
theorem Own.flatP {lo hi:Nat}{rws:List (List Value)}(o:Own h lo hi sz ty v rws)(hf:prim v=true){h2:za}{lo2 hi2:Nat}:Own h2 lo2 hi2 sz ty v rws:=by
  rcases o.is with⟨rfl,rfl⟩ | ⟨b,_,_,rfl,_⟩
  · exact Own.nil
  · simp[prim] at hf
end
def WS (cv:Value)(i:Nat)(x:Int):Blk:=⟨[cv,.int .i64 (i:Nat),.int .i64 x],3,x9,true⟩
section
variable {h:za}{b i:Nat}{cv:Value}{x:Int}
theorem D1 (hb:h[b]?=some (WS cv i x)){k:Nat}:faV h (pk b 0) k=some (pk b k):=by simp[faV,pk,hb,WS]
theorem BM (hb:h[b]?=some (WS cv i x)):jw h (pk b 0)=some (pk b 0):=by simp[jw,ldC,pk,hb,WS]
theorem D2 (hb:h[b]?=some (WS cv i x)):ldC h (pk b 0) 1=some [cv]:=by simp[ldC,pk,hb,WS]
theorem D3 (hb:h[b]?=some (WS cv i x)):ldC h (pk b 1) 1=some [.int .i64 (i:Nat)]:=by simp[ldC,pk,hb,WS]
theorem D4 (hb:h[b]?=some (WS cv i x)):ldC h (pk b 2) 1=some [.int .i64 x]:=by simp[ldC,pk,hb,WS]
theorem zd4 (hb:h[b]?=some (WS cv i x)){n:Nat}:stC h (pk b 1) [.int .i64 (n:Int)]=some (h.set b (WS cv n x)):=by simp[stC,pk,hb,WS,putAt]
theorem zd5 (hb:h[b]?=some (WS cv i x)){y:Int}:stC h (pk b 2) [.int .i64 y]=some (h.set b (WS cv i y)):=by simp[stC,pk,hb,WS,putAt]
theorem D5 (hb:h[b]?=some (WS cv i x)){j:Nat}{y:Int}:(h.set b (WS cv j y))[b]?=some (WS cv j y):=List.getElem?_set_self (zG hb)
theorem Bj {y:Blk}:Qq b (b+1) h (h.set b y):=⟨List.length_set ..,fun c hc=>List.getElem?_set_ne (by omega)⟩
end
structure Dr (B:za)(b:Nat)(cv:Value)(l:List Int)(h:za):Prop where
  base:B <+: h
  code:Rows B 1 cv (bys l)
  below:B.length≤b
  len:l.length≤lim
  cur:∃(i:Nat) (x:Int),i≤l.length∧h[b]?=some (WS cv i x)
structure Fr' (b:Nat)(h hh:za):Prop where
  len:h.length≤hh.length
  old:∀c,c<h.length→c≠b→hh[c]?=h[c]?
section
variable {B h h1 h2 h3:za}{b lo hi sz:Nat}{cv v:Value}{l:List Int}{ty:TypeId}{rws:List (List Value)}
theorem Dr.lt (d:Dr B b cv l h):b<h.length:=by obtain⟨i,x,_,q⟩:=d.cur;exact zG q
theorem Fr'.refl:Fr' b h h:=⟨Nat.le_refl _,fun _ _ _=>rfl⟩
theorem Fr'.trans (a:Fr' b h h1)(c:Fr' b h1 h2):Fr' b h h2:=⟨Nat.le_trans a.len c.len,fun i hi hb=>by rw[c.old i (by have:=a.len;omega) hb,a.old i hi hb]⟩
theorem Fr'.same (s:Qq b (b+1) h h1):Fr' b h h1:=⟨by rw[s.len];exact Nat.le_refl _,fun c _ hb=>s.blk c (by omega)⟩
theorem Fr'.pre (hp:h <+: h1):Fr' b h h1:=⟨zy hp,fun c hc _=>ZE hp hc⟩
theorem Fr'.push (hl:h.length≤h1.length)(hk:∀c,c<h.length→h1[c]?=h[c]?):Fr' b h h1:=⟨hl,fun c hc _=>hk c hc⟩
theorem Own.fr (o:Own h lo hi sz ty v rws)(a:Fr' b h h1)(hb:b<lo)(hh:hi≤h.length):Own h1 lo hi sz ty v rws:=by
  refine⟨o.len,?_⟩;rcases o.is with hn | ⟨c,l1,l2,rfl,hc⟩
  · exact .inl hn
  · exact .inr ⟨c,l1,l2,rfl,by rw[a.old c (by omega) (by omega)];exact hc⟩
theorem Fr'.up (a:Fr' b h h1){g:za}(hp:g <+: h)(hb:g.length≤b):g <+: h1 :=
  QM (Nat.le_trans (zy hp) a.len) fun c hc=>by rw[a.old c (by have:=zy hp;omega) (by omega),ZE hp hc]
theorem YW (d0:Dr B b cv l h)(d:Dr B b cv l h1)(a:Fr' b h h1):Dr B b cv l (zp h (v,h1)).2∧Fr' b h (zp h (v,h1)).2:=by
  unfold zp;split
  · exact⟨d0,.refl⟩
  · exact⟨d,a⟩
end
theorem Dy (a:Int):0≤UH .i64 a 255∧UH .i64 a 255≤255:=by
  unfold UH
  have h2:(BitVec.ofInt 64 255).toNat=255:=by rfl
  have h1:(BitVec.ofInt 64 a &&& BitVec.ofInt 64 255).toNat≤255:=by
    rw[BitVec.toNat_and,h2];exact Nat.and_le_right
  have e:UH .i64 a 255=IntKind.i64.wrap (((BitVec.ofInt 64 a &&& BitVec.ofInt 64 255).toNat:Nat):Int):=rfl
  have w:=w64 (n:=(((BitVec.ofInt 64 a &&& BitVec.ofInt 64 255).toNat:Nat):Int)) (by omega) (by omega)
  show 0≤IntKind.i64.wrap (((BitVec.ofInt 64 a &&& BitVec.ofInt 64 255).toNat:Nat):Int)∧IntKind.i64.wrap (((BitVec.ofInt 64 a &&& BitVec.ofInt 64 255).toNat:Nat):Int)≤255;rw[w];omega
section
variable {X:Zb}{B h:za}{b:Nat}{cv:Value}{l:List Int}
theorem zd3 (d:Dr B b cv l h){i:Nat}(hi:i<l.length):iaV h 1 cv (.int .i64 (i:Int))=some (zz cv 1 i 0)∧ldC h (zz cv 1 i 0) 1=some [.int .u8 (l.getD i 0)] :=
  ⟨(Rows.el (f:=fun n=>[Value.int .u8 n]) (d.code.up d.base) 0 hi).1,(Rows.el (f:=fun n=>[Value.int .u8 n]) (d.code.up d.base) 0 hi).2.2⟩
theorem ua (d:Dr B b cv l h):∃x hh,C T X ZM [pk b 0] h=some (.int .i64 x,hh)∧Dr B b cv l hh∧Qq b (b+1) h hh∧0≤x∧x≤255:=by
  suffices hx:∃w hh,C T X ZM [pk b 0] h=some (w,hh)∧∃x,w=.int .i64 x∧Dr B b cv l hh∧Qq b (b+1) h hh∧0≤x∧x≤255 by
    obtain⟨w,hh,c,x,rfl,r⟩:=hx;exact⟨x,hh,c,r⟩
  refine wU xH rfl ?_;obtain⟨i,x,hi,hb⟩:=d.cur
  have hlen:lnV h cv=some (.int .i64 (l.length:Int)):=by rw[(d.code.up d.base).ln,V3]
  have hbl:=zG hb;unfold W6;obtain⟨y,hy⟩:∃y,y=IntKind.i64.wrap (IntKind.i64.wrap (x*6364136223846793005)+1442695040888963407):=⟨_,rfl⟩;have hb1:=D5 (j:=i) (y:=y) hb;obtain⟨h1,hh1⟩:∃h1,h1=h.set b (WS cv i y):=⟨_,rfl⟩
  have s1:Qq b (b+1) h h1:=by rw[hh1];exact Bj
  have st1:stC h (pk b 2) [.int .i64 y]=some h1:=by rw[hh1];exact zd5 hb
  rw[←hh1] at hb1;have d1:Dr B b cv l h1:=⟨s1.pre d.base d.below,d.code,d.below,d.len,i,y,hi,hb1⟩
  have hlen1:lnV h1 cv=some (.int .i64 (l.length:Int)):=by rw[(d1.code.up d1.base).ln,V3]
  simp only[BM hb,D1 hb,D4 hb,←hy,st1,BM hb1,D1 hb1,D2 hb1,D3 hb1,D4 hb1,hlen1,go_sem]
  refine zt (by simp only[go_sem];rfl) ?_ ?_<;>intro hc
  · have hi1:i<l.length:=by omega
    have el:=zd3 d1 hi1;have hlm:=d.len;unfold lim at hlm
    have hw:IntKind.i64.wrap ((i:Int)+1)=((i+1:Nat):Int):=w64 (by omega) (by omega)
    have hb2:=D5 (j:=i+1) (y:=y) hb1;obtain⟨h2,hh2⟩:∃h2,h2=h1.set b (WS cv (i+1) y):=⟨_,rfl⟩
    have s2:Qq b (b+1) h1 h2:=by rw[hh2];exact Bj
    have st2:stC h1 (pk b 1) [.int .i64 ((i+1:Nat):Int)]=some h2:=by rw[hh2];exact zd4 hb1
    rw[←hh2] at hb2
    have d2:Dr B b cv l h2:=⟨s2.pre d1.base d.below,d.code,d.below,d.len,i+1,y,by omega,hb2⟩
    simp only[BM hb1,D1 hb1,D2 hb1,D3 hb1,el.1,el.2,hw,st2,go_sem]
    rw[Zt (by rw[s2.len,s1.len])]
    exact⟨_,rfl,d2,s1.trans s2,Dy _⟩
  · simp only[go_sem]
    rw[Zt s1.len];exact⟨_,rfl,d1,s1,Dy _⟩
theorem Bs {a n:Int}(h0:0≤a)(hn:0<n):0≤a.tmod n∧a.tmod n<n:=by
  rw[Int.tmod_eq_emod_of_nonneg h0]
  exact⟨Int.emod_nonneg _ (by omega),Int.emod_lt_of_pos _ hn⟩
theorem ZB (d:Dr B b cv l h)(n:Int):∃x hh,C T X zJ [pk b 0,.int .i64 n] h=some (.int .i64 x,hh)∧Dr B b cv l hh∧Qq b (b+1) h hh∧0≤x∧(0<n→x<n)∧(n≤0→x=0):=by
  suffices hx:∃w hh,C T X zJ [pk b 0,.int .i64 n] h=some (w,hh)∧∃x,w=.int .i64 x∧Dr B b cv l hh∧Qq b (b+1) h hh∧0≤x∧(0<n→x<n)∧(n≤0→x=0) by
    obtain⟨w,hh,c,x,rfl,r⟩:=hx;exact⟨x,hh,c,r⟩
  refine wU KB rfl ?_;unfold Wh
  by_cases h0:n≤0
  · simp only[h0,go_sem]
    exact⟨0,rfl,d,Qq.refl,by omega,fun q=>by omega,fun _=>rfl⟩
  by_cases h1:n≤256
  · obtain⟨x,h1',c1,d1,s1,x0,x1⟩:=ua (X:=X) d
    have hne:n≠0:=by omega
    have r:=Bs (a:=x) (n:=n) x0 (by omega)
    simp only[h0,h1,c1,hne,go_sem];rw[Zt s1.len]
    exact⟨_,rfl,d1,s1,r.1,fun _=>r.2,fun q=>by first | exact q.elim | omega⟩
  obtain⟨x,h1',c1,d1,s1,x0,x1⟩:=ua (X:=X) d;obtain⟨y,h2',c2,d2,s2,y0,y1⟩:=ua (X:=X) d1;obtain⟨z,h3',c3,d3,s3,z0,z1⟩:=ua (X:=X) d2;obtain⟨w,h4',c4,d4,s4,w0,w1⟩:=ua (X:=X) d3
  have hne:n≠0:=by omega
  have e1:IntKind.i64.wrap (x*16777216)=x*16777216:=w64 (by omega) (by omega)
  have e2:IntKind.i64.wrap (y*65536)=y*65536:=w64 (by omega) (by omega)
  have e3:IntKind.i64.wrap (z*256)=z*256:=w64 (by omega) (by omega)
  have e4:IntKind.i64.wrap (x*16777216+y*65536)=x*16777216+y*65536:=w64 (by omega) (by omega)
  have e5:IntKind.i64.wrap (x*16777216+y*65536+z*256)=x*16777216+y*65536+z*256:=w64 (by omega) (by omega)
  have e6:IntKind.i64.wrap (x*16777216+y*65536+z*256+w)=x*16777216+y*65536+z*256+w:=w64 (by omega) (by omega)
  have r:=Bs (a:=x*16777216+y*65536+z*256+w) (n:=n) (by omega) (by omega)
  simp only[h0,h1,c1,c2,c3,c4,e1,e2,e3,e4,e5,e6,hne,go_sem]
  rw[Zt (by rw[s4.len,s3.len,s2.len,s1.len])]
  exact⟨_,rfl,d4,((s1.trans s2).trans s3).trans s4,r.1,fun _=>r.2,fun q=>by first | exact q.elim | omega⟩
theorem X1 (d:Dr B b cv l h)(n:Int):∃(x:Bool) (hh:za),C T X Qw [pk b 0,.int .i64 n] h=some (.bool x,hh)∧Dr B b cv l hh∧Qq b (b+1) h hh:=by
  suffices hx:∃w hh,C T X Qw [pk b 0,.int .i64 n] h=some (w,hh)∧∃x:Bool,w=.bool x∧Dr B b cv l hh∧Qq b (b+1) h hh by
    obtain⟨w,hh,c,x,rfl,r⟩:=hx;exact⟨x,hh,c,r⟩
  refine wU xI rfl ?_;unfold W7;obtain⟨x,h1,c1,d1,s1,_⟩:=ZB (X:=X) d n;simp only[c1,go_sem];rw[Zt s1.len];exact⟨_,rfl,d1,s1⟩
theorem V7 (d:Dr B b cv l h){lv:Value}{L:List Int}{lo hi:Nat}{ty:TypeId}(o:Own h lo hi 1 ty lv (zq L))(hb:b<lo)(hL:0<L.length)(hl:L.length≤lim):∃x hh,C T X Zc [pk b 0,lv] h=some (.int .i64 x,hh)∧Dr B b cv l hh∧Qq b (b+1) h hh∧x∈L:=by
  suffices hx:∃w hh,C T X Zc [pk b 0,lv] h=some (w,hh)∧∃x,w=.int .i64 x∧Dr B b cv l hh∧Qq b (b+1) h hh∧x∈L by
    obtain⟨w,hh,c,x,rfl,r⟩:=hx;exact⟨x,hh,c,r⟩
  refine wU Jj rfl ?_;unfold Q2;obtain⟨x,h1,c1,d1,s1,x0,x1,_⟩:=ZB (X:=X) d (L.length:Int);obtain⟨k,rfl⟩:=Int.eq_ofNat_of_zero_le x0
  have hk:k<L.length:=by have:=x1 (by omega);omega
  have o1:=o.same s1 (.inr (by omega))
  have el:=ZU o1.rows hk;simp only[zI o.rows,c1,el.1,el.2,go_sem];rw[Zt s1.len];exact⟨_,rfl,d1,s1,zE hk⟩
theorem GJ (hc:Rows h 1 cv (bys l))(hl:l.length≤1048576):∃x:Int,C T X Qi [cv] h=some (pk h.length 0,h++[WS cv 0 x]):=by
  suffices hx:∃w hh,C T X Qi [cv] h=some (w,hh)∧w=pk h.length 0∧∃x:Int,hh=h++[WS cv 0 x] by
    obtain⟨w,hh,c,rfl,x,rfl⟩:=hx;exact⟨x,c⟩
  refine wU XI rfl ?_;unfold Vp
  have hln:lnV h cv=some (.int .i64 (l.length:Int)):=by rw[hc.ln,V3]
  simp only[hln,go_sem]
  refine VD 0 l.length (fun m t loc h'=>h'=h∧t 0=cv∧∃(i:Nat),∃x:Int,m+i=l.length∧t 4=.int .i64 (i:Nat)∧t 3=.int .i64 x) (fun t loc h'=>h'=h∧t 0=cv∧∃x:Int,t 3=.int .i64 x) ⟨rfl,rfl,0,_,rfl,rfl,rfl⟩ ?_ ?_
  · rintro m t loc h' ⟨rfl,t0,i,x,hm,t4,t3⟩
    by_cases h1:(i:Int)<(l.length:Int)
    · have hi1:i<l.length:=by omega
      have el1:=(Rows.el (f:=fun n=>[Value.int .u8 n]) hc 0 hi1).1
      have el2:=(Rows.el (f:=fun n=>[Value.int .u8 n]) hc 0 hi1).2.2
      have hw:IntKind.i64.wrap ((i:Int)+1)=((i+1:Nat):Int):=w64 (by omega) (by omega)
      by_cases h2:(i:Int)<4000
      · simp only[t0,t3,t4,hln,h1,h2,el1,el2,hw,go_sem]
        exact⟨m-1,by omega,i+1,_,by omega,rfl,rfl⟩
      · simp only[t0,t3,t4,hln,h1,h2,go_sem]
        exact⟨_,rfl⟩
    · simp only[t0,t3,t4,hln,h1,go_sem]
      exact⟨_,rfl⟩
  · rintro t loc h' ⟨rfl,t0,x,t3⟩
    have hb:bxW h' x9 3 (.agg ⟨[cv,.int .i64 0,.int .i64 x]⟩)=some (pk h'.length 0,h'++[WS cv 0 x]):=rfl;simp only[t0,t3,hc.cells,hb,go_sem];rw[Q8 rfl];exact⟨rfl,rfl,x,rfl⟩
end
def ExN (J:(Nat→Value)→(Nat→Option (List Value))→za→Prop)(e:Exit)(s:St):Prop:=e=.normal∧s.al=(fun _=>none)∧J s.t s.loc s.h
section
variable {T:FuncId→Option Fun}{X:Zb}{t:Nat→Value}{loc:Nat→Option (List Value)}{h:za}{Q:Exit→St→Prop}
theorem zft {x:IR}{s:St}(J:(Nat→Value)→(Nat→Option (List Value))→za→Prop)(h1:W T X x s (ExN J))(rest:∀(t:Nat→Value) (loc:Nat→Option (List Value)) (h:za),J t loc h→Q .normal ⟨t,loc,fun _=>none,h⟩):W T X x s Q:=by
  refine h1.mono T X ?_;rintro e ⟨t,loc,al,h⟩ ⟨rfl,rfl,hj⟩;exact rest t loc h hj
theorem BP {J:(Nat→Value)→(Nat→Option (List Value))→za→Prop}:ExN J .normal ⟨t,loc,fun _=>none,h⟩↔J t loc h:=⟨fun h=>h.2.2,fun h=>⟨rfl,rfl,h⟩⟩
end
attribute [go_sem ↓] BP
section
variable {X:Zb}{B h:za}{b:Nat}{cv:Value}{l:List Int}
theorem Dr.same {h1:za}(d:Dr B b cv l h)(a:Fr' b h h1)(hb:∃(i:Nat) (x:Int),i≤l.length∧h1[b]?=some (WS cv i x)):Dr B b cv l h1:=⟨a.up d.base d.below,d.code,d.below,d.len,hb⟩
theorem Dr.up {h1:za}(d:Dr B b cv l h)(hp:h <+: h1):Dr B b cv l h1:=by
  obtain⟨i,x,hi,hb⟩:=d.cur;exact⟨d.base.trans hp,d.code,d.below,d.len,i,x,hi,WD hp hb⟩
theorem Dr.push {h1:za}(d:Dr B b cv l h)(hl:h.length≤h1.length)(hk:∀c,c<h.length→h1[c]?=h[c]?):Dr B b cv l h1:=d.up (QM hl hk)
theorem za6 (d:Dr B b cv l h)(L:List Int)(hL:0<L.length)(hl:L.length≤lim):∃x hh,C T X Zc [pk b 0,.slice (some ⟨h.length,0,none⟩) L.length L.length] (h++[⟨L.map fun n=>.int .i64 n,1,zf,true⟩])=some (.int .i64 x,hh)∧Dr B b cv l hh∧Fr' b h hh∧x∈L:=by
  have hp:h <+: h++[⟨L.map fun n=>.int .i64 n,1,zf,true⟩]:=List.prefix_append _ _
  have o:Own (h++[⟨L.map fun n=>.int .i64 n,1,zf,true⟩]) h.length (h.length+1) 1 zf (.slice (some ⟨h.length,0,none⟩) L.length L.length) (zq L):=by
    have:=Own.made (h:=h) (ty:=zf) (rws:=zq L) bi;rw[z9,JR] at this;exact this
  obtain⟨x,hh,c,d1,s,hx⟩:=V7 (X:=X) (d.up hp) o d.lt hL hl;exact⟨x,hh,c,d1,(Fr'.pre hp).trans (Fr'.same s),hx⟩
end
section
variable {X:Zb}{B h h2 h3:za}{b:Nat}{cv:Value}{l:List Int}
theorem Fr'.push2 (f:Fr' b h h2)(hl:h2.length≤h3.length)(hk:∀c,c<h.length→h3[c]?=h2[c]?):Fr' b h h3 :=
  ⟨Nat.le_trans f.len hl,fun c hc hne=>by rw[hk c hc,f.old c hc hne]⟩
theorem Dr.push2 (d0:Dr B b cv l h)(d:Dr B b cv l h2)(f:Fr' b h h3)(hk:∀c,c<h.length→h3[c]?=h2[c]?):Dr B b cv l h3:=by
  obtain⟨i,x,hi,hb⟩:=d.cur
  exact d0.same f ⟨i,x,hi,by rw[hk b d0.lt];exact hb⟩
theorem JU (d:Dr B b cv l h)(n:Int):∃(s:ByteArray) (hh:za),C T X qO [pk b 0,.int .i64 n] h=some (.string s,hh)∧s.size≤5000∧Dr B b cv l hh∧Fr' b h hh:=by
  suffices hx:∃w hh,C T X qO [pk b 0,.int .i64 n] h=some (w,hh)∧(∃s:ByteArray,w=.string s∧s.size≤5000)∧Dr B b cv l hh∧Fr' b h hh by
    obtain⟨w,hh,c,⟨s,rfl,hs⟩,r⟩:=hx;exact⟨s,hh,c,hs,r⟩
  refine wU xJ rfl ?_;unfold W8;have hbl:=d.lt;simp only[go_sem]
  refine zft (fun t loc h'=>h'=h∧t 0=pk b 0∧∃k:Int,k≤5000∧t 1=.int .i64 k) ?_ ?_
  · by_cases hn:n>5000
    · simp only[hn,go_sem]
      exact⟨5000,by omega,rfl⟩
    · simp only[hn,go_sem]
      exact⟨n,by omega,rfl⟩
  rintro t loc h' ⟨rfl,t0,k,hk,t1⟩;simp only[t0,t1,zj,zi,go_sem]
  refine WI 5001 (fun m t loc h2=>t 0=pk b 0∧t 1=.int .i64 k∧∃(i:Nat),∃L v,m+i=5001∧t 6=.int .i64 (i:Nat)∧t 5=v∧L.length=i∧i≤5000∧Dr B b cv l h2∧Fr' b h' h2∧Own h2 h'.length h2.length 1 VS v (bys L)) ⟨rfl,rfl,0,[],_,rfl,rfl,rfl,rfl,by omega,d.up (List.prefix_append _ _),Fr'.pre (List.prefix_append _ _),Acc.new.own⟩ ?_
  rintro m t loc h1 ⟨t0,t1,i,L,v,hm,t6,t5,hL,hi,d1,f1,o⟩;simp only[t1,t6,go_sem]
  refine zt (by simp only[go_sem];rfl) ?_ ?_<;>intro hc
  · have hw:IntKind.i64.wrap ((i:Int)+1)=((i+1:Nat):Int):=w64 (by omega) (by omega)
    obtain⟨x,h2,c2,d2,s2,x0,x1⟩:=ua (X:=X) d1
    have o2:=o.same s2 (.inr (by omega))
    rw[←s2.len] at o2
    obtain⟨v3,h3,c3,q1,q2,o3⟩:=o2.push1 (by rw[s2.len];exact f1.len) [.int .u8 (IntKind.u8.wrap x)] rfl (by rw[V3];unfold lim;omega)
    rw[Nat.max_eq_right q1] at o3
    have f3:=(f1.trans (Fr'.same s2)).push2 q1 (fun c hc=>q2 c (.inl hc))
    simp only[t0,t1,t5,t6,c2,zj,zi,c3,hw,go_sem]
    exact⟨m-1,by omega,i+1,L++[IntKind.u8.wrap x],v3,by omega,rfl,rfl,by simp;omega,by omega,d.push2 d2 f3 (fun c hc=>q2 c (.inl hc)),f3,by simpa[bys] using o3⟩
  · have hst:XB h1 v=some (.string (strOfNums L)):=o.rows.str
    simp only[t5,hst,go_sem]
    refine⟨⟨strOfNums L,by rw[WE],?_⟩,YW d d1 f1⟩
    rw[strOfNums_size];omega
theorem CQ {s:ByteArray}{i:Nat}(hi:i≤s.size):Xz (.string s) none (some (.int .i64 (i:Int)))=some (.string (s.extract 0 i)):=by
  simp only[Xz,bnd]
  rw[if_pos ⟨by omega,by omega,by omega⟩]
  rfl
theorem Fu {s:ByteArray}{i:Nat}(hi:i≤s.size):Xz (.string s) (some (.int .i64 (i:Int))) none=some (.string (s.extract i s.size)):=by
  simp only[Xz,bnd]
  rw[if_pos ⟨by omega,by omega,by omega⟩]
  rfl
theorem fR {s:ByteArray}{i j:Nat}(hj:j≤s.size):(s.extract i j).size≤s.size:=by
  rw[ByteArray.size_extract];omega
theorem bp (d:Dr B b cv l h){s:ByteArray}(hs:s.size≤1000000000):∃(u:ByteArray) (hh:za),C T X Qx [pk b 0,.string s] h=some (.string u,hh)∧u.size≤2*s.size+5000∧Dr B b cv l hh∧Fr' b h hh:=by
  suffices hx:∃w hh,C T X Qx [pk b 0,.string s] h=some (w,hh)∧(∃u:ByteArray,w=.string u∧u.size≤2*s.size+5000)∧Dr B b cv l hh∧Fr' b h hh by
    obtain⟨w,hh,c,⟨s,rfl,hs⟩,r⟩:=hx;exact⟨s,hh,c,hs,r⟩
  refine wU kp rfl ?_;unfold wA;obtain⟨k,h1,c1,d1,s1,k0,k1,_⟩:=ZB (X:=X) d 12
  by_cases q0:k=0
  · obtain⟨u,h2,c2,hu,d2,f2⟩:=JU (X:=X) d1 1
    have hfit:s.size+u.size≤9223372036854775807:=by omega
    simp only[c1,q0,c2,hfit,go_sem]
    refine⟨⟨s++u,by rw[WE],?_⟩,YW d d2 ((Fr'.same s1).trans f2)⟩
    rw[ByteArray.size_append];omega
  by_cases q1:k=1
  · have hw:IntKind.i64.wrap ((s.size:Int)+1)=((s.size+1:Nat):Int):=w64 (by omega) (by omega)
    obtain⟨i,h2,c2,d2,s2,i0,i1,_⟩:=ZB (X:=X) d1 ((s.size+1:Nat):Int);obtain⟨j,rfl⟩:=Int.eq_ofNat_of_zero_le i0
    have hj:j≤s.size:=by have:=i1 (by omega);omega
    simp only[c1,q1,hw,c2,CQ hj,go_sem]
    refine⟨⟨_,by rw[WE],?_⟩,YW d d2 ((Fr'.same s1).trans (Fr'.same s2))⟩
    have:=fR (s:=s) (i:=0) hj;omega
  by_cases q2:k=2∨k=3
  · by_cases hz:(s.size:Int)>0
    · obtain⟨i,h2,c2,d2,s2,i0,i1,_⟩:=ZB (X:=X) d1 (s.size:Int)
      obtain⟨j,rfl⟩:=Int.eq_ofNat_of_zero_le i0
      have hj:j<s.size:=by have:=i1 (by omega);omega
      have hw:IntKind.i64.wrap ((j:Int)+1)=((j+1:Nat):Int):=w64 (by omega) (by omega)
      obtain⟨u,h3,c3,hu,d3,f3⟩:=JU (X:=X) d2 1
      have e1:=fR (s:=s) (i:=0) (j:=j) (by omega)
      have e2:=fR (s:=s) (i:=j+1) (j:=s.size) (Nat.le_refl _)
      have f1:(s.extract 0 j).size+u.size≤9223372036854775807:=by omega
      have f2:(s.extract 0 j).size+u.size+(s.extract (j+1) s.size).size≤9223372036854775807:=by omega
      have fin:(∃v:ByteArray,(zp h (.string (s.extract 0 j++u++s.extract (j+1) s.size),h3)).1=.string v∧v.size≤2*s.size+5000)∧Dr B b cv l (zp h (.string (s.extract 0 j++u++s.extract (j+1) s.size),h3)).2∧Fr' b h (zp h (.string (s.extract 0 j++u++s.extract (j+1) s.size),h3)).2:=by
        refine⟨⟨_,by rw[WE],?_⟩,YW d d3 (((Fr'.same s1).trans (Fr'.same s2)).trans f3)⟩
        rw[ByteArray.size_append,ByteArray.size_append];omega
      rcases q2 with q2 | q2
      · simp only[c1,q2,hz,c2,CQ (show j≤s.size by omega),hw,Fu (show j+1≤s.size by omega),c3,f1,f2,go_sem]
        exact fin
      · simp only[c1,q2,hz,c2,CQ (show j≤s.size by omega),hw,Fu (show j+1≤s.size by omega),c3,f1,f2,go_sem]
        exact fin
    · have fin:(∃v:ByteArray,(zp h (.string s,h1)).1=.string v∧v.size≤2*s.size+5000)∧Dr B b cv l (zp h (.string s,h1)).2∧Fr' b h (zp h (.string s,h1)).2 :=
        ⟨⟨_,by rw[WE],by omega⟩,YW d d1 (Fr'.same s1)⟩
      rcases q2 with q2 | q2
      · simp only[c1,q2,hz,go_sem]
        exact fin
      · simp only[c1,q2,hz,go_sem]
        exact fin
  · have q3:¬k=2:=fun e=>q2 (.inl e)
    have q4:¬k=3:=fun e=>q2 (.inr e)
    simp only[c1,q0,q1,q3,q4,go_sem]
    exact⟨⟨_,by rw[WE],by omega⟩,YW d d1 (Fr'.same s1)⟩
end
section
variable {X:Zb}{h:za}{cv:Value}{l:List Int}
theorem BO (hc:Rows h 1 cv (bys l))(hl:l.length≤1048576){x:Int}:Dr h h.length cv l (h++[WS cv 0 x]) :=
  ⟨List.prefix_append _ _,hc,Nat.le_refl _,by unfold lim;omega,0,x,Nat.zero_le _,by simp⟩
end
end Go.Proofs.Ytafhipglhnfgnaa.Ab
