/- Joined. No conditions. -/
import Derived.Test.YtafhipglhnfgnaaM13
import Derived.Test.YtafhipglhnfgnaaM11
import Derived.Test.YtafhipglhnfgnaaR7
set_option linter.unusedSimpArgs false
set_option linter.unusedVariables false
set_option linter.unnecessarySimpa false
set_option maxHeartbeats 4000000
namespace Go.Proofs.Ytafhipglhnfgnaa.Ab
open Go.RowKit
section
variable {X:Zb}{h:za}{v w ev yv gv:Value}{ys:List Int}{gs:List Gp}{es:List E}{g:Gp}{size:Int}
open Classical in
theorem GO (he:Rows h 5 ev (ZF es))(hy:Rows h 1 yv (zq ys))(hg:qp h gv gs)(hl:es.length≤lim)(hb:uG ys gs):C T X vH [zC size ev,Zg yv gv] h=some (.bool (decide (ug size es ys gs)),h):=by
  have hk:=ur (X:=X) (size:=size) he hl;obtain⟨hyl,hgl,hml⟩:=hb;refine qH xE rfl ?_;unfold W4
  by_cases g1:GOk size es
  rotate_left
  · have hr:¬ug size es ys gs:=fun h=>g1 h.1.1
    unfold zC at hk;unfold zC Zg;simp only[hk,g1,hr,go_sem]
  by_cases g2:(ys.length:Int)=size
  rotate_left
  · have hr:¬ug size es ys gs:=fun h=>g2 h.1.2.1
    unfold zC at hk;unfold zC Zg;simp only[hk,g1,zI hy,g2,hr,go_sem]
  by_cases g3:(8:Int)<gs.length
  · have hr:¬ug size es ys gs:=fun h=>by have:=h.1.2.2;omega
    unfold zC at hk;unfold zC Zg;simp only[hk,g1,zI hy,hg.ln,g2,g3,hr,go_sem]
  have hs:=g1.1
  have hws:IntKind.i64.wrap (size-1)=size-1:=w64 (by omega) (by omega)
  unfold zC at hk;unfold zC Zg;simp only[hk,g1,zI hy,hg.ln,g2,g3,go_sem]
  refine zT ys.length (fun i t loc h'=>h'=h∧loc 2=some [.int .i64 size,ev]∧loc 3=some [yv,gv]∧t 5=.int .i64 i∧∀j,j<i→0≤ys.getD j 0∧ys.getD j 0≤1000000000) ⟨rfl,rfl,rfl,rfl,fun j hj=>by omega⟩ ?_
  rintro i t loc h' hi ⟨rfl,l2,l3,t5,hall⟩;simp only[l3,t5,zI hy,go_sem]
  refine zt (by simp only[go_sem];rfl) ?_ ?_<;>intro hc
  · have hi1:i<ys.length:=by omega
    have hw:IntKind.i64.wrap ((i:Int)+1)=((i+1:Nat):Int):=w64 (by omega) (by omega)
    have hel:=ZU hy hi1
    by_cases b1:0≤ys.getD i 0∧ys.getD i 0≤1000000000
    · have b1':(decide (0≤ys.getD i 0) && decide (ys.getD i 0≤1000000000))=true:=by simp only[Bool.and_eq_true,decide_eq_true_eq];exact b1
      simp only[l2,l3,t5,hel.1,hel.2,Zw,b1',hw,go_sem];exact⟨hi1,zM hall b1⟩
    · have hr:¬ug size es ys gs:=fun h=>b1 (h.2.1 i hi1)
      have b1':(decide (0≤ys.getD i 0) && decide (ys.getD i 0≤1000000000))=false:=by simp only[Bool.and_eq_false_iff,decide_eq_false_iff_not];omega
      simp only[l2,l3,t5,hel.1,hel.2,Zw,b1',hr,go_sem]
  have hil:i=ys.length:=by omega
  subst hil;simp only[l2,l3,go_sem]
  refine zT gs.length (fun i t loc h2=>h2=h'∧loc 2=some [.int .i64 size,ev]∧loc 3=some [yv,gv]∧t 6=.int .i64 i∧∀j,j<i→yj size (gs.getD j g0)∧∀k,k<j→gj (gs.getD k g0).ms (gs.getD j g0).ms) ⟨rfl,rfl,rfl,rfl,fun j hj=>by omega⟩ ?_
  rintro i t loc h2 hi ⟨rfl,l2,l3,t6,hallG⟩;simp only[l3,t6,hg.ln,go_sem]
  refine zt (by simp only[go_sem];rfl) ?_ ?_<;>intro hc
  · have hi1:i<gs.length:=by omega
    have hw:IntKind.i64.wrap ((i:Int)+1)=((i+1:Nat):Int):=w64 (by omega) (by omega)
    obtain⟨x,e1,e2,e3,e4,e5,e6⟩:=hg.el hi1;obtain⟨G,hG⟩:∃G,G=gs.getD i g0:=⟨_,rfl⟩;rw[←hG] at e3 e5 e6
    have hmi:G.ms.length≤1048576:=by rw[hG];exact hml _ (zE (d:=g0) hi1)
    have hno:¬yj size G→¬ug size es ys gs:=fun hn h=>hn (by rw[hG];exact (h.2.2.1 i hi1).1)
    have hmd:((G.ms.length:Nat):Int).tmod 2=((G.ms.length%2:Nat):Int):=rfl
    by_cases a1:(G.ms.length:Int)<3
    · have hr:=hno fun h=>by have:=h.1.1;omega
      simp only[l2,l3,t6,e1,e3,e6.cells,zI e6,a1,hr,go_sem]
    by_cases a2:((G.ms.length%2:Nat):Int)=0
    · have hr:=hno fun h=>by have:=h.1.2.1;omega
      simp only[l2,l3,t6,e1,e3,e6.cells,zI e6,hmd,a1,a2,hr,go_sem]
    by_cases a4:size<(G.ms.length:Int)
    · have hr:=hno fun h=>by have:=be h hs.1;omega
      simp only[l2,l3,t6,e1,e3,e6.cells,zI e6,hmd,a1,a2,a4,hr,go_sem]
    by_cases a3:1≤G.z∧G.z≤1000000000
    rotate_left
    · have hr:=hno fun h=>a3 h.1.2.2
      have a3':(decide (1≤G.z) && decide (G.z≤1000000000))=false:=by simp only[Bool.and_eq_false_iff,decide_eq_false_iff_not];omega
      simp only[l2,l3,t6,e1,e3,e6.cells,zI e6,hmd,Zw,a1,a2,a4,a3',hr,go_sem]
    have a3':(decide (1≤G.z) && decide (G.z≤1000000000))=true:=by simp only[Bool.and_eq_true,decide_eq_true_eq];exact a3
    simp only[l2,l3,t6,e1,e3,e6.cells,zI e6,hmd,Zw,a1,a2,a4,a3',go_sem]
    refine zT G.ms.length (fun k t loc h3=>h3=h2∧loc 2=some [.int .i64 size,ev]∧loc 3=some [yv,gv]∧loc 7=some [x,.int .i64 G.z]∧t 6=.int .i64 i∧t 8=.int .i64 k∧∀j,j<k→(0≤G.ms.getD j 0∧G.ms.getD j 0≤size-1)∧(0<j→G.ms.getD (j-1) 0<G.ms.getD j 0)) ⟨rfl,rfl,rfl,rfl,rfl,rfl,fun j hj=>by omega⟩ ?_
    rintro k t loc h3 hk ⟨rfl,l2,l3,l7,t6,t8,hallM⟩;simp only[l7,t8,zI e6,go_sem]
    refine zt (by simp only[go_sem];rfl) ?_ ?_<;>intro hc
    · have hk1:k<G.ms.length:=by omega
      have hw2:IntKind.i64.wrap ((k:Int)+1)=((k+1:Nat):Int):=w64 (by omega) (by omega)
      have hel:=ZU e6 hk1
      by_cases b1:0≤G.ms.getD k 0∧G.ms.getD k 0≤size-1
      rotate_left
      · have hr:=hno fun h=>b1 (h.2 k hk1).1
        have b1':(decide (0≤G.ms.getD k 0) && decide (G.ms.getD k 0≤size-1))=false:=by simp only[Bool.and_eq_false_iff,decide_eq_false_iff_not];omega
        simp only[l2,l3,l7,t6,t8,hel.1,hel.2,Zw,hws,b1',hr,List.prefix_refl,go_sem]
      have b1':(decide (0≤G.ms.getD k 0) && decide (G.ms.getD k 0≤size-1))=true:=by simp only[Bool.and_eq_true,decide_eq_true_eq];exact b1
      rcases Nat.eq_zero_or_pos k with hz | hp
      · have hz':¬(0:Int)<k:=by omega
        simp only[l2,l3,l7,t6,t8,hel.1,hel.2,Zw,hws,b1',hz',hw2,List.prefix_refl,go_sem]
        exact⟨hk1,zM hallM ⟨b1,fun hp=>by omega⟩⟩
      · have hp':(0:Int)<k:=by omega
        have hw1:IntKind.i64.wrap ((k:Int)-1)=((k-1:Nat):Int):=by rw[w64 (by omega) (by omega)];omega
        have hel2:=ZU e6 (show k-1<G.ms.length by omega)
        by_cases b2:G.ms.getD k 0≤G.ms.getD (k-1) 0
        · have hr:=hno fun h=>by have:=(h.2 k hk1).2 hp;omega
          simp only[l2,l3,l7,t6,t8,hel.1,hel.2,hel2.1,hel2.2,Zw,hws,b1',hp',hw1,b2,hr,List.prefix_refl,go_sem]
        · simp only[l2,l3,l7,t6,t8,hel.1,hel.2,hel2.1,hel2.2,Zw,hws,b1',hp',hw1,b2,hw2,List.prefix_refl,go_sem]
          exact⟨hk1,zM hallM ⟨b1,fun hp=>by omega⟩⟩
    have hkG:k=G.ms.length:=by omega
    subst hkG
    have hGr:yj size G:=⟨⟨by omega,by omega,a3.1,a3.2⟩,hallM⟩
    simp only[l2,l3,l7,t6,go_sem]
    refine zT i (fun k t loc h4=>h4=h3∧loc 2=some [.int .i64 size,ev]∧loc 3=some [yv,gv]∧loc 7=some [x,.int .i64 G.z]∧t 6=.int .i64 i∧t 9=.int .i64 k∧∀j,j<k→gj (gs.getD j g0).ms G.ms) ⟨rfl,rfl,rfl,rfl,rfl,rfl,fun j hj=>by omega⟩ ?_
    rintro k t loc h4 hk ⟨rfl,l2,l3,l7,t6,t9,hallN⟩;simp only[t6,t9,go_sem]
    refine zt (by simp only[go_sem];rfl) ?_ ?_<;>intro hc
    · have hk1:k<i:=by omega
      have hw2:IntKind.i64.wrap ((k:Int)+1)=((k+1:Nat):Int):=w64 (by omega) (by omega)
      obtain⟨z,f1,f2,f3,f4,f5,f6⟩:=hg.el (i:=k) (by omega)
      have hmk:=hml _ (zE (d:=g0) (show k<gs.length by omega))
      have w1:=JV (X:=X) f6 e6 (by unfold lim;omega) (by unfold lim;omega)
      have hnc:=zaS (Gt (hallG k hk1).1) (Gt hGr)
      by_cases c1:gj (gs.getD k g0).ms G.ms
      · have hd:(decide (ZX (gs.getD k g0).ms G.ms=0) || (decide (ZX (gs.getD k g0).ms G.ms=(gs.getD k g0).ms.length) || decide (ZX (gs.getD k g0).ms G.ms=G.ms.length)))=true:=by
          simp only[Bool.or_eq_true,decide_eq_true_eq];exact hnc.1 c1
        rw[hd] at w1;simp only[l2,l3,l7,t6,t9,f1,f2,f4,w1,hw2,List.prefix_refl,go_sem];exact⟨hk1,zM hallN c1⟩
      · have hd:(decide (ZX (gs.getD k g0).ms G.ms=0) || (decide (ZX (gs.getD k g0).ms G.ms=(gs.getD k g0).ms.length) || decide (ZX (gs.getD k g0).ms G.ms=G.ms.length)))=false:=by
          rw[Bool.eq_false_iff];simp only[ne_eq,Bool.or_eq_true,decide_eq_true_eq]
          exact fun h=>c1 (hnc.2 h)
        have hr:¬ug size es ys gs:=fun h=>c1 (by rw[hG];exact (h.2.2.1 i hi1).2 k hk1)
        rw[hd] at w1;simp only[l2,l3,l7,t6,t9,f1,f2,f4,w1,hr,List.prefix_refl,go_sem]
    · have hki:k=i:=by omega
      subst hki;simp only[l2,l3,t6,hw,go_sem];rw[hG] at hGr hallN;exact⟨hi1,zM hallG ⟨hGr,hallN⟩⟩
  have hig:i=gs.length:=by omega
  subst hig
  have fit:=xa (by omega) (by omega) hall hs fun i hi=>(hallG i hi).1
  simp only[l2,l3,go_sem]
  refine zT es.length (fun i t loc h3=>h3=h2∧loc 2=some [.int .i64 size,ev]∧loc 3=some [yv,gv]∧t 10=.int .i64 i∧∀j,j<i→0≤VP ys gs (es.getD j e0)) ⟨rfl,rfl,rfl,rfl,fun j hj=>by omega⟩ ?_
  rintro i t loc h3 hi ⟨rfl,l2,l3,t10,hallS⟩;simp only[l2,t10,he.lnm,go_sem];unfold lim at hl
  refine zt (by simp only[go_sem];rfl) ?_ ?_<;>intro hc
  · have hi1:i<es.length:=by omega
    have hw:IntKind.i64.wrap ((i:Int)+1)=((i+1:Nat):Int):=w64 (by omega) (by omega)
    have hel:=ZK he hi1;have cs:=Ks (X:=X) hy hg fit (uO g1 (zE (d:=e0) hi1)) g2;unfold QN ZT Zg at cs
    by_cases b1:VP ys gs (es.getD i e0)<0
    · have hr:¬ug size es ys gs:=fun h=>by have:=h.2.2.2 i hi1;omega
      simp only[l2,l3,t10,hel.1,hel.2.2.1,cs,b1,hr,List.prefix_refl,go_sem]
    · simp only[l2,l3,t10,hel.1,hel.2.2.1,cs,b1,hw,List.prefix_refl,go_sem]
      exact⟨hi1,zM hallS (by omega)⟩
  · have hr:ug size es ys gs:=⟨⟨g1,g2,by omega⟩,hall,hallG,fun j hj=>hallS j (by omega)⟩
    simp only[hr,go_sem]
theorem xb (p:ug size es ys gs):gn ys gs :=
  xa (by have:=p.1.1.1;have:=p.1.2.1;omega) p.1.2.2 p.2.1 p.1.1.1 fun i hi=>(p.2.2.1 i hi).1
theorem x7 (f:gn ys gs):0≤vM ys gs∧vM ys gs≤100000000000:=by
  have h1:=xq f.y ys.length (Nat.le_refl _);have h2:=xp f.g gs.length (Nat.le_refl _);rw[List.take_length] at h1 h2;have:=f.yl;have:=f.gl;unfold vM;omega
end
def vQ (m:List Cp):List Int:=m.flatMap fun c=>[c.a,c.b]
theorem Us {m:List Cp}{c:Cp}:vQ (m++[c])=vQ m++[c.a,c.b]:=by simp[vQ]
theorem GS {m:List Cp}:(vQ m).length=2*m.length:=by
  unfold vQ
  induction m with
  | nil=>rfl
  | cons c m ih=>simp only[List.flatMap_cons,List.length_append,ih,List.length_cons,List.length_nil];omega
def FI (es:List E)(m:List Cp)(i:Nat):Prop:=(m.getD i c0).a<(m.getD i c0).b∧0≤ZS es (m.getD i c0).a (m.getD i c0).b∧(0<i→(m.getD (i-1) c0).a<(m.getD i c0).a)∧¬(m.getD i c0).a∈vQ (m.take i)∧¬(m.getD i c0).b∈vQ (m.take i)
def MOk (size:Int)(es:List E)(m:List Cp):Prop:=GOk size es∧∀i,i<m.length→FI es m i
theorem Y5:∀ {n:Nat} {l:List Int},l.Nodup→(∀x∈l,0≤x∧x<n)→l.length≤n
  | 0,[],_,_=>Nat.le_refl _
  | 0,a::l,_,h=>by have:=h a List.mem_cons_self;omega
  | n+1,l,hn,h=>by
    by_cases hm:(n:Int)∈l
    · have h1:=List.length_erase_of_mem hm
      have h2:=Y5 (n:=n) (hn.erase (n:Int)) fun x hx=>by
        obtain⟨h3,h4⟩:=(hn.mem_erase_iff).1 hx;have:=h x h4;omega
      omega
    · have:=Y5 (n:=n) hn fun x hx=>by
        have h3:=h x hx
        have:x≠n:=fun e=>hm (e▸hx)
        omega
      omega
theorem Cz {size:Int}{es:List E}{m:List Cp}(g:MOk size es m):∀i,i≤m.length→(vQ (m.take i)).Nodup∧∀x∈vQ (m.take i),0≤x∧x<size:=by
  intro i
  induction i with
  | zero=>intro _;simp[vQ]
  | succ i ih =>
    intro hi
    obtain⟨h1,h2⟩:=ih (by omega)
    obtain⟨c1,c2,c3,c4,c5⟩:=g.2 i (by omega)
    rw[Zj (d:=c0) (by omega),Us]
    obtain⟨e,he,hj⟩:=du.1 c2;have hE:=uO g.1 he;unfold EOk at hE
    refine⟨?_,fun x hx=>?_⟩
    · rw[List.nodup_append]
      refine⟨h1,?_,fun x hx y hy e=>?_⟩
      · simp only[List.nodup_cons,List.mem_singleton,List.not_mem_nil,not_false_eq_true,List.nodup_nil,and_true]
        omega
      · simp only[List.mem_cons,List.not_mem_nil,or_false] at hy
        subst e;rcases hy with rfl | rfl
        · exact c4 hx
        · exact c5 hx
    · rcases List.mem_append.1 hx with hx | hx
      · exact h2 x hx
      · simp only[List.mem_cons,List.not_mem_nil,or_false] at hx
        rcases hj with⟨j1,j2⟩ | ⟨j1,j2⟩<;>rcases hx with rfl | rfl<;>omega
theorem UQ {size:Int}{es:List E}{m:List Cp}(g:MOk size es m):2*(m.length:Int)≤size:=by
  obtain⟨h1,h2⟩:=Cz g m.length (Nat.le_refl _);rw[List.take_length] at h1 h2;have hs:=g.1.1
  have:=Y5 (n:=size.toNat) h1 fun x hx=>by have:=h2 x hx;omega
  rw[GS] at this;omega
section
variable {X:Zb}{h:za}{ev mv:Value}{es:List E}{m:List Cp}{size:Int}
open Classical in
theorem GA (he:Rows h 5 ev (ZF es))(hm:Rows h 2 mv (cps m))(hl:es.length≤lim)(hml:m.length≤1048576):C T X vu [zC size ev,mv] h=some (.bool (decide (MOk size es m)),h):=by
  have hk:=yH (X:=X) (size:=size) he hl;refine qH xv rfl ?_;unfold WV
  by_cases g:GOk size es
  rotate_left
  · have hr:¬MOk size es m:=fun h=>g h.1
    unfold zC at hk ⊢;simp only[hk,g,hr,go_sem]
  have hk':=hk;unfold zC at hk ⊢;simp only[hk,g,hm.lnm,go_sem]
  refine zT m.length (fun i t loc h'=>t 1=mv∧loc 2=some [.int .i64 size,ev]∧t 11=mv∧t 12=.int .i64 m.length∧t 13=.int .i64 i∧h <+: h'∧(∀j,j<i→FI es m j)∧∃v,t 5=v∧Acc h 1 zf v (zq (vQ (m.take i))) h') ⟨rfl,rfl,rfl,rfl,rfl,List.prefix_refl _,fun j hj=>by omega,_,rfl,Acc.nil⟩ ?_
  rintro i t loc h' hi ⟨t1,l2,t11,t12,t13,hp,hall,v,t5,ha⟩;simp only[t12,t13,go_sem]
  refine zt (by simp only[go_sem];rfl) ?_ ?_<;>intro hc
  · have hi1:i<m.length:=by omega
    have hw:IntKind.i64.wrap ((i:Int)+1)=((i+1:Nat):Int):=w64 (by omega) (by omega)
    have hel:=YG (hm.up hp) hi1
    have hneg:¬FI es m i→¬MOk size es m:=fun hn g=>hn (g.2 i hi1)
    have hat:=YI (X:=X) (size:=size) (x:=(m.getD i c0).a) (y:=(m.getD i c0).b) (he.up hp) hl;unfold zC at hat
    have hml2:(vQ (m.take i)).length≤2097152:=by rw[GS];simp;omega
    have ha1:=wY (X:=X) (n:=(m.getD i c0).a) ha.rows (by unfold lim;omega)
    have ha2:=wY (X:=X) (n:=(m.getD i c0).b) ha.rows (by unfold lim;omega)
    by_cases h1:(m.getD i c0).b≤(m.getD i c0).a
    · have hr:=hneg fun h=>by have:=h.1;omega
      simp only[t1,l2,t5,t11,t12,t13,hel.1,hel.2.2.1,hat,ha1,ha2,List.prefix_refl,h1,hr,go_sem];exact zF rfl hp
    by_cases h2:ZS es (m.getD i c0).a (m.getD i c0).b<0
    · have hr:=hneg fun h=>by have:=h.2.1;omega
      simp only[t1,l2,t5,t11,t12,t13,hel.1,hel.2.2.1,hat,ha1,ha2,List.prefix_refl,h1,h2,hr,go_sem];exact zF rfl hp
    have pos:(0<i→(m.getD (i-1) c0).a<(m.getD i c0).a)→¬(m.getD i c0).a∈vQ (m.take i)→¬(m.getD i c0).b∈vQ (m.take i)→FI es m i:=fun a b c=>⟨by omega,by omega,a,b,c⟩
    rcases Nat.eq_zero_or_pos i with hz | hpi
    · have hz':¬(0:Int)<i:=by omega
      by_cases h4:(m.getD i c0).a∈vQ (m.take i)
      · have hr:=hneg fun h=>h.2.2.2.1 h4
        simp only[t1,l2,t5,t11,t12,t13,hel.1,hel.2.2.1,hat,ha1,ha2,List.prefix_refl,h1,h2,hz',h4,hr,go_sem];exact zF rfl hp
      by_cases h5:(m.getD i c0).b∈vQ (m.take i)
      · have hr:=hneg fun h=>h.2.2.2.2 h5
        simp only[t1,l2,t5,t11,t12,t13,hel.1,hel.2.2.1,hat,ha1,ha2,List.prefix_refl,h1,h2,hz',h4,h5,hr,go_sem];exact zF rfl hp
      have hP:=pos (fun h=>by omega) h4 h5
      obtain⟨v',hh',c,ha'⟩:=ha.push [[.int .i64 (m.getD i c0).a],[.int .i64 (m.getD i c0).b]] (by simp) (by simp) (by rw[z9];simp;unfold lim;omega)
      simp only[List.flatten_cons,List.flatten_nil,List.append_nil,List.cons_append,List.nil_append,List.length_cons,List.length_nil,Nat.zero_add,Nat.reduceAdd] at c;simp only[t1,l2,t5,t11,t12,t13,hel.1,hel.2.2.1,hat,ha1,ha2,List.prefix_refl,h1,h2,hz',h4,h5,c,hw,go_sem];refine⟨hi1,ha'.up,zM hall hP,_,rfl,?_⟩;rw[Zj (d:=c0) hi1,Us,←jK];exact ha'
    · have hp':(0:Int)<i:=by omega
      have hw1:IntKind.i64.wrap ((i:Int)-1)=((i-1:Nat):Int):=by rw[w64 (by omega) (by omega)];omega
      have hel2:=YG (hm.up hp) (show i-1<m.length by omega)
      by_cases h3:(m.getD i c0).a≤(m.getD (i-1) c0).a
      · have hr:=hneg fun h=>by have:=h.2.2.1 hpi;omega
        simp only[t1,l2,t5,t11,t12,t13,hel.1,hel.2.2.1,hat,ha1,ha2,List.prefix_refl,hw1,hel2.1,hel2.2.1,hel2.2.2.2.1,h1,h2,hp',h3,hr,go_sem];exact zF rfl hp
      by_cases h4:(m.getD i c0).a∈vQ (m.take i)
      · have hr:=hneg fun h=>h.2.2.2.1 h4
        simp only[t1,l2,t5,t11,t12,t13,hel.1,hel.2.2.1,hat,ha1,ha2,List.prefix_refl,hw1,hel2.1,hel2.2.1,hel2.2.2.2.1,h1,h2,hp',h3,h4,hr,go_sem];exact zF rfl hp
      by_cases h5:(m.getD i c0).b∈vQ (m.take i)
      · have hr:=hneg fun h=>h.2.2.2.2 h5
        simp only[t1,l2,t5,t11,t12,t13,hel.1,hel.2.2.1,hat,ha1,ha2,List.prefix_refl,hw1,hel2.1,hel2.2.1,hel2.2.2.2.1,h1,h2,hp',h3,h4,h5,hr,go_sem];exact zF rfl hp
      have hP:=pos (fun h=>by omega) h4 h5
      obtain⟨v',hh',c,ha'⟩:=ha.push [[.int .i64 (m.getD i c0).a],[.int .i64 (m.getD i c0).b]] (by simp) (by simp) (by rw[z9];simp;unfold lim;omega)
      simp only[List.flatten_cons,List.flatten_nil,List.append_nil,List.cons_append,List.nil_append,List.length_cons,List.length_nil,Nat.zero_add,Nat.reduceAdd] at c;simp only[t1,l2,t5,t11,t12,t13,hel.1,hel.2.2.1,hat,ha1,ha2,List.prefix_refl,hw1,hel2.1,hel2.2.1,hel2.2.2.2.1,h1,h2,hp',h3,h4,h5,c,hw,go_sem];refine⟨hi1,ha'.up,zM hall hP,_,rfl,?_⟩;rw[Zj (d:=c0) hi1,Us,←jK];exact ha'
  · have hr:MOk size es m:=⟨g,fun j hj=>hall j (by omega)⟩
    simp only[hr,go_sem];exact zF rfl hp
open Classical in
theorem GN (he:Rows h 5 ev (ZF es))(hm:Rows h 2 mv (cps m))(hl:es.length≤lim)(hml:m.length≤1048576):C T X vG [zC size ev,mv] h=some (.bool (decide (MOk size es m)),h):=by
  have hk:=ur (X:=X) (size:=size) he hl;refine qH xD rfl ?_;unfold W3
  by_cases g:GOk size es
  rotate_left
  · have hr:¬MOk size es m:=fun h=>g h.1
    unfold zC at hk ⊢;simp only[hk,g,hr,go_sem]
  have hk':=hk;unfold zC at hk ⊢
  by_cases hm9:(9:Int)<m.length
  · have hr:¬MOk size es m:=fun h=>by have:=UQ h;have:=g.1;omega
    simp only[hk,g,hm.lnm,hm9,hr,go_sem]
  simp only[hk,g,hm.lnm,hm9,zj,zi,go_sem]
  refine zT m.length (fun i t loc h'=>t 1=mv∧loc 2=some [.int .i64 size,ev]∧t 6=.int .i64 i∧h <+: h'∧(∀j,j<i→FI es m j)∧∃v,t 5=v∧Acc h 1 zf v (zq (vQ (m.take i))) h') ⟨rfl,rfl,rfl,List.prefix_append _ _,fun j hj=>by omega,_,rfl,Acc.new⟩ ?_
  rintro i t loc h' hi ⟨t1,l2,t6,hp,hall,v,t5,ha⟩;simp only[t1,t6,(hm.up hp).lnm,go_sem]
  refine zt (by simp only[go_sem];rfl) ?_ ?_<;>intro hc
  · have hi1:i<m.length:=by omega
    have hw:IntKind.i64.wrap ((i:Int)+1)=((i+1:Nat):Int):=w64 (by omega) (by omega)
    have hel:=YG (hm.up hp) hi1
    have hneg:¬FI es m i→¬MOk size es m:=fun hn g=>hn (g.2 i hi1)
    have hat:=jM (X:=X) (size:=size) (x:=(m.getD i c0).a) (y:=(m.getD i c0).b) (he.up hp) hl;unfold zC at hat
    have hml2:(vQ (m.take i)).length≤2097152:=by rw[GS];simp;omega
    have ha1:=QK (X:=X) (n:=(m.getD i c0).a) ha.rows (by unfold lim;omega)
    have ha2:=QK (X:=X) (n:=(m.getD i c0).b) ha.rows (by unfold lim;omega)
    by_cases h1:(m.getD i c0).b≤(m.getD i c0).a
    · have hr:=hneg fun h=>by have:=h.1;omega
      simp only[t1,l2,t5,t6,hel.1,hel.2.2.1,hat,ha1,ha2,List.prefix_refl,h1,hr,go_sem];exact zF rfl hp
    have pos:¬ZS es (m.getD i c0).a (m.getD i c0).b<0→(0<i→(m.getD (i-1) c0).a<(m.getD i c0).a)→¬(m.getD i c0).a∈vQ (m.take i)→¬(m.getD i c0).b∈vQ (m.take i)→FI es m i:=fun d a b c=>⟨by omega,by omega,a,b,c⟩
    rcases Nat.eq_zero_or_pos i with hz | hpi
    · have hz':¬(0:Int)<i:=by omega
      by_cases h2:ZS es (m.getD i c0).a (m.getD i c0).b<0
      · have hr:=hneg fun h=>by have:=h.2.1;omega
        simp only[t1,l2,t5,t6,hel.1,hel.2.2.1,hat,ha1,ha2,List.prefix_refl,h1,h2,hz',hr,go_sem];exact zF rfl hp
      by_cases h4:(m.getD i c0).a∈vQ (m.take i)
      · have hr:=hneg fun h=>h.2.2.2.1 h4
        simp only[t1,l2,t5,t6,hel.1,hel.2.2.1,hat,ha1,ha2,List.prefix_refl,h1,h2,hz',h4,hr,go_sem];exact zF rfl hp
      by_cases h5:(m.getD i c0).b∈vQ (m.take i)
      · have hr:=hneg fun h=>h.2.2.2.2 h5
        simp only[t1,l2,t5,t6,hel.1,hel.2.2.1,hat,ha1,ha2,List.prefix_refl,h1,h2,hz',h4,h5,hr,go_sem];exact zF rfl hp
      have hP:=pos h2 (fun h=>by omega) h4 h5
      obtain⟨v',hh',c,ha'⟩:=ha.push [[.int .i64 (m.getD i c0).a],[.int .i64 (m.getD i c0).b]] (by simp) (by simp) (by rw[z9];simp;unfold lim;omega)
      simp only[List.flatten_cons,List.flatten_nil,List.append_nil,List.cons_append,List.nil_append,List.length_cons,List.length_nil,Nat.zero_add,Nat.reduceAdd] at c;simp only[t1,l2,t5,t6,hel.1,hel.2.2.1,hat,ha1,ha2,List.prefix_refl,h1,h2,hz',h4,h5,c,hw,go_sem];refine⟨hi1,ha'.up,zM hall hP,_,rfl,?_⟩;rw[Zj (d:=c0) hi1,Us,←jK];exact ha'
    · have hp':(0:Int)<i:=by omega
      have hw1:IntKind.i64.wrap ((i:Int)-1)=((i-1:Nat):Int):=by rw[w64 (by omega) (by omega)];omega
      have hel2:=YG (hm.up hp) (show i-1<m.length by omega)
      by_cases h3:(m.getD i c0).a≤(m.getD (i-1) c0).a
      · have hr:=hneg fun h=>by have:=h.2.2.1 hpi;omega
        simp only[t1,l2,t5,t6,hel.1,hel.2.2.1,hat,ha1,ha2,List.prefix_refl,hw1,hel2.1,hel2.2.1,hel2.2.2.2.1,h1,hp',h3,hr,go_sem];exact zF rfl hp
      by_cases h2:ZS es (m.getD i c0).a (m.getD i c0).b<0
      · have hr:=hneg fun h=>by have:=h.2.1;omega
        simp only[t1,l2,t5,t6,hel.1,hel.2.2.1,hat,ha1,ha2,List.prefix_refl,h1,h2,hw1,hel2.1,hel2.2.1,hel2.2.2.2.1,hp',h3,hr,go_sem];exact zF rfl hp
      by_cases h4:(m.getD i c0).a∈vQ (m.take i)
      · have hr:=hneg fun h=>h.2.2.2.1 h4
        simp only[t1,l2,t5,t6,hel.1,hel.2.2.1,hat,ha1,ha2,List.prefix_refl,hw1,hel2.1,hel2.2.1,hel2.2.2.2.1,h1,h2,hp',h3,h4,hr,go_sem];exact zF rfl hp
      by_cases h5:(m.getD i c0).b∈vQ (m.take i)
      · have hr:=hneg fun h=>h.2.2.2.2 h5
        simp only[t1,l2,t5,t6,hel.1,hel.2.2.1,hat,ha1,ha2,List.prefix_refl,hw1,hel2.1,hel2.2.1,hel2.2.2.2.1,h1,h2,hp',h3,h4,h5,hr,go_sem];exact zF rfl hp
      have hP:=pos h2 (fun h=>by omega) h4 h5
      obtain⟨v',hh',c,ha'⟩:=ha.push [[.int .i64 (m.getD i c0).a],[.int .i64 (m.getD i c0).b]] (by simp) (by simp) (by rw[z9];simp;unfold lim;omega)
      simp only[List.flatten_cons,List.flatten_nil,List.append_nil,List.cons_append,List.nil_append,List.length_cons,List.length_nil,Nat.zero_add,Nat.reduceAdd] at c;simp only[t1,l2,t5,t6,hel.1,hel.2.2.1,hat,ha1,ha2,List.prefix_refl,hw1,hel2.1,hel2.2.1,hel2.2.2.2.1,h1,h2,hp',h3,h4,h5,c,hw,go_sem];refine⟨hi1,ha'.up,zM hall hP,_,rfl,?_⟩;rw[Zj (d:=c0) hi1,Us,←jK];exact ha'
  · have hr:MOk size es m:=⟨g,fun j hj=>hall j (by omega)⟩
    simp only[hr,go_sem];exact zF rfl hp
end
section
variable {X:Zb}{h:za}{ev mv:Value}{es:List E}{m:List Cp}{size:Int}
end
def ZV (es:List E)(m:List Cp):Int:=m.foldl (fun s c=>s+ZJ (es.getD (ZS es c.a c.b).toNat e0).w1 (es.getD (ZS es c.a c.b).toNat e0).w2 (es.getD (ZS es c.a c.b).toNat e0).w3) 0
def Xy (es:List E)(c:Cp):Int:=ZJ (es.getD (ZS es c.a c.b).toNat e0).w1 (es.getD (ZS es c.a c.b).toNat e0).w2 (es.getD (ZS es c.a c.b).toNat e0).w3
theorem yY {es:List E}{m:List Cp}{i:Nat}(hi:i<m.length):ZV es (m.take (i+1))=ZV es (m.take i)+Xy es (m.getD i c0):=by
  unfold ZV;rw[Zj (d:=c0) hi,List.foldl_append];rfl
theorem zaE {es:List E}{a b:Int}(h:0≤ZS es a b):∃k:Nat,ZS es a b=k∧k<es.length:=by
  unfold ZS at *;rcases Vx (p:=yp a b) e0 es with⟨h1,_⟩ | ⟨i,h1,h2,_⟩
  · omega
  · exact⟨i,h1,h2⟩
theorem xj {size:Int}{es:List E}{m:List Cp}(g:MOk size es m){i:Nat}(hi:i<m.length):0≤Xy es (m.getD i c0)∧Xy es (m.getD i c0)≤5000000:=by
  obtain⟨k,h1,h2⟩:=zaE (g.2 i hi).2.1;have hE:=uO g.1 (zE (d:=e0) h2);unfold EOk at hE;unfold Xy;rw[h1];simp only[Int.toNat_natCast];unfold ZJ;omega
theorem jh {size:Int}{es:List E}{m:List Cp}(g:MOk size es m):∀i,i≤m.length→0≤ZV es (m.take i)∧ZV es (m.take i)≤5000000*i:=by
  intro i
  induction i with
  | zero=>intro _;simp[ZV]
  | succ i ih =>
    intro hi
    have h1:=ih (by omega)
    have h2:=xj g (show i<m.length by omega)
    rw[yY (by omega)]
    omega
def ZG (size:Int)(es:List E)(m:List Cp)(ys:List Int)(gs:List Gp):Prop:=ug size es ys gs∧MOk size es m∧2*ZV es m=vM ys gs
section
variable {X:Zb}{h:za}{v w ev yv gv mv:Value}{ys:List Int}{gs:List Gp}{es:List E}{m:List Cp}{size:Int}
theorem Kt (he:Rows h 5 ev (ZF es))(hm:Rows h 2 mv (cps m))(hl:es.length≤lim)(hml:m.length≤1048576)(g:MOk size es m):C T X WB [zC size ev,mv] h=some (.int .i64 (ZV es m),h):=by
  have hgl:=UQ g;have g11:=g.1.1;have hwb:=jh g;refine qH KQ rfl ?_;unfold Ww zC;simp only[go_sem]
  refine zT m.length (fun i t loc h'=>h'=h∧t 1=mv∧loc 2=some [.int .i64 size,ev]∧t 5=.int .i64 (ZV es (m.take i))∧t 6=.int .i64 i) ⟨rfl,rfl,rfl,rfl,rfl⟩ ?_
  rintro i t loc h' hi ⟨rfl,t1,l2,t5,t6⟩;simp only[t1,t6,hm.lnm,go_sem]
  refine zt (by simp only[go_sem];rfl) ?_ ?_<;>intro hc
  · have hi1:i<m.length:=by omega
    have hw:IntKind.i64.wrap ((i:Int)+1)=((i+1:Nat):Int):=w64 (by omega) (by omega)
    have hel:=YG hm hi1;have cat:=jM (X:=X) (size:=size) (x:=(m.getD i c0).a) (y:=(m.getD i c0).b) he hl;obtain⟨k,h1,h2⟩:=zaE (g.2 i hi1).2.1;rw[h1] at cat;have hek:=ZK he h2;have hWk:=XT (uO g.1 (zE (d:=e0) h2));have csc:=Vy (X:=X) (h:=h') hWk
    have hsc:ZJ (es.getD k e0).w1 (es.getD k e0).w2 (es.getD k e0).w3=Xy es (m.getD i c0):=by unfold Xy;rw[h1];rfl
    rw[hsc] at csc;have hst:=yY (es:=es) hi1
    have b1:=hwb i (by omega)
    have b2:=xj g hi1
    have hw2:IntKind.i64.wrap (ZV es (m.take i)+Xy es (m.getD i c0))=ZV es (m.take (i+1)):=by rw[hst];exact w64 (by omega) (by omega)
    unfold zC at cat;unfold QN ZT at csc;simp only[t1,l2,t5,t6,hel.1,hel.2.1,hel.2.2.2.1,hel.2.2.2.2,cat,hek.1,hek.2.2.1,csc,hw2,hw,List.prefix_refl,go_sem];exact hi1
  · have hil:i=m.length:=by omega
    subst hil;rw[List.take_length] at t5;simp only[t5,go_sem]
open Classical in
theorem Um (he : Rows h 5 ev (ZF es)) (hm : Rows h 2 mv (cps m)) (hy : Rows h 1 yv (zq ys)) (hg : qp h gv gs) (hl : es.length ≤ lim) (hml : m.length ≤ 1048576) (hb : uG ys gs) :
    C T X Qu [zC size ev,mv,Zg yv gv] h=some (.bool (decide (ZG size es m ys gs)),h):=by
  have k1:=GO (X:=X) (size:=size) he hy hg hl hb;have k2:=GN (X:=X) (size:=size) he hm hl hml;refine qH ko rfl ?_;unfold ww
  by_cases p:ug size es ys gs
  rotate_left
  · have hr:¬ZG size es m ys gs:=fun h=>p h.1
    unfold zC Zg at *;simp only[k1,p,hr,List.prefix_refl,go_sem]
  by_cases g:MOk size es m
  rotate_left
  · have hr:¬ZG size es m ys gs:=fun h=>g h.2.1
    unfold zC Zg at *;simp only[k1,k2,p,g,hr,List.prefix_refl,go_sem]
  have f:=xb p;have hwb:=x7 f;have cw:=Xu (X:=X) hy hg f;have c2:=Kt (X:=X) he hm hl hml g;have b1:=jh g m.length (Nat.le_refl _);rw[List.take_length] at b1;have hgl:=UQ g;have g11:=g.1.1
  have hw2:IntKind.i64.wrap (2*ZV es m)=2*ZV es m:=w64 (by omega) (by omega)
  by_cases q:2*ZV es m=vM ys gs
  · have hr:ZG size es m ys gs:=⟨p,g,q⟩
    unfold zC Zg at *;simp only[k1,k2,p,g,cw,c2,hw2,decide_eq_true q,hr,List.prefix_refl,go_sem]
  · have hr:¬ZG size es m ys gs:=fun h=>q h.2.2
    unfold zC Zg at *;simp only[k1,k2,p,g,cw,c2,hw2,q,hr,List.prefix_refl,go_sem]
open Classical in
theorem Ve (he : Rows h 5 ev (ZF es)) (hm : Rows h 2 mv (cps m)) (hy : Rows h 1 yv (zq ys)) (hg : qp h gv gs) (hl : es.length ≤ lim) (hml : m.length ≤ 1048576) (hb : uG ys gs) :
    C T X Qt [zC size ev,mv,Zg yv gv] h=some (.bool (decide (ZG size es m ys gs)),h):=by
  have k1:=GB (X:=X) (size:=size) he hy hg hl hb;have k2:=GA (X:=X) (size:=size) he hm hl hml;refine qH kl rfl ?_;unfold wo
  by_cases p:ug size es ys gs
  rotate_left
  · have hr:¬ZG size es m ys gs:=fun h=>p h.1
    unfold zC Zg at *;simp only[k1,p,hr,List.prefix_refl,go_sem]
  by_cases g:MOk size es m
  rotate_left
  · have hr:¬ZG size es m ys gs:=fun h=>g h.2.1
    unfold zC Zg at *;simp only[k1,k2,p,g,hr,List.prefix_refl,go_sem]
  have f:=xb p;have hwt:=x7 f
  have cw:=Xs (X:=X) hy hg f fun i hi=>(p.2.2.1 i hi).1.1.2.1
  have hwb:=jh g;have hgl:=UQ g;have g11:=g.1.1;unfold zC Zg at *;simp only[k1,k2,p,g,hm.lnm,go_sem]
  refine zT m.length (fun i t loc h'=>h'=h∧loc 3=some [.int .i64 size,ev]∧loc 5=some [yv,gv]∧t 7=.int .i64 (ZV es (m.take i))∧t 20=mv∧t 21=.int .i64 m.length∧t 22=.int .i64 i) ⟨rfl,rfl,rfl,rfl,rfl,rfl,rfl⟩ ?_
  rintro i t loc h' hi ⟨rfl,l3,l5,t7,t20,t21,t22⟩;simp only[t21,t22,go_sem]
  refine zt (by simp only[go_sem];rfl) ?_ ?_<;>intro hc
  · have hi1:i<m.length:=by omega
    have hw:IntKind.i64.wrap ((i:Int)+1)=((i+1:Nat):Int):=w64 (by omega) (by omega)
    have hel:=YG hm hi1;have cat:=YI (X:=X) (size:=size) (x:=(m.getD i c0).a) (y:=(m.getD i c0).b) he hl;obtain⟨k,h1,h2⟩:=zaE (g.2 i hi1).2.1;rw[h1] at cat;have hek:=ZK he h2;have hWk:=XT (uO g.1 (zE (d:=e0) h2));have csc:=YH (X:=X) (h:=h') hWk
    have hsc:ZJ (es.getD k e0).w1 (es.getD k e0).w2 (es.getD k e0).w3=Xy es (m.getD i c0):=by unfold Xy;rw[h1];rfl
    rw[hsc] at csc;have hst:=yY (es:=es) hi1
    have b1:=hwb i (by omega)
    have b2:=xj g hi1
    have hw2:IntKind.i64.wrap (ZV es (m.take i)+Xy es (m.getD i c0))=ZV es (m.take (i+1)):=by rw[hst];exact w64 (by omega) (by omega)
    unfold zC at cat;unfold QN ZT at csc;simp only[l3,l5,t7,t20,t21,t22,hel.1,hel.2.2.1,cat,hek.1,hek.2.2.1,csc,hw2,hw,List.prefix_refl,go_sem];exact hi1
  · have hil:i=m.length:=by omega
    subst hil;have b1:=hwb m.length (Nat.le_refl _);rw[List.take_length] at t7 b1
    have hw2:IntKind.i64.wrap (2*ZV es m)=2*ZV es m:=w64 (by omega) (by omega)
    by_cases q:2*ZV es m=vM ys gs
    · have hr:ZG size es m ys gs:=⟨p,g,q⟩
      simp only[l5,t7,cw,hw2,decide_eq_true q,hr,List.prefix_refl,go_sem]
    · have hr:¬ZG size es m ys gs:=fun h=>q h.2.2
      simp only[l5,t7,cw,hw2,q,hr,List.prefix_refl,go_sem]
end
theorem Cq {size:Int}{es:List E}(g:GOk size es){i:Nat}:∀j,i<j→j<es.length→ELt (es.getD i e0) (es.getD j e0)
  | j+1,h,hj=>by
    have h1:=(g.2 (j+1) hj).2 (by omega)
    rw[Nat.add_sub_cancel] at h1
    by_cases e:i=j
    · rw[e];exact h1
    · have h2:=Cq g (i:=i) j (by omega) (by omega)
      unfold ELt at *;omega
theorem KW {size:Int}{es:List E}(g:GOk size es){e:Nat}(he:e<es.length):ZS es (es.getD e e0).a (es.getD e e0).b=e:=by
  refine Vd (d:=e0) he (.inl ⟨rfl,rfl⟩) fun j hj hJ=>?_
  have h1:=Cq g e hj he;have h2:=(g.2 e he).1
  have h3:=(g.2 j (by omega)).1
  unfold ELt at h1;unfold EOk at h2 h3
  rcases hJ with q | q<;>omega
theorem zee {size:Int}{es:List E}{n:Nat}(g:GOk size es)(hn:size=n):∀e,e<es.length→vA es e<n∧vB es e<n∧vA es e≠vB es e:=fun e he=>by
  have h:=(g.2 e he).1;unfold EOk at h;unfold vA vB;omega
theorem wG {size:Int}{es:List E}(g:GOk size es){e:Nat}(he:e<es.length):(es.getD e e0).a=(vA es e:Int)∧(es.getD e e0).b=(vB es e:Int)∧vA es e<vB es e:=by
  have h:=(g.2 e he).1;unfold EOk at h;unfold vA vB;omega
theorem zav {size:Int}{es:List E}(g:GOk size es){e:Nat}(he:e<es.length):0≤vW es e∧vW es e≤4515050:=by
  have h:=(g.2 e he).1;unfold EOk at h;unfold vW ZJ;omega
def YU (es:List E)(m:Nat→Option Nat)(v:Nat):Option Cp:=match m v with
  | some e=>if vA es e=v then some ⟨(v:Int),(vB es e:Int)⟩ else none
  | none=>none
def Gb (es:List E)(n:Nat)(m:Nat→Option Nat):List Cp:=(List.range n).filterMap (YU es m)
section
variable {es:List E}{s s':Sv}{n:Nat}{m:Nat→Option Nat}{v e p:Nat}{size Y M:Int}
theorem Ui {c:Cp}(h:YU es m v=some c):∃e,m v=some e∧vA es e=v∧c=⟨(v:Int),(vB es e:Int)⟩:=by
  unfold YU at h
  cases hm:m v with
  | none=>rw[hm] at h;cases h
  | some e =>
    rw[hm] at h;simp only at h
    by_cases q:vA es e=v
    · rw[if_pos q] at h;exact⟨e,rfl,q,(Option.some.inj h).symm⟩
    · rw[if_neg q] at h;cases h
def Di (c d:Cp):Prop:=c.a<d.a∧d.a≠c.b∧d.b≠c.a∧d.b≠c.b
theorem zeo {l:List Cp}(g:GOk size es)(h1:∀c∈l,c.a<c.b∧0≤ZS es c.a c.b)(h2:l.Pairwise Di):MOk size es l:=by
  have hp:∀i j,i<j→j<l.length→Di (l.getD i c0) (l.getD j c0):=fun i j hij hj=>by
    have:=List.pairwise_iff_getElem.1 h2 i j (by omega) hj hij
    simpa[List.getD,hj,show i<l.length by omega] using this
  refine⟨g,fun i hi=>?_⟩
  obtain⟨q1,q2⟩:=h1 _ (zE (d:=c0) hi)
  have out:∀x,x∈vQ (l.take i)→∃j,j<i∧(x=(l.getD j c0).a∨x=(l.getD j c0).b):=fun x hx=>by
    unfold vQ at hx;obtain⟨c,hc,hx⟩:=List.mem_flatMap.1 hx;obtain⟨j,hj,e⟩:=Zv (d:=c0) hc;rw[List.length_take] at hj
    have e2:(l.take i).getD j c0=l.getD j c0:=by
      rw[List.getD_eq_getElem?_getD,List.getElem?_take,if_pos (by omega),←List.getD_eq_getElem?_getD]
    rw[e2] at e;subst e
    refine⟨j,by omega,?_⟩
    simpa using hx
  refine⟨q1,q2,fun h0=>(hp (i-1) i (by omega) hi).1,fun hx=>?_,fun hx=>?_⟩
  · obtain⟨j,hj,e⟩:=out _ hx
    obtain⟨a1,a2,a3,a4⟩:=hp j i hj hi;rcases e with e | e
    · omega
    · exact a2 e
  · obtain⟨j,hj,e⟩:=out _ hx
    obtain⟨a1,a2,a3,a4⟩:=hp j i hj hi;rcases e with e | e
    · exact a3 e
    · exact a4 e
theorem zce (g:GOk size es)(hn:size=n)(H:Pm es n m):MOk size es (Gb es n m):=by
  refine zeo g (fun c hc=>?_) ?_
  · obtain⟨v,hv,h⟩:=List.mem_filterMap.1 hc
    obtain⟨e,h1,h2,h3⟩:=Ui h;obtain⟨he,_⟩:=H.of v e (List.mem_range.1 hv) h1;obtain⟨i1,i2,i3⟩:=wG g he;rw[h3,←h2,←i1,←i2]
    refine⟨by show (es.getD e e0).a<(es.getD e e0).b;omega,?_⟩
    show 0≤ZS es (es.getD e e0).a (es.getD e e0).b;rw[KW g he];omega
  · unfold Gb
    rw[List.pairwise_filterMap]
    refine List.Pairwise.imp_of_mem (R:=(·<·)) (fun {v w} hv hw hvw c hc d hd=>?_) List.pairwise_lt_range
    obtain⟨e,h1,h2,h3⟩:=Ui hc;obtain⟨f,g1,g2,g3⟩:=Ui hd;obtain⟨e1,e2,e3,_⟩:=H.of v e (List.mem_range.1 hv) h1;obtain⟨f1,f2,f3,_⟩:=H.of w f (List.mem_range.1 hw) g1
    have ne:e≠f:=fun q=>by rw[q] at h2;omega
    subst h3 g3
    refine⟨by show (v:Int)<w;omega,fun q=>?_,fun q=>?_,fun q=>?_⟩
    · have q':w=vB es e:=by have:(w:Int)=vB es e:=q;omega
      rw[←q',g1] at e3;exact ne (Option.some.inj e3).symm
    · have q':vB es f=v:=by have:(vB es f:Int)=v:=q;omega
      rw[q',h1] at f3;exact ne (Option.some.inj f3)
    · have q':vB es f=vB es e:=by have:(vB es f:Int)=vB es e:=q;omega
      rw[q',e3] at f3;exact ne (Option.some.inj f3)
theorem cV {a b:List Cp}:ZV es (a++b)=ZV es a+ZV es b:=by
  have key:∀(l:List Cp) (x:Int),l.foldl (fun s c=>s+ZJ (es.getD (ZS es c.a c.b).toNat e0).w1 (es.getD (ZS es c.a c.b).toNat e0).w2 (es.getD (ZS es c.a c.b).toNat e0).w3) x=x+ZV es l:=by
    intro l;unfold ZV
    induction l with
    | nil=>intro x;simp
    | cons c l ih =>
      intro x;simp only[List.foldl_cons];rw[ih,ih (0+_)];omega
  unfold ZV;rw[List.foldl_append,key];rfl
open Classical in
theorem dr (g:GOk size es)(H:Pm es n m):ZV es (Gb es n m)=SI (fun e=>if m (vA es e)=some e then vW es e else 0) es.length:=by
  have h1:∀k,k≤n→ZV es (Gb es k m)=SI (fun v=>SI (fun e=>if m v=some e∧vA es e=v then vW es e else 0) es.length) k:=by
    intro k
    induction k with
    | zero=>intro _;rfl
    | succ k ih =>
      intro hk
      have e1:Gb es (k+1) m=Gb es k m++[k].filterMap (YU es m):=by unfold Gb;rw[List.range_succ,List.filterMap_append]
      rw[e1,cV,ih (by omega)]
      show _=SI _ k+SI _ es.length
      congr 1
      cases hc:YU es m k with
      | none =>
        have:[k].filterMap (YU es m)=[]:=by simp[hc]
        rw[this]
        rw[Z4 (g:=fun _=>0) fun e _=>if_neg fun q=>?_,uI]
        · rfl
        · unfold YU at hc
          rw[q.1] at hc;simp only[q.2,if_true] at hc;cases hc
      | some c =>
        have:[k].filterMap (YU es m)=[c]:=by simp[hc]
        rw[this];obtain⟨e,h1,h2,h3⟩:=Ui hc
        obtain⟨he,_⟩:=H.of k e (by omega) h1
        obtain⟨i1,i2,i3⟩:=wG g he
        rw[YR (a:=e) he fun i _ hi=>if_neg fun q=>hi (Option.some.inj (h1.symm.trans q.1)).symm,if_pos ⟨h1,h2⟩]
        have:ZS es c.a c.b=e:=by rw[h3];show ZS es (k:Int) (vB es e)=e;rw[←h2,←i1,←i2];exact KW g he
        unfold ZV;simp only[List.foldl_cons,List.foldl_nil,this,Int.toNat_natCast,Int.zero_add];rfl
  rw[h1 n (Nat.le_refl n),KT]
  refine Z4 fun e he=>?_
  rw[YR (a:=vA es e) (H.ed e he).1 fun i _ hi=>if_neg fun q=>hi q.2.symm]
  by_cases c:m (vA es e)=some e
  · rw[if_pos c,if_pos ⟨c,rfl⟩]
  · rw[if_neg c,if_neg (fun q=>c q.1)]
end
def vP (s:Sv):List Int:=(List.range s.n).map s.y
open Classical in
noncomputable def wP (s:Sv)(p:Nat):List Int:=((List.range s.n).filter fun v=>decide (Wi s v p)).map fun v:Nat=>(v:Int)
open Classical in
noncomputable def U6 (s:Sv):List Nat:=(List.range s.N).filter fun p=>decide (zg s p∧0<s.z p)
noncomputable def uQ (s:Sv)(p:Nat):Gp:=⟨wP s p,s.z p⟩
section
variable {es:List E}{s s':Sv}{n:Nat}{m:Nat→Option Nat}{v e p:Nat}{size Y M a b:Int}{ps:List Nat}
theorem Xa:p∈U6 s↔zg s p∧0<s.z p:=by
  unfold U6;simp only[List.mem_filter,List.mem_range,decide_eq_true_eq]
  exact⟨fun h=>h.2,fun h=>⟨h.1.2.1,h⟩⟩
theorem yN {x:Int}:x∈wP s p↔∃v:Nat,x=v∧v<s.n∧Wi s v p:=by
  unfold wP;simp only[List.mem_map,List.mem_filter,List.mem_range,decide_eq_true_eq];constructor
  · rintro⟨v,h,rfl⟩;exact⟨v,rfl,h⟩
  · rintro⟨v,rfl,h⟩;exact⟨v,h,rfl⟩
theorem yO (hv:v<s.n):(v:Int)∈wP s p↔Wi s v p:=by
  rw[yN];constructor
  · rintro⟨w,e,_,h⟩
    have:v=w:=by omega
    rw[this];exact h
  · exact fun h=>⟨v,rfl,hv,h⟩
theorem zaO:(wP s p).Pairwise (·<·):=by
  unfold wP;rw[List.pairwise_map]
  exact (List.Pairwise.filter _ List.pairwise_lt_range).imp fun h=>by omega
open Classical in
theorem bL:((wP s p).length:Int)=Jq s p:=by
  unfold wP Jq;rw[List.length_map]
  generalize s.n=k
  induction k with
  | zero=>rfl
  | succ k ih =>
    rw[List.range_succ,List.filter_append,List.length_append];show _=SI _ k+_;rw[←ih]
    by_cases h:Wi s k p
    · simp[h]
    · simp[h]
theorem zbJ {l k:List Int}:vR (l++k)=vR l+vR k:=by
  have key:∀(l:List Int) (x:Int),l.foldl (·+·) x=x+vR l:=by
    intro l;unfold vR
    induction l with
    | nil=>intro x;simp
    | cons c l ih =>
      intro x;simp only[List.foldl_cons];rw[ih,ih (0+_)];omega
  unfold vR;rw[List.foldl_append,key];rfl
theorem zfu:vR (vP s)=SI s.y s.n:=by
  unfold vP
  generalize s.n=k
  induction k with
  | zero=>rfl
  | succ k ih =>
    rw[List.range_succ,List.map_append,zbJ,ih];show _+vR [s.y k]=SI s.y k+s.y k;unfold vR;simp
theorem FF (hv:v<s.n):(vP s).getD v 0=s.y v:=by
  unfold vP;simp[List.getD,hv]
theorem Dc {g g':List Gp}(h:g.Perm g'):VQ g=VQ g':=by
  unfold VQ
  exact h.foldl_eq' (fun x _ y _ z=>by omega) 0
theorem BT {g g':List Gp}(h:g.Perm g'):qN a b g=qN a b g':=by
  unfold qN
  exact h.foldl_eq' (fun x _ y _ z=>by split<;>split<;>omega) 0
theorem zbI {l k:List Gp}:VQ (l++k)=VQ l+VQ k:=by
  have key:∀(l:List Gp) (x:Int),l.foldl (fun s g=>s+g.z*((g.ms.length / 2:Nat):Int)) x=x+VQ l:=by
    intro l;unfold VQ
    induction l with
    | nil=>intro x;simp
    | cons c l ih =>
      intro x;simp only[List.foldl_cons];rw[ih,ih (0+_)];omega
  unfold VQ;rw[List.foldl_append,key];rfl
theorem dz {l k:List Gp}:qN a b (l++k)=qN a b l+qN a b k:=by
  have key:∀(l:List Gp) (x:Int),l.foldl (fun s g=>if a∈g.ms∧b∈g.ms then s+g.z else s) x=x+qN a b l:=by
    intro l;unfold qN
    induction l with
    | nil=>intro x;simp
    | cons c l ih =>
      intro x;simp only[List.foldl_cons];split
      · rw[ih,ih (0+_)];omega
      · rw[ih]
  unfold qN;rw[List.foldl_append,key];rfl
open Classical in
theorem Dh (K:Ok es s)(hodd:∀p,zg s p→Jq s p%2=1):VQ ((U6 s).map (uQ s))=SI (fun p=>if zg s p then s.z p*((Jq s p-1) / 2) else 0) s.N:=by
  have:∀k,VQ (((List.range k).filter fun p=>decide (zg s p∧0<s.z p)).map (uQ s))=SI (fun p=>if zg s p then s.z p*((Jq s p-1) / 2) else 0) k:=by
    intro k
    induction k with
    | zero=>rfl
    | succ k ih =>
      rw[List.range_succ,List.filter_append,List.map_append,zbI,ih];show _=SI _ k+if zg s k then s.z k*((Jq s k-1) / 2) else 0
      congr 1
      by_cases h:zg s k
      · rw[if_pos h]
        have z0:=(K.z0 k h).1
        by_cases q:0<s.z k
        · have e:[k].filter (fun p=>decide (zg s p∧0<s.z p))=[k]:=by simp[h,q]
          rw[e];unfold VQ;simp only[List.map_cons,List.map_nil,List.foldl_cons,List.foldl_nil,Int.zero_add];show s.z k*(((wP s k).length / 2:Nat):Int)=_
          congr 1
          have h1:=bL (s:=s) (p:=k);have h2:=hodd k h;omega
        · have e:[k].filter (fun p=>decide (zg s p∧0<s.z p))=[]:=by simp[q]
          rw[e,show s.z k=0 by omega,Int.zero_mul]
          rfl
      · have e:[k].filter (fun p=>decide (zg s p∧0<s.z p))=[]:=by simp[h]
        rw[e,if_neg h];rfl
  exact this s.N
open Classical in
theorem zfv (K:Ok es s){u w:Nat}(hu:u<s.n)(hw:w<s.n):qN (u:Int) w ((U6 s).map (uQ s))=qJ s u w s.N:=by
  have:∀k,k≤s.N→qN (u:Int) w (((List.range k).filter fun p=>decide (zg s p∧0<s.z p)).map (uQ s))=qJ s u w k:=by
    intro k
    induction k with
    | zero=>intro _;rfl
    | succ k ih =>
      intro hk
      rw[List.range_succ,List.filter_append,List.map_append,dz,ih (by omega)]
      show _=qJ s u w k+_
      congr 1
      have hm:∀x,x<s.n→((x:Int)∈(uQ s k).ms↔Wi s x k):=fun x hx=>yO hx
      by_cases c:s.n≤k∧Wi s u k∧Wi s w k
      · have hr:zg s k:=⟨c.1,by omega,K.wi_gone c.2.1 (K.ngone hu)⟩
        have z0:=(K.z0 k hr).1;rw[if_pos c]
        by_cases q:0<s.z k
        · have e:[k].filter (fun p=>decide (zg s p∧0<s.z p))=[k]:=by simp[hr,q]
          rw[e];unfold qN;simp only[List.map_cons,List.map_nil,List.foldl_cons,List.foldl_nil,Int.zero_add];rw[if_pos ⟨(hm u hu).2 c.2.1,(hm w hw).2 c.2.2⟩];rfl
        · have e:[k].filter (fun p=>decide (zg s p∧0<s.z p))=[]:=by simp[q]
          rw[e,show s.z k=0 by omega]
          rfl
      · rw[if_neg c]
        by_cases q:zg s k∧0<s.z k
        · have e:[k].filter (fun p=>decide (zg s p∧0<s.z p))=[k]:=by simp[q]
          rw[e];unfold qN;simp only[List.map_cons,List.map_nil,List.foldl_cons,List.foldl_nil]
          rw[if_neg fun g=>c ⟨q.1.1,(hm u hu).1 g.1,(hm w hw).1 g.2⟩]
        · have e:[k].filter (fun p=>decide (zg s p∧0<s.z p))=[]:=by simp only[List.filter_cons,decide_eq_false q];rfl
          rw[e];rfl
  exact this s.N (Nat.le_refl _)
theorem cL (K:Ok es s)(hp:zg s p):3≤(wP s p).length:=by
  obtain⟨r1,r2,r3,r4⟩:=K.ring p hp
  have mem:∀j∈s.mem p,s.base j<s.n∧Wi s (s.base j) j∧s.up j=some p:=fun j hj=>by
    have h:=r4 j hj;obtain⟨h1,h2,h3,_⟩:=K.up j p h
    obtain⟨b1,b2⟩:=K.base j (by have:=h2.2.1;omega) h3
    exact⟨b1,b2,h⟩
  have nd:((s.mem p).map fun j=>s.base j).Nodup:=by
    rw[List.nodup_iff_pairwise_ne,List.pairwise_map]
    refine List.Pairwise.imp_of_mem (R:=(·≠·)) (fun {i j} hi hj hne q=>?_) (List.nodup_iff_pairwise_ne.1 r3)
    obtain⟨b1,b2,b3⟩:=mem i hi;obtain⟨c1,c2,c3⟩:=mem j hj;rw[←q] at c2
    have key:∀ {x y:Nat},Wi s x y→s.up x=some p→s.up y=some p→x=y:=fun {x y} w hx hy=>by
      cases w with
      | refl=>rfl
      | step k1 k2 =>
        rw[hx] at k1;cases k1;have h1:=k2.le K.upOk;have h2:=(K.up _ _ hy).1;omega
    rcases b2.chain c2 with g | g
    · exact hne (key g b3 c3)
    · exact hne (key g c3 b3).symm
  have h:=qw (a:=(s.mem p).map fun j=>s.base j) (b:=(wP s p).map Int.toNat) nd fun x hx=>by
    obtain⟨j,hj,rfl⟩:=List.mem_map.1 hx;obtain⟨b1,b2,b3⟩:=mem j hj;refine List.mem_map.2 ⟨(s.base j:Int),(yO b1).2 (b2.trans (.one b3)),Int.toNat_natCast _⟩
  rw[List.length_map,List.length_map] at h;omega
theorem zfw (K:Ok es s)(h9:s.n≤9):(U6 s).length≤4:=by
  have h1:=qw (a:=U6 s) (b:=Zh s) (List.Pairwise.filter _ List.nodup_range) fun p hp=>zY.2 (Xa.1 hp).1
  have:=xg K;omega
theorem DZ (g:GOk size es)(hn:size=s.n)(K:Ok es s)(L:Lo s Y)(D:Bd s Y M)(hM:M≤10000000)(F:Frz s)(O:Vv es s s')(hp:ps.Perm (U6 s)):ZG size es (Gb es s.n s'.mate) (vP s) (ps.map (uQ s)):=by
  obtain⟨P,C,hw⟩:=dv K F O
  have h9:s.n≤9:=by have:=g.1;omega
  have hodd:∀p,zg s p→Jq s p%2=1:=fun p hr=>by rw[Cf P C hr.2.1 hr.2.2];omega
  have hpm:∀p∈ps,zg s p∧0<s.z p:=fun p h=>Xa.1 (hp.subset h)
  have hgd:∀i,i<ps.length→(ps.map (uQ s)).getD i g0=uQ s (ps.getD i 0):=fun i hi=>by simp[List.getD,hi]
  have hlen:(ps.map (uQ s)).length=ps.length:=List.length_map _
  have hYl:(vP s).length=s.n:=by unfold vP;simp
  refine⟨⟨⟨g,by rw[hYl,hn],by have:=zfw K h9;rw[hlen,hp.length_eq];omega⟩,fun j hj=>?_,fun i hi=>?_,fun i hi=>?_⟩,zce g hn P,?_⟩
  · rw[hYl] at hj
    rw[FF hj];have h1:=L.low j hj;have h2:=L.y0;have h3:=D.y j hj;omega
  · rw[hlen] at hi
    rw[hgd i hi];obtain⟨q1,q2⟩:=hpm _ (zE (d:=0) hi)
    refine⟨⟨⟨cL K q1,?_,?_,?_⟩,fun j hj=>?_⟩,fun k hk=>?_⟩
    · have h1:=bL (s:=s) (p:=ps.getD i 0)
      have h2:=hodd _ q1;show (wP s (ps.getD i 0)).length%2=1;omega
    · show 1≤s.z _;omega
    · show s.z _≤_
      have h1:=D.z _ q1;have h2:=L.y0;omega
    · have hj':j<(wP s (ps.getD i 0)).length:=hj
      obtain⟨v,e,hv,_⟩:=yN.1 (zE (d:=0) hj')
      refine⟨by show 0≤(wP s (ps.getD i 0)).getD j 0∧(wP s (ps.getD i 0)).getD j 0≤size-1;rw[e];omega,fun h0=>?_⟩
      show (wP s (ps.getD i 0)).getD (j-1) 0<(wP s (ps.getD i 0)).getD j 0;have ha:=zaO (s:=s) (p:=ps.getD i 0)
      generalize wP s (ps.getD i 0)=l at hj' ha
      have:=List.pairwise_iff_getElem.1 ha (j-1) j (by omega) hj' (by omega)
      simpa[List.getD,hj',show j-1<l.length by omega] using this
    · rw[hgd k (by omega)]
      generalize ps.getD k 0=a
      generalize ps.getD i 0=b
      show gj (wP s a) (wP s b);unfold gj
      by_cases c:∃x∈wP s b,x∈wP s a
      · obtain⟨x,x1,x2⟩:=c
        obtain⟨v,rfl,hv,w1⟩:=yN.1 x1;have w2:=(yO hv).1 x2;rcases w1.chain w2 with w | w
        · refine .inl fun y hy=>?_
          obtain⟨u,rfl,hu,u1⟩:=yN.1 hy;exact (yO hu).2 (u1.trans w)
        · refine .inr (.inr fun y hy=>?_)
          obtain⟨u,rfl,hu,u1⟩:=yN.1 hy;exact (yO hu).2 (u1.trans w)
      · exact .inr (.inl fun x h1 h2=>c ⟨x,h1,h2⟩)
  · obtain⟨i1,i2,i3⟩:=wG g hi
    obtain⟨e1,e2,e3⟩:=K.ed i hi;have:=K.feas i hi;unfold VP;rw[BT (hp.map _),i1,i2,zfv K e1 e2,Int.toNat_natCast,Int.toNat_natCast,FF e1,FF e2];exact this
  · rw[dr g P]
    unfold vM;rw[Dc (hp.map _),Dh K hodd,zfu,hw]
end
end Go.Proofs.Ytafhipglhnfgnaa.Ab
namespace Go.Proofs.Ytafhipglhnfgnaa.Ab
inductive Ud (R:Int→Int→Prop) (a:Int):Int→Prop
  | refl:Ud R a a
  | step {b c:Int} (h:Ud R a b) (r:R b c):Ud R a c
section
variable {R S:Int→Int→Prop}{a b c:Int}
theorem Ud.one (r:R a b):Ud R a b:=.step .refl r
theorem Ud.trans (h:Ud R a b)(k:Ud R b c):Ud R a c:=by
  induction k with
  | refl=>exact h
  | step _ r ih=>exact .step ih r
theorem Ud.symm (hs:∀ {x y},R x y→R y x)(h:Ud R a b):Ud R b a:=by
  induction h with
  | refl=>exact .refl
  | step _ r ih=>exact (Ud.one (hs r)).trans ih
theorem Ud.imp (hi:∀ {x y},R x y→S x y)(h:Ud R a b):Ud S a b:=by
  induction h with
  | refl=>exact .refl
  | step _ r ih=>exact .step ih (hi r)
theorem Ud.ends (h:Ud R a b)(hr:∀ {x y},R x y→S x y):a=b∨∃x y,S a x∧S y b:=by
  induction h with
  | refl=>exact .inl rfl
  | step h r ih =>
    rcases ih with rfl | ⟨x,y,h1,_⟩
    · exact .inr ⟨_,_,hr r,hr r⟩
    · exact .inr ⟨x,_,h1,hr r⟩
end
def Adj (es:List E)(out:List Int)(a b:Int):Prop:=(∃e∈es,yp a b e)∧¬a∈out∧¬b∈out
theorem Adj.symm {es:List E}{out:List Int}{a b:Int}(h:Adj es out a b):Adj es out b a:=by
  obtain⟨⟨e,he,hj⟩,h1,h2⟩:=h;exact⟨⟨e,he,Or.symm hj⟩,h2,h1⟩
abbrev Cn (es:List E)(out:List Int)(a b:Int):Prop:=Ud (Adj es out) a b
theorem Cn.symm {es:List E}{out:List Int}{a b:Int}(h:Cn es out a b):Cn es out b a:=Ud.symm Adj.symm h
theorem JZ:∀ {n:Nat} {l:List Int},l.Nodup→(∀x∈l,0≤x∧x<n)→l.length≤n
  | 0,[],_,_=>Nat.le_refl _
  | 0,a::l,_,h=>by have:=h a List.mem_cons_self;omega
  | n+1,l,hn,h=>by
    by_cases hm:(n:Int)∈l
    · have h1:=List.length_erase_of_mem hm
      have h2:=JZ (n:=n) (hn.erase (n:Int)) fun x hx=>by
        obtain⟨h3,h4⟩:=(hn.mem_erase_iff).1 hx;have:=h x h4;omega
      omega
    · have:=JZ (n:=n) hn fun x hx=>by
        have h3:=h x hx
        have:x≠n:=fun e=>hm (e▸hx)
        omega
      omega
structure Bfs (es:List E)(out:List Int)(n:Nat)(v:Int)(i:Nat)(L:List Int):Prop where
  nodup:L.Nodup
  top:v∈L
  all:∀x∈L,(0≤x∧x<n)∧¬x∈out∧Cn es out v x
  near:∀j,j<i→∀w,Adj es out (L.getD j 0) w→w∈L
theorem Bfs.len {es:List E}{out:List Int}{n:Nat}{v:Int}{i:Nat}{L:List Int}(b:Bfs es out n v i L):L.length≤n:=JZ b.nodup fun x hx=>(b.all x hx).1
end Go.Proofs.Ytafhipglhnfgnaa.Ab
namespace Go.Proofs.Ytafhipglhnfgnaa.Ab
open Go.RowKit
def cY (e f:E):Prop:=e.a≠f.a∧e.a≠f.b∧e.b≠f.a∧e.b≠f.b
theorem cY.symm {e f:E}(h:cY e f):cY f e:=⟨fun x=>h.1 x.symm,fun x=>h.2.2.1 x.symm,fun x=>h.2.1 x.symm,fun x=>h.2.2.2 x.symm⟩
def Mt (es:List E)(P:Int→Prop)(l:List E):Prop:=(∀e∈l,e∈es∧P e.a∧P e.b)∧l.Pairwise cY
def zdP (es:List E)(P:Int→Prop)(w:Nat):Prop:=(∃l,Mt es P l∧l.length=w)∧∀l,Mt es P l→l.length≤w
theorem Mt.imp {es fs:List E}{P Q:Int→Prop}{l:List E}(h:Mt es P l)(hi:∀e∈es,P e.a→P e.b→e∈fs∧Q e.a∧Q e.b):Mt fs Q l :=
  ⟨fun e he=>hi e (h.1 e he).1 (h.1 e he).2.1 (h.1 e he).2.2,h.2⟩
theorem zdP.congr {es fs:List E}{P Q:Int→Prop}{w:Nat}(h:zdP es P w)(h1:∀e∈es,P e.a→P e.b→e∈fs∧Q e.a∧Q e.b)(h2:∀e∈fs,Q e.a→Q e.b→e∈es∧P e.a∧P e.b):zdP fs Q w:=by
  obtain⟨⟨l,a,b⟩,c⟩:=h
  exact⟨⟨l,a.imp h1,b⟩,fun l hl=>c l (hl.imp h2)⟩
def mm:List E→List Int→Nat
  | [],_=>0
  | e::es,u=>if e.a∈u∨e.b∈u then mm es u else max (mm es u) (mm es (e.a::e.b::u)+1)
structure S3 where
  x:Int
  y:Int
  z:Int
theorem S3.ext' {a b:S3}(h1:a.x=b.x)(h2:a.y=b.y)(h3:a.z=b.z):a=b:=by cases a;cases b;simp only at h1 h2 h3;rw[h1,h2,h3]
def S3.add (a b:S3):S3:=⟨a.x+b.x,a.y+b.y,a.z+b.z⟩
def s0:S3:=⟨0,0,0⟩
def bet (a b:S3):Prop:=b.x<a.x∨a.x=b.x∧(b.y<a.y∨a.y=b.y∧b.z<a.z)
instance (a b:S3):Decidable (bet a b):=by unfold bet;exact inferInstance
def wS (e:E):S3:=⟨e.w1,e.w2,e.w3⟩
def zfm:List E→S3
  | []=>s0
  | e::l=>(wS e).add (zfm l)
def zdN (es:List E)(P:Int→Prop)(w:S3):Prop:=(∃l,Mt es P l∧zfm l=w)∧∀l,Mt es P l→¬bet (zfm l) w
theorem zdN.congr {es fs:List E}{P Q:Int→Prop}{w:S3}(h:zdN es P w)(h1:∀e∈es,P e.a→P e.b→e∈fs∧Q e.a∧Q e.b)(h2:∀e∈fs,Q e.a→Q e.b→e∈es∧P e.a∧P e.b):zdN fs Q w:=by
  obtain⟨⟨l,a,b⟩,c⟩:=h
  exact⟨⟨l,a.imp h1,b⟩,fun l hl=>c l (hl.imp h2)⟩
inductive Tg where
  | y | n | m | rg (i:Nat) | lk (i:Nat) | tb | lb | ah | rt
abbrev Ql:=Nat→Option Tg
structure Has (g:Ql)(h:za)(τ:Tg)(sz:Nat)(ty:TypeId)(v:Value)(rws:List (List Value)):Prop where
  len:∀r∈rws,r.length=sz
  is:(v=zh∧rws=[])∨∃c,g c=some τ∧v=.slice (some ⟨c,0,none⟩) rws.length rws.length∧h[c]?=some ⟨rws.flatten,sz,ty,true⟩
def vi (b:Nat)(g:Ql)(h:za):Prop:=∀c τ,g c=some τ→(b≤c+1∧c≠b)∧c<h.length
structure Tn (b:Nat)(T:Tg→Prop)(g:Ql)(h:za)(g':Ql)(h':za):Prop where
  len:h.length≤h'.length
  blk:∀c,c<h.length→c≠b→(∀ τ,g c=some τ→¬T τ)→h'[c]?=h[c]?
  tag:∀c τ,¬T τ→g c=some τ→g' c=some τ
  new:∀c τ,c<h.length→g' c=some τ→g c=some τ
  ok:vi b g' h'
def Dj (v:Value)(n:Nat):Prop:=∃c m,n≤c∧v=.slice (some ⟨c,0,none⟩) m m
section
variable {g g' g2:Ql}{h h' h2:za}{b sz i k:Nat}{τ:Tg}{T U:Tg→Prop}{ty:TypeId}{v:Value}{rws:List (List Value)}
theorem Has.own (a:Has g h τ sz ty v rws):(v=zh∧rws=[])∨∃c,g c=some τ∧v=.slice (some ⟨c,0,none⟩) rws.length rws.length∧Own h c (c+1) sz ty v rws:=by
  rcases a.is with q | ⟨c,h1,h2,h3⟩
  · exact .inl q
  · exact .inr ⟨c,h1,h2,a.len,.inr ⟨c,Nat.le_refl _,Nat.lt_succ_self _,h2,h3⟩⟩
theorem Has.rows (a:Has g h τ sz ty v rws):Rows h sz v rws:=by
  rcases a.own with⟨rfl,rfl⟩ | ⟨c,_,_,o⟩
  · exact Rows.nil
  · exact o.rows
theorem Has.nil:Has g h τ sz ty zh []:=⟨fun _ h=>(by cases h),.inl ⟨rfl,rfl⟩⟩
theorem Has.up (a:Has g h τ sz ty v rws)(hp:h <+: h'):Has g h' τ sz ty v rws:=by
  refine⟨a.len,?_⟩;rcases a.is with q | ⟨c,h1,h2,h3⟩
  · exact .inl q
  · exact .inr ⟨c,h1,h2,WD hp h3⟩
theorem vi.up (a:vi b g h)(hp:h <+: h'):vi b g h':=fun c τ hc=>⟨(a c τ hc).1,Nat.lt_of_lt_of_le (a c τ hc).2 (zy hp)⟩
theorem Tn.refl (ok:vi b g h):Tn b T g h g h:=⟨Nat.le_refl _,fun _ _ _ _=>rfl,fun _ _ _ q=>q,fun _ _ _ q=>q,ok⟩
theorem Tn.trans (a:Tn b T g h g' h')(c:Tn b T g' h' g2 h2):Tn b T g h g2 h2:=by
  refine⟨Nat.le_trans a.len c.len,fun x hx hb hT=>?_,fun x τ hT q=>c.tag x τ hT (a.tag x τ hT q),fun x τ hx q=>a.new x τ hx (c.new x τ (Nat.lt_of_lt_of_le hx a.len) q),c.ok⟩
  rw[c.blk x (Nat.lt_of_lt_of_le hx a.len) hb fun τ q=>hT τ (a.new x τ hx q),a.blk x hx hb hT]
theorem Tn.mono (a:Tn b T g h g' h')(hu:∀ τ,T τ→U τ):Tn b U g h g' h' :=
  ⟨a.len,fun c hc hb q=>a.blk c hc hb fun τ k=>fun t=>q τ k (hu τ t),fun c τ q=>a.tag c τ fun t=>q (hu τ t),a.new,a.ok⟩
theorem Tn.up (ok:vi b g h)(hp:h <+: h'):Tn b T g h g h' :=
  ⟨zy hp,fun c hc _ _=>ZE hp hc,fun _ _ _ q=>q,fun _ _ _ q=>q,ok.up hp⟩
theorem Has.tn (a:Has g h τ sz ty v rws)(ok:vi b g h)(f:Tn b T g h g' h')(hT:¬T τ):Has g' h' τ sz ty v rws:=by
  refine⟨a.len,?_⟩;rcases a.is with q | ⟨c,h1,h2,h3⟩
  · exact .inl q
  · refine .inr ⟨c,f.tag c τ hT h1,h2,?_⟩
    have hc:=ok c τ h1
    rw[f.blk c hc.2 (by omega) fun τ' q=>by rw[h1] at q;cases q;exact hT]
    exact h3
theorem Has.st {vs : List Value} (a : Has g h τ sz ty v rws) (ok : vi b g h) (hi : i < rws.length) (hk : k + vs.length ≤ sz) :
    ∃h',stC h (zz v sz i k) vs=some h'∧Tn b (·=τ) g h g h'∧h'.length=h.length∧h'[b]?=h[b]?∧Has g h' τ sz ty v (rws.set i (putAt rws[i] k vs)):=by
  rcases a.own with⟨_,rfl⟩ | ⟨c,h1,h2,o⟩
  · simp at hi
  · obtain⟨h',e1,e2,e3⟩:=o.st hi hk
    have hcb:=ok c τ h1;have hlen:(rws.set i (putAt rws[i] k vs)).length=rws.length:=List.length_set ..
    refine⟨h',e1,⟨Nat.le_of_eq e2.len.symm,fun x hx hb q=>e2.blk x ?_,fun _ _ _ q=>q,fun _ _ _ q=>q,fun x t q=>by rw[e2.len];exact ok x t q⟩,e2.len,e2.blk b (by omega),e3.len,.inr ⟨c,h1,by rw[hlen];exact h2,?_⟩⟩
    · have:x≠c:=fun e=>by subst e;exact q τ h1 rfl
      omega
    · rcases e3.is with⟨q,_⟩ | ⟨c',l1,l2,_,l4⟩
      · rw[h2] at q;cases q
      · have:c'=c:=by omega
        rw[←this];exact l4
theorem Has.push {cs : List Value} (a : Has g h τ sz ty v rws) (ok : vi b g h) (hb : b < h.length) (hc : cs.length = sz) (hl : rws.length < lim) :
    ∃v' h' g',qS h sz ty 1 v (some cs)=some (v',h')∧Tn b (·=τ) g h g' h'∧h'[b]?=h[b]?∧Has g' h' τ sz ty v' (rws++[cs])∧∀n,Dj v n→Dj v' n:=by
  rcases a.own with⟨rfl,rfl⟩ | ⟨c,h1,h2,o⟩
  · have o:Own h h.length h.length sz ty zh []:=Own.nil
    obtain⟨v',h',e1,e2,e3,e4,e5⟩:=UU o (Nat.le_refl _) [cs] (fun r hr=>by rw[List.mem_singleton.1 hr];exact hc) (by simp) (by simp;omega)
    rw[List.flatten_cons,List.flatten_nil,List.append_nil] at e1;rcases e4 with⟨_,t1,t2,t3⟩ | ⟨q,_⟩
    · have nb:∀x,x<h.length→h'[x]?=h[x]?:=fun x hx=>e3 x hx (.inr (Nat.zero_le _))
      refine⟨v',h',fun x=>if x=h.length then some τ else g x,e1,⟨e2,fun x hx _ _=>nb x hx,fun x t _ q=>?_,fun x t hx q=>?_,fun x t q=>?_⟩,nb b hb,⟨e5.len,?_⟩,fun n ⟨_,_,_,q⟩=>(by cases q)⟩
      · show (if x=h.length then some τ else g x)=some t
        rw[if_neg (by have:=(ok x t q).2;omega)]
        exact q
      · have q':(if x=h.length then some τ else g x)=some t:=q
        rw[if_neg (by omega)] at q'
        exact q'
      · have q':(if x=h.length then some τ else g x)=some t:=q
        by_cases e:x=h.length
        · subst e;exact⟨by omega,by omega⟩
        · rw[if_neg e] at q'
          have:=ok x t q'
          exact⟨this.1,by omega⟩
      · rcases e5.is with⟨_,q⟩ | ⟨c',l1,l2,l3,l4⟩
        · simp at q
        · have:c'=h.length:=by omega
          subst this;exact .inr ⟨h.length,if_pos rfl,l3,l4⟩
    · exact absurd rfl q
  · obtain⟨v',h',e1,e2,e3,e4,e5⟩:=UU o (by have:=(ok c τ h1).2;omega) [cs] (fun r hr=>by rw[List.mem_singleton.1 hr];exact hc) (by simp) (by simp;omega)
    rw[List.flatten_cons,List.flatten_nil,List.append_nil] at e1;have hcb:=ok c τ h1
    have tv:tlo v=c∧thi v=c+1:=by rw[h2];exact⟨rfl,rfl⟩
    rcases e4 with⟨q,_⟩ | ⟨_,t1,t2,t3⟩
    · rw[h2] at q;cases q
    · have nb:∀x,x<h.length→x≠c→h'[x]?=h[x]?:=fun x hx hne=>e3 x hx (by omega)
      refine⟨v',h',g,e1,⟨e2,fun x hx _ q=>nb x hx fun e=>?_,fun _ _ _ q=>q,fun _ _ _ q=>q,fun x t q=>by rw[t1];exact ok x t q⟩,nb b hb (by omega),⟨e5.len,?_⟩,fun n q=>?_⟩
      · subst e;exact q τ h1 rfl
      · rcases e5.is with⟨_,q⟩ | ⟨c',l1,l2,l3,l4⟩
        · simp at q
        · have:c'=c:=by omega
          subst this;exact .inr ⟨c',h1,l3,l4⟩
      · obtain⟨c2,m2,z1,z2⟩:=q
        rw[h2] at z2
        injection z2 with z2
        injection z2 with z2
        injection z2 with z2
        rcases e5.is with⟨_,q⟩ | ⟨c',l1,l2,l3,l4⟩
        · simp at q
        · exact⟨c',_,by omega,l3⟩
theorem Has.take {lo hi:Nat}(o:Own h lo hi sz ty v rws)(hlo:∀c,lo≤c→c<hi→g c=some τ):Has g h τ sz ty v rws:=by
  refine⟨o.len,?_⟩;rcases o.is with q | ⟨c,l1,l2,l3,l4⟩
  · exact .inl q
  · exact .inr ⟨c,hlo c l1 l2,l3,l4⟩
end
structure Lk where
  f:Nat
  t:Nat
def l0:Lk:=⟨0,0⟩
def lkR (x:Lk):List Value:=[.int .i64 (x.f:Nat),.int .i64 (x.t:Nat)]
theorem zcF (x:Lk):(lkR x).length=2:=rfl
def Lk.rev (x:Lk):Lk:=⟨x.t,x.f⟩
def IsE (es:List E)(e:Nat)(x:Lk):Prop:=e<es.length∧((x.f=vA es e∧x.t=vB es e)∨(x.f=vB es e∧x.t=vA es e))
theorem IsE.rev {es:List E}{e:Nat}{x:Lk}(h:IsE es e x):IsE es e x.rev:=⟨h.1,h.2.symm.imp (fun q=>⟨q.2,q.1⟩) fun q=>⟨q.2,q.1⟩⟩
def upI:Option Nat→Int
  | some p=>p
  | none=>-1
structure RV where
  ev:Value
  yv:Value
  nv:Value
  mv:Value
  rv:Nat→Value
  lv:Nat→Value
  bs:Nat→Nat
def wT (s:Sv)(bs:Nat→Nat):Prop:=∀t i,zc s t→s.mate t=none→Wi s i t→Wi s (s.base t) i→bs i=s.base i
structure Nd where
  rv:Value
  lv:Value
  base:Int
  z:Int
  up:Int
  gone:Bool
def nd0:Nd:=⟨zh,zh,0,0,0,false⟩
def ndR (x:Nd):List Value:=[x.rv,x.lv,.int .i64 x.base,.int .i64 x.z,.int .i64 x.up,.bool x.gone]
def uu (s:Sv)(V:RV)(i:Nat):Nd:=⟨V.rv i,V.lv i,(V.bs i:Nat),s.z i,upI (s.up i),s.gone i⟩
def vU (s:Sv)(V:RV):List Nd:=(List.range s.N).map (uu s V)
theorem uU {s:Sv}{V:RV}:(vU s V).length=s.N:=by unfold vU;simp
theorem Fl {s:Sv}{V:RV}{i:Nat}(h:i<s.N):(vU s V).getD i nd0=uu s V i:=by unfold vU;simp[h]
def QE (s:Sv)(V:RV)(k:Nat)(dn:Bool):Blk:=⟨[.int .i64 (s.n:Nat),V.ev,V.yv,V.nv,V.mv,.int .i64 (k:Nat),.bool dn],7,Jv,true⟩
def p7 (b k:Nat):Value:=.pointer (some ⟨b,k,some 7⟩)
def gi (es:List E)(s:Sv)(i:Nat)(L:List Lk):Prop:=L.length=(s.lnk i).length∧∀j,j<L.length→IsE es ((s.lnk i).getD j 0) (L.getD j l0)
def ZW (l:List Nat):List Int:=l.map fun v:Nat=>(v:Int)
structure Rn (g:Ql)(h:za)(b:Nat)(es:List E)(s:Sv)(M:List Lk)(k:Nat)(dn:Bool)(V:RV):Prop where
  ok:vi b g h
  blk:h[b]?=some (QE s V k dn)
  e:Rows (h.take (b-1)) 5 V.ev (ZF es)
  y:Has g h .y 1 zf V.yv (zq (vP s))
  nd:Has g h .n 6 Yw V.nv ((vU s V).map ndR)
  m:Has g h .m 2 zS V.mv (M.map lkR)
  rg:∀i,i<s.N→Has g h (.rg i) 1 zf (V.rv i) (zq (ZW (s.mem i)))
  lk:∀i,i<s.N→∃L,Has g h (.lk i) 2 zS (V.lv i) (L.map lkR)∧gi es s i L
section
variable {g:Ql}{h h':za}{b i k v:Nat}{es:List E}{s:Sv}{M:List Lk}{dn:Bool}{V:RV}
theorem Rn.up (R:Rn g h b es s M k dn V)(hp:h <+: h'):Rn g h' b es s M k dn V:=by
  have hb:=zG R.blk
  refine⟨R.ok.up hp,WD hp R.blk,?_,R.y.up hp,R.nd.up hp,R.m.up hp,fun i hi=>(R.rg i hi).up hp,fun i hi=>?_⟩
  · have:h'.take (b-1)=h.take (b-1):=by
      obtain⟨t,rfl⟩:=hp
      rw[List.take_append_of_le_length (by omega)]
    rw[this];exact R.e
  · obtain⟨L,h1,h2⟩:=R.lk i hi
    exact⟨L,h1.up hp,h2⟩
theorem Rn.bl (R:Rn g h b es s M k dn V):b<h.length:=zG R.blk
theorem Rn.ev (R:Rn g h b es s M k dn V):Rows h 5 V.ev (ZF es):=R.e.up (List.take_prefix (b-1) h)
theorem Rn.chk (R:Rn g h b es s M k dn V):jw h (p7 b 0)=some (p7 b 0):=by simp[jw,ldC,p7,R.blk,QE]
theorem Rn.fa (R:Rn g h b es s M k dn V):∀i j,faV h (p7 b i) j=some (p7 b (i+j)):=fun i j=>by simp[faV,p7,R.blk,QE]
theorem Rn.ld0 (R:Rn g h b es s M k dn V):ldC h (p7 b 0) 1=some [.int .i64 (s.n:Nat)]:=by simp[ldC,p7,R.blk,QE]
theorem Rn.ld1 (R:Rn g h b es s M k dn V):ldC h (p7 b 1) 1=some [V.ev]:=by simp[ldC,p7,R.blk,QE]
theorem Rn.ld2 (R:Rn g h b es s M k dn V):ldC h (p7 b 2) 1=some [V.yv]:=by simp[ldC,p7,R.blk,QE]
theorem Rn.ld3 (R:Rn g h b es s M k dn V):ldC h (p7 b 3) 1=some [V.nv]:=by simp[ldC,p7,R.blk,QE]
theorem Rn.ld4 (R:Rn g h b es s M k dn V):ldC h (p7 b 4) 1=some [V.mv]:=by simp[ldC,p7,R.blk,QE]
theorem Rn.ld5 (R:Rn g h b es s M k dn V):ldC h (p7 b 5) 1=some [.int .i64 (k:Nat)]:=by simp[ldC,p7,R.blk,QE]
theorem Rn.ld6 (R:Rn g h b es s M k dn V):ldC h (p7 b 6) 1=some [.bool dn]:=by simp[ldC,p7,R.blk,QE]
theorem Rn.nln (R:Rn g h b es s M k dn V):lnV h V.nv=some (.int .i64 (s.N:Nat)):=by rw[R.nd.rows.lnm,uU]
theorem Rn.mln (R:Rn g h b es s M k dn V):lnV h V.mv=some (.int .i64 (M.length:Nat)):=R.m.rows.lnm
theorem Rn.eln (R:Rn g h b es s M k dn V):lnV h V.ev=some (.int .i64 (es.length:Nat)):=R.ev.lnm
theorem Rn.nia (R:Rn g h b es s M k dn V)(hi:i<s.N):iaV h 6 V.nv (.int .i64 (i:Nat))=some (zz V.nv 6 i 0):=(R.nd.rows.el nd0 (by rw[uU];exact hi)).1
theorem Rn.nfa (R:Rn g h b es s M k dn V)(hi:i<s.N):∀o j,faV h (zz V.nv 6 i o) j=some (zz V.nv 6 i (o+j)):=(R.nd.rows.el nd0 (by rw[uU];exact hi)).2.1
theorem Rn.nld (R:Rn g h b es s M k dn V)(hi:i<s.N):ldC h (zz V.nv 6 i 0) 6=some (ndR (uu s V i)):=by
  have:=(R.nd.rows.el nd0 (i:=i) (by rw[uU];exact hi)).2.2
  rw[Fl hi] at this;exact this
theorem Rn.ncell (R:Rn g h b es s M k dn V)(hi:i<s.N){o:Nat}(ho:o<6):ldC h (zz V.nv 6 i o) 1=some [(ndR (uu s V i)).getD o undef]:=by
  have:=R.nd.rows.cell nd0 (i:=i) (o:=o) (by rw[uU];exact hi) ho
  rw[Fl hi] at this;exact this
theorem Rn.n2 (R:Rn g h b es s M k dn V)(hi:i<s.N):ldC h (zz V.nv 6 i 2) 1=some [.int .i64 (V.bs i:Nat)]:=R.ncell hi (by omega)
theorem Rn.n3 (R:Rn g h b es s M k dn V)(hi:i<s.N):ldC h (zz V.nv 6 i 3) 1=some [.int .i64 (s.z i)]:=R.ncell hi (by omega)
theorem Rn.n4 (R:Rn g h b es s M k dn V)(hi:i<s.N):ldC h (zz V.nv 6 i 4) 1=some [.int .i64 (upI (s.up i))]:=R.ncell hi (by omega)
theorem Rn.n5 (R:Rn g h b es s M k dn V)(hi:i<s.N):ldC h (zz V.nv 6 i 5) 1=some [.bool (s.gone i)]:=R.ncell hi (by omega)
theorem Rn.yia (R:Rn g h b es s M k dn V)(hv:v<s.n):iaV h 1 V.yv (.int .i64 (v:Nat))=some (zz V.yv 1 v 0)∧ldC h (zz V.yv 1 v 0) 1=some [.int .i64 (s.y v)]:=by
  have hl:v<(vP s).length:=by unfold vP;simp;exact hv
  have:=R.y.rows.el (f:=fun n:Int=>[.int .i64 n]) (l:=vP s) 0 hl
  rw[FF hv] at this;exact⟨this.1,this.2.2⟩
theorem Rn.mia (R:Rn g h b es s M k dn V)(hi:i<M.length):iaV h 2 V.mv (.int .i64 (i:Nat))=some (zz V.mv 2 i 0)∧(∀o j,faV h (zz V.mv 2 i o) j=some (zz V.mv 2 i (o+j)))∧ldC h (zz V.mv 2 i 0) 2=some (lkR (M.getD i l0)):=R.m.rows.el l0 hi
theorem Rn.m0 (R:Rn g h b es s M k dn V)(hi:i<M.length):ldC h (zz V.mv 2 i 0) 1=some [.int .i64 ((M.getD i l0).f:Nat)]:=R.m.rows.cell l0 hi (by omega)
theorem Rn.m1 (R:Rn g h b es s M k dn V)(hi:i<M.length):ldC h (zz V.mv 2 i 1) 1=some [.int .i64 ((M.getD i l0).t:Nat)]:=R.m.rows.cell l0 hi (by omega)
end
section
variable {X:Zb}{g:Ql}{h:za}{b k v t:Nat}{es:List E}{s:Sv}{M:List Lk}{dn:Bool}{V:RV}
theorem ZL (R:Rn g h b es s M k dn V)(hu:uh s)(hv:v<s.N):C T X zH [p7 b 0,.int .i64 (v:Nat)] h=some (.int .i64 (top s v:Nat),h):=by
  refine qH XK rfl ?_;unfold Vr;simp only[go_sem]
  refine WI (s.N-v) (fun m t loc h'=>h'=h∧t 0=p7 b 0∧∃u:Nat,t 1=.int .i64 (u:Nat)∧u<s.N∧m=s.N-u∧top s u=top s v) ⟨rfl,rfl,v,rfl,hv,rfl,rfl⟩ ?_
  rintro m t loc h' ⟨rfl,t0,u,t1,hul,hm,ht⟩
  cases hup:s.up u with
  | none =>
    have n4:=R.n4 hul;rw[hup] at n4
    have hn:¬(upI none≥0):=by show ¬((-1:Int)≥0);omega
    have hs:=xW hu hup;simp only[t0,t1,R.chk,R.fa,R.ld3,R.nia hul,R.nfa hul,n4,hn,Nat.zero_add,go_sem];rw[←ht,hs]
  | some p =>
    have n4:=R.n4 hul;rw[hup] at n4;have hp:=hu _ _ hup
    have hn:upI (some p)≥0:=by show ((p:Int)≥0);omega
    simp only[t0,t1,R.chk,R.fa,R.ld3,R.nia hul,R.nfa hul,n4,hn,Nat.zero_add,go_sem]
    exact⟨s.N-p,by omega,p,rfl,hp.2,rfl,by rw[←zbR hu hup];exact ht⟩
end
end Go.Proofs.Ytafhipglhnfgnaa.Ab
