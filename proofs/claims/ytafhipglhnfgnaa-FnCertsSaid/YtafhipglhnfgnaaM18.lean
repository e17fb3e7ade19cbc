/- Joined. No conditions. -/
import Derived.Test.YtafhipglhnfgnaaM17
import Derived.Test.YtafhipglhnfgnaaM4
import Derived.Laws.StructEq
import Derived.Test.YtafhipglhnfgnaaM11
import Derived.Test.YtafhipglhnfgnaaM14
import Derived.Test.YtafhipglhnfgnaaR7
set_option linter.unusedSimpArgs false
set_option linter.unusedVariables false
set_option linter.unnecessarySimpa false
set_option maxHeartbeats 4000000
namespace Go.Proofs.Ytafhipglhnfgnaa.Ab
open Go.RowKit
def Q0:List Int→List Int→Bool
  | [],[]=>false
  | [],_::_=>true
  | _::_,[]=>false
  | x::xs,y::ys=>if x=y then Q0 xs ys else decide (x<y)
theorem gt {x y:Int}{xs ys:List Int}:Q0 (x::xs) (y::ys)=if x=y then Q0 xs ys else decide (x<y):=by rw[Q0]
section
variable {X:Zb}{h:za}{va vb:Value}{a b:List Int}
theorem BB:∀ {a b:List Int} {i:Nat},i<a.length→i<b.length→a.getD i 0=b.getD i 0→Q0 (a.drop i) (b.drop i)=Q0 (a.drop (i+1)) (b.drop (i+1)):=fun {a b i} h1 h2 h3=>by
  rw[List.drop_eq_getElem_cons h1,List.drop_eq_getElem_cons h2]
  have e1:a.getD i 0=a[i]:=by simp[List.getD,h1]
  have e2:b.getD i 0=b[i]:=by simp[List.getD,h2]
  rw[gt,←e1,←e2,if_pos h3]
theorem Dv {i:Nat}(h1:i<a.length)(h2:i<b.length)(h3:¬a.getD i 0=b.getD i 0):Q0 (a.drop i) (b.drop i)=decide (a.getD i 0<b.getD i 0):=by
  rw[List.drop_eq_getElem_cons h1,List.drop_eq_getElem_cons h2]
  have e1:a.getD i 0=a[i]:=by simp[List.getD,h1]
  have e2:b.getD i 0=b[i]:=by simp[List.getD,h2]
  rw[gt,←e1,←e2,if_neg h3]
theorem XQ {i:Nat}(h1:i≤a.length)(h2:i≤b.length)(h:¬(i<a.length∧i<b.length)):Q0 (a.drop i) (b.drop i)=decide (a.length<b.length):=by
  by_cases c:i<a.length
  · have hb:b.drop i=[]:=List.drop_eq_nil_of_le (by omega)
    rw[hb,List.drop_eq_getElem_cons c];unfold Q0
    rw[decide_eq_false (by omega)]
  · have ha:a.drop i=[]:=List.drop_eq_nil_of_le (by omega)
    rw[ha]
    by_cases c2:i<b.length
    · rw[List.drop_eq_getElem_cons c2]
      unfold Q0
      rw[decide_eq_true (by omega)]
    · have hb:b.drop i=[]:=List.drop_eq_nil_of_le (by omega)
      rw[hb];unfold Q0
      rw[decide_eq_false (by omega)]
theorem BW (ra:Rows h 1 va (zq a))(rb:Rows h 1 vb (zq b))(hl:a.length≤100)(hl2:b.length≤100):C T X Wz [va,vb] h=some (.bool (Q0 a b),h):=by
  refine qH KF rfl ?_;unfold Wm;simp only[go_sem]
  refine zT (min a.length b.length) (fun i t loc h'=>h'=h∧t 0=va∧t 1=vb∧t 5=.int .i64 (i:Nat)∧Q0 a b=Q0 (a.drop i) (b.drop i)) ⟨rfl,rfl,rfl,rfl,by simp⟩ ?_
  rintro i t loc h' hi ⟨rfl,t0,t1,t5,he⟩
  by_cases c1:(i:Int)<(a.length:Int)
  · by_cases c2:(i:Int)<(b.length:Int)
    · have hi1:i<a.length:=by omega
      have hi2:i<b.length:=by omega
      have hw:IntKind.i64.wrap ((i:Int)+1)=((i+1:Nat):Int):=w64 (by omega) (by omega)
      have ea:=ZU ra hi1;have eb:=ZU rb hi2
      by_cases c3:a.getD i 0=b.getD i 0
      · simp only[t0,t1,t5,zI ra,zI rb,c1,c2,ea.1,ea.2,eb.1,eb.2,c3,hw,go_sem]
        exact⟨by omega,by rw[he,BB hi1 hi2 c3]⟩
      · simp only[t0,t1,t5,zI ra,zI rb,c1,c2,ea.1,ea.2,eb.1,eb.2,c3,hw,go_sem]
        rw[he,Dv hi1 hi2 c3]
    · simp only[t0,t1,t5,zI ra,zI rb,c1,c2,go_sem]
      rw[he,XQ (by omega) (by omega) (by omega)]
      congr 1
      simp
  · simp only[t0,t1,t5,zI ra,zI rb,c1,go_sem]
    rw[he,XQ (by omega) (by omega) (by omega)]
    congr 1
    simp
end
noncomputable def Ub (s:Sv)(ps:List Nat)(p:Nat):Nat→Nat
  | 0=>0
  | k+1=>if Q0 (wP s p) (wP s (ps.getD k 0))=true then Ub s ps p k else k+1
noncomputable def dA (s:Sv)(ps:List Nat)(p:Nat):List Nat:=ps.take (Ub s ps p ps.length)++p::ps.drop (Ub s ps p ps.length)
open Classical in
noncomputable def gTo (s:Sv)(i:Nat):List Nat:=((List.range i).filter fun p=>decide (zg s p∧0<s.z p)).foldl (dA s) []
section
variable {s:Sv}{ps:List Nat}{p i:Nat}
theorem X0:(dA s ps p).Perm (p::ps):=by
  unfold dA;have:=List.perm_middle (a:=p) (l₁:=ps.take (Ub s ps p ps.length)) (l₂:=ps.drop (Ub s ps p ps.length));rw[List.take_append_drop] at this;exact this
theorem Yc:∀ {qs ps:List Nat},(qs.foldl (dA s) ps).Perm (qs++ps)
  | [],ps=>List.Perm.refl _
  | q::qs,ps=>by
    rw[List.foldl_cons];refine (Yc (qs:=qs)).trans ?_;refine (List.Perm.append_left qs X0).trans ?_;exact List.perm_middle
theorem zap:(gTo s s.N).Perm (U6 s):=by
  unfold gTo U6
  have:=Yc (s:=s) (qs:=(List.range s.N).filter fun p=>open Classical in decide (zg s p∧0<s.z p)) (ps:=[])
  rw[List.append_nil] at this;exact this
theorem zd9:∀q∈gTo s i,q<i:=fun q hq=>by
  unfold gTo at hq;have:=(Yc (s:=s) (ps:=[])).mem_iff.1 hq;rw[List.append_nil] at this;exact List.mem_range.1 (List.mem_filter.1 this).1
theorem zcr:(gTo s i).length≤i:=by
  unfold gTo;rw[(Yc (s:=s) (ps:=[])).length_eq,List.append_nil]
  exact Nat.le_trans (List.length_filter_le _ _) (by rw[List.length_range];exact Nat.le_refl _)
open Classical in
theorem zcs (h:zg s i∧0<s.z i):gTo s (i+1)=dA s (gTo s i) i:=by
  unfold gTo;rw[List.range_succ,List.filter_append,List.foldl_append]
  have:[i].filter (fun p=>decide (zg s p∧0<s.z p))=[i]:=by simp[h]
  rw[this];rfl
open Classical in
theorem zao (h:¬(zg s i∧0<s.z i)):gTo s (i+1)=gTo s i:=by
  unfold gTo;rw[List.range_succ,List.filter_append]
  have:[i].filter (fun p=>decide (zg s p∧0<s.z p))=[]:=by simp only[List.filter_cons,List.filter_nil];rw[decide_eq_false h];rfl
  rw[this,List.append_nil]
theorem Co:∀ {i:Nat},i≤s.n→gTo s i=[]
  | 0,_=>rfl
  | i+1,h=>by
    rw[zao fun q=>by have:=q.1.1;omega,Co (by omega)]
end
structure Gm (h:za)(lo:Nat)(s:Sv)(v:Value)(ps:List Nat)(mv:Nat→Value):Prop where
  out:Own h lo h.length 2 zW v (ps.map fun p=>[mv p,.int .i64 (s.z p)])
  ins:∀p∈ps,Own h lo h.length 1 zf (mv p) (zq (wP s p))
theorem Gm.up {h h':za}{lo:Nat}{s:Sv}{v:Value}{ps:List Nat}{mv:Nat→Value}(g:Gm h lo s v ps mv)(hp:h <+: h'):Gm h' lo s v ps mv:=⟨(g.out.up hp).wide (Nat.le_refl _) (zy hp),fun p hq=>((g.ins p hq).up hp).wide (Nat.le_refl _) (zy hp)⟩
def OG (h:za)(lo:Nat)(v:Value)(gs:List Gp):Prop:=∃vs,Own h lo h.length 2 zW v (qT vs gs)∧∀i,i<gs.length→Own h lo h.length 1 zf (vs.getD i zh) (zq (gs.getD i g0).ms)
theorem OG.rows {h:za}{lo:Nat}{v:Value}{gs:List Gp}(o:OG h lo v gs):qp h v gs:=by
  obtain⟨vs,h1,h2⟩:=o
  exact⟨vs,h1.rows,fun i hi=>(h2 i hi).rows⟩
theorem Gm.og {h:za}{lo:Nat}{s:Sv}{v:Value}{ps:List Nat}{mv:Nat→Value}(g:Gm h lo s v ps mv):OG h lo v (ps.map (uQ s)):=by
  have hv:∀i,i<ps.length→(ps.map mv).getD i zh=mv (ps.getD i 0):=fun i hi=>by simp[List.getD,hi]
  have hg:∀i,i<ps.length→(ps.map (uQ s)).getD i g0=uQ s (ps.getD i 0):=fun i hi=>by simp[List.getD,hi]
  refine⟨ps.map mv,?_,fun i hi=>?_⟩
  · have e:qT (ps.map mv) (ps.map (uQ s))=ps.map fun p=>[mv p,.int .i64 (s.z p)]:=by
      apply List.ext_getElem
      · simp
      · intro i h1 h2
        have hi:i<ps.length:=by simpa using h2
        simp only[List.getElem_map,List.getElem_range];unfold Km;rw[hv i hi,hg i hi];simp[uQ,List.getD,hi]
    rw[e];exact g.out
  · rw[List.length_map] at hi
    rw[hv i hi,hg i hi];exact g.ins _ (zE (d:=0) hi)
open Classical in
noncomputable def YN (s:Sv)(p u:Nat):List Int:=((List.range u).filter fun v=>decide (Wi s v p)).map fun v:Nat=>(v:Int)
theorem Cw {s:Sv}{p:Nat}:YN s p s.n=wP s p:=rfl
open Classical in
theorem dJ {s:Sv}{p u:Nat}(h:Wi s u p):YN s p (u+1)=YN s p u++[(u:Int)]:=by
  unfold YN;rw[List.range_succ,List.filter_append,List.map_append];simp[h]
open Classical in
theorem zaP {s:Sv}{p u:Nat}(h:¬Wi s u p):YN s p (u+1)=YN s p u:=by
  unfold YN;rw[List.range_succ,List.filter_append,List.map_append];simp[h]
theorem X6 {s:Sv}{p u:Nat}:(YN s p u).length≤u:=by
  unfold YN;rw[List.length_map]
  exact Nat.le_trans (List.length_filter_le _ _) (by rw[List.length_range];exact Nat.le_refl _)
section
variable {X:Zb}{g:Ql}{h:za}{b k:Nat}{es:List E}{s:Sv}{M:List Lk}{dn:Bool}{V:RV}
set_option maxRecDepth 100000 in
open Classical in
theorem br (R : Rn g h b es s M k dn V) (K : Ok es s) (hs : Sm s) :
    ∃v h' mv,C T X Qz [p7 b 0] h=some (v,h')∧h <+: h'∧cellsOf v=some [v]∧Gm h' h.length s v (gTo s s.N) mv:=by
  suffices hx:∃w h',C T X Qz [p7 b 0] h=some (w,h')∧∃mv,h <+: h'∧cellsOf w=some [w]∧Gm h' h.length s w (gTo s s.N) mv by
    obtain⟨w,h',c,mv,q⟩:=hx;exact⟨w,h',mv,c,q⟩
  have hu:=K.upOk;have nN:=K.nN;have h9:=hs.N;have n9:=hs.n;refine wU kr rfl ?_;unfold wC;have R0:=R.up (List.prefix_append h [⟨[],2,zW,true⟩]);simp only[R0.chk,R0.fa,R0.ld0,Nat.zero_add,zj,zi,go_sem]
  refine zT (s.N-s.n) (fun j t' loc hh=>t' 0=p7 b 0∧t' 4=.int .i64 ((s.n+j:Nat):Int)∧h <+: hh∧∃v mv c q r,t' 3=v∧v=.slice (some c) q r∧Gm hh h.length s v (gTo s (s.n+j)) mv) ⟨rfl,rfl,List.prefix_append _ _,.slice (some ⟨h.length,0,none⟩) 0 0,fun _=>zh,_,_,_,rfl,rfl,?_⟩ ?_
  · rw[show s.n+0=s.n from rfl,Co (Nat.le_refl _)]
    exact⟨Acc.new.own,fun p hp=>by cases hp⟩
  rintro j t' loc hh hj ⟨t0,t4,hp,v,mv,cp,qn,rn,t3,hv,G⟩;have R':=R.up hp;simp only[t0,t4,R'.chk,R'.fa,R'.ld3,R'.nln,Nat.zero_add,go_sem]
  refine zt (by simp only[go_sem];rfl) ?_ ?_<;>intro hc
  · have hj1:s.n+j<s.N:=by omega
    have hw:IntKind.i64.wrap (((s.n+j:Nat):Int)+1)=((s.n+(j+1):Nat):Int):=w64 (by omega) (by omega)
    obtain⟨i,hi⟩:∃i,i=s.n+j:=⟨_,rfl⟩
    have hi':s.n+(j+1)=i+1:=by omega
    rw[hi'] at hw;rw[←hi] at hj1 hw t4 G hc ⊢;have n5:=R'.n5 hj1;have n3:=R'.n3 hj1
    have no:¬(zg s i∧0<s.z i)→Gm hh h.length s v (gTo s (s.n+(j+1))) mv:=fun q=>by rw[hi',zao q];exact G
    cases hg:s.gone i with
    | true =>
      rw[hg] at n5;simp only[t0,t3,t4,R'.chk,R'.fa,R'.ld3,R'.nia hj1,R'.nfa hj1,n5,hw,Nat.zero_add,go_sem]
      exact⟨by omega,by rw[hi'],hp,v,mv,cp,qn,rn,rfl,hv,no fun q=>by rw[q.1.2.2] at hg;cases hg⟩
    | false =>
      rw[hg] at n5
      by_cases c1:s.z i≤0
      · simp only[t0,t3,t4,R'.chk,R'.fa,R'.ld3,R'.nia hj1,R'.nfa hj1,n5,n3,c1,hw,Nat.zero_add,go_sem]
        exact⟨by omega,by rw[hi'],hp,v,mv,cp,qn,rn,rfl,hv,no fun q=>by omega⟩
      have hR:zg s i∧0<s.z i:=⟨⟨by omega,hj1,hg⟩,by omega⟩
      simp only[t0,t3,t4,R'.chk,R'.fa,R'.ld3,R'.nia hj1,R'.nfa hj1,n5,n3,c1,hw,Nat.zero_add,go_sem];obtain⟨ps,hps⟩:∃ps,ps=gTo s i:=⟨_,rfl⟩;rw[←hps] at G
      have psl:∀q∈ps,q<i:=fun q hq=>zd9 q (by rw[←hps];exact hq)
      have pslen:ps.length≤i:=by rw[hps];exact zcr
      have hlen0:=zy hp
      refine zT s.n (fun u t' loc h2=>t' 0=p7 b 0∧t' 3=v∧t' 4=.int .i64 (i:Nat)∧t' 6=.int .i64 (u:Nat)∧hh <+: h2∧∃mvv,loc 5=some [mvv,.int .i64 (s.z i)]∧Own h2 hh.length h2.length 1 zf mvv (zq (YN s i u))) ⟨rfl,rfl,rfl,rfl,List.prefix_refl _,zh,rfl,Own.nil⟩ ?_
      clear t0 t3 t4 hc n5 n3 c1
      clear t' loc
      rintro u t' loc h2 hu2 ⟨t0,t3,t4,t6,hp2,mvv,l5,o⟩;have R2:=R'.up hp2;simp only[t0,t6,R2.chk,R2.fa,R2.ld0,Nat.zero_add,go_sem]
      refine zt (by simp only[go_sem];rfl) ?_ ?_<;>intro hc
      · have hu1:u<s.n:=by omega
        have hw:IntKind.i64.wrap ((u:Int)+1)=((u+1:Nat):Int):=w64 (by omega) (by omega)
        have cw:=uR (X:=X) (t:=i) R2 hu (v:=u) (by omega)
        by_cases c2:Wi s u i
        · rw[xt c2] at cw
          obtain⟨v3,h3,e3,q1,q2,o3⟩:=o.push1 (zy hp2) [.int .i64 (u:Nat)] rfl (by rw[z9];have:=X6 (s:=s) (p:=i) (u:=u);unfold lim;omega)
          rw[Nat.max_eq_right q1] at o3;simp only[t0,t3,t4,t6,l5,cw,e3,o3.cells,hw,Nat.zero_add,zj,zi,List.prefix_refl,List.cons_append,List.nil_append,go_sem];refine⟨hu1,QY hp2 (Nat.le_refl _) q1 q2,v3,rfl,?_⟩;rw[dJ c2];simpa[zq] using o3
        · rw[Ku c2] at cw
          simp only[t0,t3,t4,t6,l5,cw,hw,Nat.zero_add,zj,zi,List.prefix_refl,go_sem]
          exact⟨hu1,hp2,mvv,rfl,by rw[zaP c2];exact o⟩
      have hun:u=s.n:=by omega
      rw[hun,Cw] at o
      clear hun hu2 hc
      have G2:=G.up hp2;have gln:lnV h2 v=some (.int .i64 (ps.length:Nat)):=G2.out.rows.lnm;simp only[t0,t3,t4,t6,l5,gln,go_sem]
      have mlen:∀p,(wP s p).length≤100:=fun p=>by have:=X6 (s:=s) (p:=p) (u:=s.n);rw[Cw] at this;omega
      have tail:∀m:Nat,m≤ps.length→Ub s ps i ps.length=m→∃v1 v8 h4 v9 h5 v10 v11 h6,kb 2 v none (some (.int .i64 (m:Nat))) (h2++([⟨[],2,zW,true⟩]:za))=some v1∧fD (h2++([⟨[],2,zW,true⟩]:za)) 2 zW (.slice (some ⟨h2.length,0,none⟩) 0 0) v1=some (v8,h4)∧qS h4 2 zW 1 v8 (some [mvv,.int .i64 (s.z i)])=some (v9,h5)∧kb 2 v (some (.int .i64 (m:Nat))) none h5=some v10∧fD h5 2 zW v9 v10=some (v11,h6)∧h <+: h6∧(∃c q r,v11=.slice (some c) q r)∧∃mv',Gm h6 h.length s v11 (gTo s (s.n+(j+1))) mv':=fun m hm hpl=>by
        have p3:h2 <+: h2++([⟨[],2,zW,true⟩]:za):=List.prefix_append _ _;have o0:Own (h2++([⟨[],2,zW,true⟩]:za)) h2.length (h2++([⟨[],2,zW,true⟩]:za)).length 2 zW (.slice (some ⟨h2.length,0,none⟩) 0 0) []:=Acc.new.own;have G3:=G2.up p3
        have hrl:(ps.map fun p=>[mv p,Value.int .i64 (s.z p)]).length=ps.length:=List.length_map ..
        obtain⟨v1,e1,r1⟩:=G3.out.rows.sub (i:=0) (k:=m) (Nat.zero_le _) (by rw[hrl];exact hm) (by omega) (lo:=none) (hi:=some (.int .i64 (m:Nat))) rfl rfl
        rw[List.drop_zero,Nat.sub_zero] at r1
        obtain⟨v8,h4,e2,q1,q2,o4⟩:=o0.app (zy p3) r1 (by rw[List.length_take,hrl];unfold lim;simp;omega)
        have p4:h2 <+: h4:=QY p3 (Nat.le_refl _) q1 q2;rw[Nat.max_eq_right q1,List.nil_append] at o4
        obtain⟨v9,h5,e3,q3,q4,o5⟩:=o4.push1 (zy p4) [mvv,.int .i64 (s.z i)] rfl (by rw[List.length_take,hrl];unfold lim;omega)
        have p5:h2 <+: h5:=QY p4 (Nat.le_refl _) q3 q4;rw[Nat.max_eq_right q3] at o5;have l25:=zy hp2
        obtain⟨v10,e4,r4⟩:=(G2.up p5).out.rows.sub (i:=m) (k:=ps.length) hm (by rw[hrl];exact Nat.le_refl _) (by omega) (lo:=some (.int .i64 (m:Nat))) (hi:=none) rfl (by rw[hrl];rfl)
        obtain⟨v11,h6,e5,q5,q6,o6⟩:=o5.app (zy p5) r4 (by simp only[List.length_append,List.length_take,List.length_drop,List.length_cons,List.length_nil,hrl];unfold lim;omega)
        have p6:h2 <+: h6:=QY p5 (Nat.le_refl _) q5 q6;rw[Nat.max_eq_right q5] at o6
        refine⟨v1,v8,h4,v9,h5,v10,v11,h6,e1,e2,e3,e4,e5,(hp.trans hp2).trans p6,?_,fun q=>if q=i then mvv else mv q,?_⟩
        · rcases o6.is with⟨_,q⟩ | ⟨c,_,_,l3,_⟩
          · simp at q
          · exact⟨_,_,_,l3⟩
        · rw[hi',zcs hR,←hps]
          have hrow:∀q∈ps,(fun p=>[mv p,Value.int .i64 (s.z p)]) q=(fun p=>[(fun q=>if q=i then mvv else mv q) p,Value.int .i64 (s.z p)]) q:=fun q hq=>by
            have:=psl q hq;simp only
            rw[if_neg (by omega)]
          refine⟨?_,fun q hq=>?_⟩
          · have:=o6.wide (lo':=h.length) (by omega) (Nat.le_refl _)
            unfold dA;rw[hpl,List.map_append,List.map_cons];rw[←List.map_take,←List.map_drop,List.append_assoc] at this
            have t1:(ps.drop m).take (ps.length-m)=ps.drop m:=List.take_of_length_le (by rw[List.length_drop];exact Nat.le_refl _)
            rw[←List.map_take,t1] at this
            rw[List.map_congr_left fun q hq=>hrow q (List.mem_of_mem_take hq),List.map_congr_left (l:=ps.drop m) fun q hq=>hrow q (List.mem_of_mem_drop hq)] at this
            simp only[if_true];simpa using this
          · have hq':=X0.mem_iff.1 hq
            rcases List.mem_cons.1 hq' with e | hq'
            · rw[e]
              show Own h6 h.length h6.length 1 zf (if i=i then mvv else mv i) _;rw[if_pos rfl];exact (o.up p6).wide hlen0 (zy p6)
            · have:=psl q hq'
              show Own h6 h.length h6.length 1 zf (if q=i then mvv else mv q) _
              rw[if_neg (by omega)]
              exact ((G2.ins q hq').up p6).wide (Nat.le_refl _) (zy p6)
      refine WI ps.length (fun m t' loc hx=>hx=h2∧t' 0=p7 b 0∧t' 3=v∧t' 4=.int .i64 (i:Nat)∧loc 5=some [mvv,.int .i64 (s.z i)]∧t' 7=.int .i64 (m:Nat)∧m≤ps.length∧Ub s ps i m=Ub s ps i ps.length) ⟨rfl,rfl,rfl,rfl,by rw[←l5];rfl,rfl,Nat.le_refl _,rfl⟩ ?_
      clear t0 t3 t4 t6 l5
      clear t' loc u
      rintro m t' loc hx ⟨ehx,t0,t3,t4,l5,t7,hm,hpl⟩;rw[ehx]
      clear ehx hx
      cases m with
      | zero =>
        have n0:¬(((0:Nat):Int)>0):=by omega
        obtain⟨v1,v8,h4,v9,h5,v10,v11,h6,e1,e2,e3,e4,e5,e6,⟨c',q',r',e7⟩,mv',e8⟩:=tail 0 (Nat.zero_le _) (by rw[←hpl];rfl)
        simp only[t0,t3,t4,t7,l5,n0,zj,zi,List.cons_append,List.nil_append,e1,e2,e3,e4,e5,hw,go_sem]
        exact⟨by omega,by rw[hi'],e6,v11,mv',c',q',r',rfl,e7,e8⟩
      | succ q =>
        have hq:q<ps.length:=by omega
        have n0:(((q+1:Nat):Int)>0):=by omega
        have hw2:IntKind.i64.wrap (((q+1:Nat):Int)-1)=(q:Nat):=by rw[w64 (by omega) (by omega)];omega
        have el:=G2.out.rows.el (f:=fun p=>[mv p,Value.int .i64 (s.z p)]) 0 hq
        have c0:=G2.out.rows.cell (f:=fun p=>[mv p,Value.int .i64 (s.z p)]) 0 hq (o:=0) (by omega)
        have c0':ldC h2 (zz v 2 q 0) 1=some [mv (ps.getD q 0)]:=c0;have rb:=(G2.ins _ (zE (d:=0) hq)).rows;have ca:=BW (X:=X) o.rows rb (mlen _) (mlen _)
        cases hb:Q0 (wP s i) (wP s (ps.getD q 0)) with
        | true =>
          rw[hb] at ca;simp only[t0,t3,t4,t7,l5,n0,hw2,el.1,el.2.1,c0',ca,Nat.zero_add,go_sem]
          refine⟨q,by omega,by omega,by omega,?_⟩
          rw[←hpl];show _=if Q0 (wP s i) (wP s (ps.getD q 0))=true then Ub s ps i q else q+1;rw[if_pos hb]
        | false =>
          rw[hb] at ca
          obtain⟨v1,v8,h4,v9,h5,v10,v11,h6,e1,e2,e3,e4,e5,e6,⟨c',q',r',e7⟩,mv',e8⟩:=tail (q+1) hm (by
            rw[←hpl];show (if Q0 (wP s i) (wP s (ps.getD q 0))=true then Ub s ps i q else q+1)=q+1
            rw[if_neg (by rw[hb];simp)])
          simp only[t0,t3,t4,t7,l5,n0,hw2,el.1,el.2.1,c0',ca,zj,zi,List.cons_append,List.nil_append,e1,e2,e3,e4,e5,hw,Nat.zero_add,go_sem]
          exact⟨by omega,by rw[hi'],e6,v11,mv',c',q',r',rfl,e7,e8⟩
  · have hjN:s.n+j=s.N:=by omega
    rw[hjN] at G;simp only[t0,t3,t4,go_sem]
    rw[Q8 (by rw[hv];rfl)]
    exact⟨by rw[hv];rfl,mv,hp,by rw[hv];rfl,G⟩
end
inductive Op (es:List E) (s:Sv):Sv→Prop
  | refl:Op es s s
  | snoc {s1:Sv} {B a:Nat} (h:Op es s s1) (hB:zg s1 B) (ht:s1.up B=none) (ha:a<(s1.mem B).length) (hh:YQ es s1 B ((s1.mem B).getD a 0)):Op es s (zr s1 B a)
section
variable {es:List E}{T:Nat→Prop}{s s' s0 s1:Sv}{B a p v:Nat}{M:List Lk}{x:Lk}{c:Cp}{size:Int}
theorem Op.all {s':Sv}(h:Op es s s'):∀ {t},Vv es s' t→Vv es s t:=by
  induction h with
  | refl=>exact id
  | snoc h hB ht ha hh ih=>exact fun o=>ih (.step hB ht ha hh o)
theorem Op.nN {s':Sv}(h:Op es s s'):s'.n=s.n∧s'.N=s.N:=by
  induction h with
  | refl=>exact⟨rfl,rfl⟩
  | snoc h hB ht ha hh ih=>exact ih
theorem Op.ok {s':Sv}(h:Op es s s')(K:Ok0 es T s):Ok0 es T s':=by
  induction h with
  | refl=>exact K
  | snoc h hB ht ha hh ih=>exact Uv ih hB ht ha hh
theorem cM (hB:zg s B):(Zh (zr s B a)).length<(Zh s).length:=by
  have hnd:(B::Zh (zr s B a)).Nodup:=List.nodup_cons.2 ⟨fun q=>(ZQ.1 (zY.1 q)).2 rfl,uc⟩
  have:=qw hnd (b:=Zh s) fun p hp=>by
    rcases List.mem_cons.1 hp with e | hp
    · rw[e];exact zY.2 hB
    · exact zY.2 (ZQ.1 (zY.1 hp)).1
  rw[List.length_cons] at this;omega
theorem zbQ (K:Ok0 es T s)(hp:zg s p):zg s (top s p)∧s.up (top s p)=none:=by
  have hu:=K.upOk;have h1:=ZO hu (s:=s) (v:=p);refine⟨?_,yX hu⟩;rcases h1.last with e | ⟨m,e,_⟩
  · rw[←e];exact hp
  · exact (K.up _ _ e).2.1
structure Ps (s0 s1:Sv)(i:Nat):Prop where
  le:(Zh s1).length≤(Zh s0).length
  up:∀B,zg s0 B→s0.up B=none→(i≤B→zg s1 B∧s1.up B=none)∧(B<i→(Zh s1).length<(Zh s0).length)
theorem Ps.start {n:Nat}(h:∀p,zg s0 p→n≤p):Ps s0 s0 n:=⟨Nat.le_refl _,fun B h1 h2=>⟨fun _=>⟨h1,h2⟩,fun q=>by have:=h B h1;omega⟩⟩
theorem Ps.skip {i:Nat}(P:Ps s0 s1 i)(h:¬zc s1 i)(hn:s1.n≤i):Ps s0 s1 (i+1):=by
  refine⟨P.le,fun B h1 h2=>⟨fun q=>(P.up B h1 h2).1 (by omega),fun q=>?_⟩⟩
  by_cases c:B=i
  · subst c
    obtain⟨r1,r2⟩:=(P.up B h1 h2).1 (Nat.le_refl _);exact absurd ⟨r1.2.1,r2,r1.2.2⟩ h
  · exact (P.up B h1 h2).2 (by omega)
theorem Ps.open_ {i:Nat}(P:Ps s0 s1 i)(hB:zg s1 i):Ps s0 (zr s1 i a) (i+1):=by
  have hr:=cM (a:=a) hB;have hle:=P.le
  refine⟨by omega,fun B h1 h2=>⟨fun q=>?_,fun q=>by omega⟩⟩
  obtain⟨r1,r2⟩:=(P.up B h1 h2).1 (by omega)
  refine⟨ZQ.2 ⟨r1,by omega⟩,?_⟩
  show (if B∈s1.mem i then none else s1.up B)=none;split
  · rfl
  · exact r2
theorem Ps.end_ (P:Ps s0 s1 s0.N)(K:Ok0 es T s0):(Zh s1).length≤(Zh s0).length-1:=by
  have hle:=P.le
  by_cases c:(Zh s0).length=0
  · omega
  · obtain⟨p,hp⟩:=List.exists_mem_of_length_pos (l:=Zh s0) (by omega)
    obtain⟨r1,r2⟩:=zbQ K (zY.1 hp);have:=(P.up _ r1 r2).2 r1.2.1;omega
def clP (v:Nat)(x:Lk):Option Cp:=if x.f=v∧v<x.t then some ⟨(v:Int),(x.t:Int)⟩ else if x.t=v∧v<x.f then some ⟨(v:Int),(x.f:Int)⟩ else none
theorem zaj {α β:Type}{f:α→Option β}:∀ {L:List α} {x:α},L.Pairwise (fun a b=>f a=none∨f b=none)→x∈L→f x≠none→L.filterMap f=(f x).toList
  | a::L,x,h,hx,hf=>by
    obtain⟨h1,h2⟩:=List.pairwise_cons.1 h
    by_cases c:f a=none
    · rw[List.filterMap_cons_none c]
      rcases List.mem_cons.1 hx with e | hx
      · rw[e] at hf;exact absurd c hf
      · exact zaj h2 hx hf
    · have hno:∀b∈L,f b=none:=fun b hb=>(h1 b hb).resolve_left c
      have e:x=a:=by
        rcases List.mem_cons.1 hx with e | hx
        · exact e
        · exact absurd (hno x hx) hf
      rw[e]
      cases hfa:f a with
      | none=>exact absurd hfa c
      | some y =>
        rw[List.filterMap_cons_some hfa,List.filterMap_eq_nil_iff.2 hno];rfl
theorem dq (K:Ok0 es T s)(hr:∀p,¬zg s p)(m:QF es s M)(gk:GOk size es):(List.range s.n).flatMap (fun v=>M.filterMap (clP v))=Gb es s.n s.mate:=by
  have hu:=K.upOk
  have tv:∀ {v},top s v=v:=fun {v}=>xW hu (by
    cases h:s.up v with
    | none=>rfl
    | some p=>exact absurd (K.up _ _ h).2.1 (hr p))
  have at_:∀v,v<s.n→M.filterMap (clP v)=(YU es s.mate v).toList:=fun v hv=>by
    have one:∀x∈M,∀c,clP v x=some c→∃e,IsE es e x∧s.mate v=some e∧YU es s.mate v=some c:=fun x hx c hc=>by
      obtain⟨e,q1,q2,q3,_⟩:=m.of x hx;rw[tv] at q2 q3;have lt:=(wG gk q1.1).2.2
      have hcc:∀w,vA es e=v→vB es e=w→s.mate v=some e→YU es s.mate v=some ⟨(v:Int),(w:Int)⟩:=fun w h1 h2 h3=>by
        unfold YU;rw[h3];simp only;rw[if_pos h1,h2]
      unfold clP at hc;split at hc
      · next h =>
        cases hc;rw[h.1] at q2;refine⟨e,q1,q2,?_⟩;rcases q1.2 with⟨p1,p2⟩ | ⟨p1,p2⟩
        · exact hcc _ (by omega) (by omega) q2
        · omega
      · split at hc
        · next h =>
          cases hc;rw[h.1] at q3;refine⟨e,q1,q3,?_⟩;rcases q1.2 with⟨p1,p2⟩ | ⟨p1,p2⟩
          · omega
          · exact hcc _ (by omega) (by omega) q3
        · cases hc
    have hpw:M.Pairwise fun a b=>clP v a=none∨clP v b=none:=by
      refine List.Pairwise.imp_of_mem ?_ m.nd;intro x y hx hy hxy
      cases h1:clP v x with
      | none=>exact .inl rfl
      | some c =>
        cases h2:clP v y with
        | none=>exact .inr rfl
        | some d =>
          exfalso;obtain⟨e,a1,a2,_⟩:=one x hx c h1;obtain⟨f,b1,b2,_⟩:=one y hy d h2;rw[a2] at b2;cases b2;exact hxy e a1 b1
    cases hc:YU es s.mate v with
    | none =>
      rw[List.filterMap_eq_nil_iff.2 fun x hx=>?_]
      · rfl
      · cases h1:clP v x with
        | none=>rfl
        | some c=>obtain⟨_,_,_,q⟩:=one x hx c h1;rw[hc] at q;cases q
    | some c =>
      obtain⟨e,e1,e2,e3⟩:=Ui hc
      have hvT:zc s v:=⟨Nat.lt_of_lt_of_le hv K.nN,by
        cases h:s.up v with
        | none=>rfl
        | some p=>exact absurd (K.up _ _ h).2.1 (hr p),by
        cases h:s.gone v with
        | false=>rfl
        | true=>have:=(K.gone v h).1;omega⟩
      obtain⟨x,hx,h1⟩:=m.all v e hvT e1;have lt:=(wG gk h1.1).2.2
      have hxc:clP v x=some c:=by
        unfold clP;rw[e3];rcases h1.2 with⟨p1,p2⟩ | ⟨p1,p2⟩
        · rw[if_pos (by omega),p2]
        · rw[if_neg (by omega),if_pos (by omega),p1]
      rw[zaj hpw hx (by rw[hxc];simp),hxc]
  unfold Gb
  have key:∀L:List Nat,(∀v∈L,v<s.n)→L.flatMap (fun v=>M.filterMap (clP v))=L.filterMap (YU es s.mate):=fun L=>by
    induction L with
    | nil=>intro _;rfl
    | cons v L ih =>
      intro h
      rw[List.flatMap_cons,ih fun u hu=>h u (List.mem_cons_of_mem _ hu),at_ v (h v List.mem_cons_self),List.filterMap_cons]
      cases YU es s.mate v<;>rfl
  exact key _ fun v hv=>List.mem_range.1 hv
end
structure Nw (es:List E)(s:Sv)(b kk lo:Nat)(h3 hh:za)(g:Ql)(V:RV)(s1:Sv)(M:List Lk):Prop where
  R:Rn g hh b es s1 M kk true V
  K:Ok0 es (Ze es s) s1
  m:QF es s1 M
  bs:wT s1 V.bs
  op:Op es s s1
  un:Un lo h3.length h3 hh g
  low:∀c,c+1<b→hh[c]?=h3[c]?
def ym (M:List Lk)(u i:Nat):List Cp:=(List.range u).flatMap (fun v=>M.filterMap (clP v))++(M.take i).filterMap (clP u)
theorem zaa {M:List Lk}:∀ {u i:Nat},(ym M u i).length≤(u+1)*M.length
  | u,i=>by
    unfold ym;rw[List.length_append]
    have h1:((M.take i).filterMap (clP u)).length≤M.length:=Nat.le_trans (List.length_filterMap_le _ _) (by rw[List.length_take];omega)
    have h2:∀u,((List.range u).flatMap (fun v=>M.filterMap (clP v))).length≤u*M.length:=fun u=>by
      induction u with
      | zero=>simp
      | succ u ih =>
        rw[List.range_succ,List.flatMap_append,List.length_append,List.flatMap_singleton,Nat.add_mul];have:=List.length_filterMap_le (clP u) M;omega
    have:=h2 u;rw[Nat.add_mul];omega
theorem dp {M:List Lk}{u:Nat}:ym M u M.length=ym M (u+1) 0:=by
  unfold ym;rw[List.take_length,List.range_succ,List.flatMap_append,List.flatMap_singleton];simp
theorem zab {M:List Lk}{u i:Nat}{c:Cp}(hi:i<M.length)(h:clP u (M.getD i l0)=some c):ym M u (i+1)=ym M u i++[c]:=by
  unfold ym;rw[Zj (d:=l0) hi,List.filterMap_append,←List.append_assoc]
  congr 1
  rw[List.filterMap_cons_some h];rfl
theorem zcd {M:List Lk}{u i:Nat}(hi:i<M.length)(h:clP u (M.getD i l0)=none):ym M u (i+1)=ym M u i:=by
  unfold ym;rw[Zj (d:=l0) hi,List.filterMap_append,List.filterMap_cons_none h];simp
section
variable {X:Zb}{h:za}{es:List E}{v:Value}{n:Nat}
set_option maxRecDepth 100000 in
open Classical in
theorem Uo (he : Rows h 5 v (ZF es)) (gk : GOk (n : Int) es) (n9 : n ≤ 9) (hl : es.length ≤ 1000) :
    ∃h' mv yv gv m ys gs,C T X wJ [zC n v] h=some (.tuple ⟨[mv,Zg yv gv,.bool true]⟩,h')∧h <+: h'∧(∃p q,h.length≤p∧p≤q∧q≤h'.length∧Own h' p q 1 zf yv (zq ys)∧OG h' q gv gs∧Own h' q h'.length 2 Zl mv (cps m))∧ZG (n:Int) es m ys gs:=by
  suffices hx:∃w h',C T X wJ [zC n v] h=some (w,h')∧∃mv yv gv m ys gs,w=.tuple ⟨[mv,Zg yv gv,.bool true]⟩∧h <+: h'∧(∃p q,h.length≤p∧p≤q∧q≤h'.length∧Own h' p q 1 zf yv (zq ys)∧OG h' q gv gs∧Own h' q h'.length 2 Zl mv (cps m))∧ZG (n:Int) es m ys gs by
    obtain⟨w,h',c,mv,yv,gv,m,ys,gs,rfl,q⟩:=hx;exact⟨h',mv,yv,gv,m,ys,gs,c,q⟩
  have cg:=ur (X:=X) (size:=(n:Int)) he (by unfold lim;omega)
  rw[decide_eq_true gk] at cg;obtain⟨h1,g,V,s,M,kk,Y,Mx,cs,p1,R,mt,bs,G,fr,hsn,hN⟩:=BZ (X:=X) he gk n9 hl;obtain⟨b,hb⟩:∃b,b=h.length+1:=⟨_,rfl⟩;rw[←hb] at cs R;have K:=G.K;have hs:=G.sm hN;have nN:=K.nN;have hbl:=R.bl;have py:h1 <+: h1++([⟨[],1,zf,true⟩]:za):=List.prefix_append _ _;have oy0:Own (h1++([⟨[],1,zf,true⟩]:za)) h1.length (h1++([⟨[],1,zf,true⟩]:za)).length 1 zf (.slice (some ⟨h1.length,0,none⟩) 0 0) []:=Acc.new.own;have Ry:=R.up py
  have yl:(vP s).length=s.n:=by unfold vP;simp
  obtain⟨yv,h2,ey,q1,q2,oy⟩:=oy0.app (zy py) Ry.y.rows (by rw[z9,yl];unfold lim;simp;omega)
  have p2:h1 <+: h2:=QY py (Nat.le_refl _) q1 q2;rw[Nat.max_eq_right q1,List.nil_append] at oy;obtain⟨gv,h3,mv0,cgr,p3,gvc,Gm0⟩:=br (X:=X) (R.up p2) K hs;have R3:=(R.up p2).up p3;refine wU Fw rfl ?_;unfold VX;unfold zC at cg cs ⊢;simp only[cg,cs,ey,cgr,Ry.chk,Ry.fa,Ry.ld2,oy.cells,gvc,zj,zi,List.prefix_refl,List.cons_append,List.nil_append,Nat.zero_add,go_sem];have hblo:b<h1.length:=hbl
  have N0:Nw es s b kk h1.length h3 h3 g V s M:=⟨R3,K.ok0,mt,bs,.refl,⟨fun _ _ _=>rfl,fun c c1 _=>by
    cases q:g c with
    | none=>rfl
    | some τ=>have:=(R.ok c τ q).2;omega,Nat.le_refl _⟩,fun _ _=>rfl⟩
  have rl0:(Zh s).length≤s.N-0:=by
    have:=qw (a:=Zh s) (b:=List.range s.N) uc fun p hp=>List.mem_range.2 (zY.1 hp).2.1
    rw[List.length_range] at this;exact this
  refine zT s.N (fun k2 t' loc hh=>t' 5=p7 b 0∧loc 1=some [.int .i64 (n:Nat),v]∧loc 6=some [yv,gv]∧loc 3=some [zh,zh]∧t' 7=.int .i64 (k2:Nat)∧∃g' V' s1 M1,Nw es s b kk h1.length h3 hh g' V' s1 M1∧(Zh s1).length≤s.N-k2) ⟨rfl,rfl,rfl,rfl,rfl,g,V,s,M,N0,rl0⟩ ?_
  rintro k2 t' loc hh hk2 ⟨t5,l1,l6,l3,t7,g',V',s0,M0,Nw0,rl⟩;have hNN:s0.N=s.N:=Nw0.op.nN.2;have hnn:s0.n=s.n:=Nw0.op.nN.1;have nln:=Nw0.R.nln;rw[hNN] at nln;have ld0:=Nw0.R.ld0;rw[hnn] at ld0;simp only[t5,t7,Nw0.R.chk,Nw0.R.fa,Nw0.R.ld3,nln,Nat.zero_add,go_sem]
  refine zt (by simp only[go_sem];rfl) ?_ ?_<;>intro hc
  · have hk21:k2<s.N:=by omega
    have hw:IntKind.i64.wrap ((k2:Int)+1)=((k2+1:Nat):Int):=w64 (by omega) (by omega)
    simp only[t5,t7,l1,l6,l3,Nw0.R.chk,Nw0.R.fa,ld0,Nat.zero_add,go_sem]
    have P0:Ps s0 s0 s.n:=Ps.start fun p hp=>by rw[←hnn];exact hp.1
    refine zT (s.N-s.n) (fun j t' loc hh=>t' 5=p7 b 0∧loc 1=some [.int .i64 (n:Nat),v]∧loc 6=some [yv,gv]∧loc 3=some [zh,zh]∧t' 7=.int .i64 (k2:Nat)∧t' 8=.int .i64 ((s.n+j:Nat):Int)∧∃g' V' s1 M1,Nw es s b kk h1.length h3 hh g' V' s1 M1∧Ps s0 s1 (s.n+j)) ⟨rfl,by rw[←l1];rfl,by rw[←l6];rfl,by rw[←l3];rfl,rfl,rfl,g',V',s0,M0,Nw0,P0⟩ ?_
    have K00:=Nw0.K
    clear Nw0 P0 t5 l1 l6 l3 t7 nln ld0 hc
    clear t' loc hh g' V' M0
    rintro j t' loc hh hj ⟨t5,l1,l6,l3,t7,t8,g',V',s1,M1,Nw1,P1⟩;have hNN1:s1.N=s.N:=Nw1.op.nN.2;have hnn1:s1.n=s.n:=Nw1.op.nN.1;have nln:=Nw1.R.nln;rw[hNN1] at nln;simp only[t5,t8,Nw1.R.chk,Nw1.R.fa,Nw1.R.ld3,nln,Nat.zero_add,go_sem]
    refine zt (by simp only[go_sem];rfl) ?_ ?_<;>intro hc
    · have hj1:s.n+j<s.N:=by omega
      have hw':IntKind.i64.wrap (((s.n+j:Nat):Int)+1)=((s.n+(j+1):Nat):Int):=w64 (by omega) (by omega)
      have ci:=um (X:=X) Nw1.R (i:=s.n+j) (by omega)
      by_cases c1:zc s1 (s.n+j)
      · rw[xt c1] at ci
        have hB:zg s1 (s.n+j):=⟨by omega,c1.1,c1.2.2⟩
        obtain⟨a,h4,g4,V4,M4,c4,f4,R4,m4,a4,hh4,bs4,_⟩:=J2 (X:=X) Nw1.bs Nw1.R Nw1.K Nw1.m gk (by omega) (by omega) hB c1.2.1
        simp only[t5,t7,t8,l1,l6,l3,ci,c4,hw',Nat.zero_add,go_sem]
        refine⟨by omega,g4,V4,_,M4,⟨R4,Uv Nw1.K hB c1.2.1 a4 hh4,m4,bs4.2,.snoc Nw1.op hB c1.2.1 a4 hh4,Nw1.un.tn f4 hblo,fun c hc=>?_⟩,P1.open_ hB⟩
        rw[f4.low Nw1.R.ok Nw1.R.bl c hc];exact Nw1.low c hc
      · rw[Ku c1] at ci
        simp only[t5,t7,t8,l1,l6,l3,ci,hw',Nat.zero_add,go_sem]
        exact⟨by omega,g',V',s1,M1,Nw1,P1.skip c1 (by omega)⟩
    · have hjN:s.n+j=s.N:=by omega
      rw[hjN,←hNN] at P1;have:=P1.end_ K00;simp only[t5,t7,t8,l1,l6,l3,hw,go_sem]
      exact⟨hk21,g',V',s1,M1,Nw1,by omega⟩
  have hkN:k2=s.N:=by omega
  have hr:∀p,¬zg s0 p:=fun p hp=>by
    have:=List.length_pos_of_mem (zY.2 hp);omega
  have OA:Vv es s s0:=Nw0.op.all (.done _ hr)
  have CE:=DZ gk (by rw[hsn]) K G.L G.B (by have:=G.m;omega) fr OA zap
  have CL:=dq Nw0.K hr Nw0.m gk;rw[hnn] at CL;simp only[t5,t7,l1,l6,l3,zj,zi,go_sem];have RF:=Nw0.R;have hM0:=CA Nw0.K Nw0.m;have hMl:=Nw0.m.le
  have CL0:ym M0 s.n 0=Gb es s.n s0.mate:=by
    rw[←CL];unfold ym;simp
  clear hc t5 t7 l1 l6 l3 nln ld0
  refine zT n (fun u t' loc hx=>t' 5=p7 b 0∧loc 1=some [.int .i64 (n:Nat),v]∧loc 6=some [yv,gv]∧loc 3=some [zh,zh]∧t' 10=.int .i64 (u:Nat)∧hh <+: hx∧∃cv cp q r,t' 9=cv∧cv=.slice (some cp) q r∧Own hx hh.length hx.length 2 Zl cv (cps (ym M0 u 0))) ⟨rfl,rfl,rfl,rfl,rfl,List.prefix_append _ _,.slice (some ⟨hh.length,0,none⟩) 0 0,_,_,_,rfl,rfl,Acc.new.own⟩ ?_
  clear t' loc
  rintro u t' loc hx hu ⟨t5,l1,l6,l3,t10,hpx,cv,cp,q,r,t9,hcv,o⟩;simp only[t10,l1,go_sem]
  refine zt (by simp only[go_sem];rfl) ?_ ?_<;>intro hc
  · have hu1:u<n:=by omega
    have hw:IntKind.i64.wrap ((u:Int)+1)=((u+1:Nat):Int):=w64 (by omega) (by omega)
    simp only[t5,t9,t10,l1,l6,l3,go_sem]
    refine zT M0.length (fun i t' loc hx=>t' 5=p7 b 0∧loc 1=some [.int .i64 (n:Nat),v]∧loc 6=some [yv,gv]∧loc 3=some [zh,zh]∧t' 10=.int .i64 (u:Nat)∧t' 11=.int .i64 (i:Nat)∧hh <+: hx∧∃cv cp q r,t' 9=cv∧cv=.slice (some cp) q r∧Own hx hh.length hx.length 2 Zl cv (cps (ym M0 u i))) ⟨rfl,by rw[←l1];rfl,by rw[←l6];rfl,by rw[←l3];rfl,rfl,rfl,hpx,cv,cp,q,r,rfl,hcv,o⟩ ?_
    clear t5 l1 l6 l3 t10 hpx t9 hcv o hc
    clear t' loc hx cv cp q r
    rintro i t' loc hx hi ⟨t5,l1,l6,l3,t10,t11,hpx,cv,cp,q,r,t9,hcv,o⟩;have R':=RF.up hpx;simp only[t5,t11,R'.chk,R'.fa,R'.ld4,R'.mln,Nat.zero_add,go_sem]
    refine zt (by simp only[go_sem];rfl) ?_ ?_<;>intro hc
    · have hi1:i<M0.length:=by omega
      have hwi:IntKind.i64.wrap ((i:Int)+1)=((i+1:Nat):Int):=w64 (by omega) (by omega)
      obtain⟨m1,m2,m3⟩:=R'.mia hi1;obtain⟨x,hxd⟩:∃x,x=M0.getD i l0:=⟨_,rfl⟩;have hno:=zcd (u:=u) hi1
      have hyes:=fun c=>zab (u:=u) (c:=c) hi1
      rw[←hxd] at m3 hno hyes;unfold lkR at m3
      have hlen:(cps (ym M0 u i)).length<lim:=by
        rw[List.length_map];have h1:=zaa (M:=M0) (u:=u) (i:=i)
        have h2:(u+1)*M0.length≤9*400:=Nat.mul_le_mul (by omega) hMl
        unfold lim;omega
      have pushed:∀w:Nat,clP u x=some ⟨(u:Int),(w:Int)⟩→∃v2 h2,qS hx 2 Zl 1 cv (some [.int .i64 (u:Nat),.int .i64 (w:Nat)])=some (v2,h2)∧hh <+: h2∧∃cp q r,v2=.slice (some cp) q r∧Own h2 hh.length h2.length 2 Zl v2 (cps (ym M0 u (i+1))):=fun w hw=>by
        obtain⟨v2,h2',c3,p1',p2',o2⟩:=o.push1 (zy hpx) [.int .i64 (u:Nat),.int .i64 (w:Nat)] rfl hlen;rw[Nat.max_eq_right p1'] at o2
        have o3:Own h2' hh.length h2'.length 2 Zl v2 (cps (ym M0 u (i+1))):=by
          rw[hyes _ hw];simpa[cps,cpR] using o2
        refine⟨v2,h2',c3,QY hpx (Nat.le_refl _) p1' p2',?_⟩;rcases o2.is with⟨_,q⟩ | ⟨c,_,_,l3,_⟩
        · simp at q
        · exact⟨_,_,_,l3,o3⟩
      by_cases d1:(x.f:Int)=(u:Int)
      · by_cases d2:(x.t:Int)>(u:Int)
        · obtain⟨v2,h2',c3,p3',cp',q',r',e1,o2⟩:=pushed x.t (by unfold clP;rw[if_pos ⟨by omega,by omega⟩])
          have d3:¬(x.t:Int)=(u:Int):=by omega
          have R2:=RF.up p3';simp only[t5,t9,t10,t11,l1,l6,l3,R'.chk,R'.fa,R'.ld4,m1,m2,m3,d1,d2,d3,c3,hwi,Nat.zero_add,zj,zi,List.prefix_refl,List.cons_append,List.nil_append,go_sem];exact⟨hi1,p3',v2,cp',q',r',rfl,e1,o2⟩
        · have hn:clP u x=none:=by unfold clP;rw[if_neg (by omega),if_neg (by omega)]
          by_cases d3:(x.t:Int)=(u:Int)
          · have d4:¬(u:Int)>(u:Int):=by omega
            simp only[t5,t9,t10,t11,l1,l6,l3,R'.chk,R'.fa,R'.ld4,m1,m2,m3,d1,d2,d3,d4,hwi,Nat.zero_add,zj,zi,List.prefix_refl,List.cons_append,List.nil_append,go_sem]
            exact⟨hi1,hpx,cv,cp,q,r,rfl,hcv,by rw[hno hn];exact o⟩
          · simp only[t5,t9,t10,t11,l1,l6,l3,R'.chk,R'.fa,R'.ld4,m1,m2,m3,d1,d2,d3,hwi,Nat.zero_add,zj,zi,List.prefix_refl,List.cons_append,List.nil_append,go_sem]
            exact⟨hi1,hpx,cv,cp,q,r,rfl,hcv,by rw[hno hn];exact o⟩
      · by_cases d3:(x.t:Int)=(u:Int)
        · by_cases d4:(x.f:Int)>(u:Int)
          · obtain⟨v2,h2',c3,p3',cp',q',r',e1,o2⟩:=pushed x.f (by unfold clP;rw[if_neg (by omega),if_pos ⟨by omega,by omega⟩])
            simp only[t5,t9,t10,t11,l1,l6,l3,R'.chk,R'.fa,R'.ld4,m1,m2,m3,d1,d3,d4,c3,hwi,Nat.zero_add,zj,zi,List.prefix_refl,List.cons_append,List.nil_append,go_sem];exact⟨hi1,p3',v2,cp',q',r',rfl,e1,o2⟩
          · have hn:clP u x=none:=by unfold clP;rw[if_neg (by omega),if_neg (by omega)]
            simp only[t5,t9,t10,t11,l1,l6,l3,R'.chk,R'.fa,R'.ld4,m1,m2,m3,d1,d3,d4,hwi,Nat.zero_add,zj,zi,List.prefix_refl,List.cons_append,List.nil_append,go_sem]
            exact⟨hi1,hpx,cv,cp,q,r,rfl,hcv,by rw[hno hn];exact o⟩
        · have hn:clP u x=none:=by unfold clP;rw[if_neg (by omega),if_neg (by omega)]
          simp only[t5,t9,t10,t11,l1,l6,l3,R'.chk,R'.fa,R'.ld4,m1,m2,m3,d1,d3,hwi,Nat.zero_add,zj,zi,List.prefix_refl,List.cons_append,List.nil_append,go_sem]
          exact⟨hi1,hpx,cv,cp,q,r,rfl,hcv,by rw[hno hn];exact o⟩
    · have hiM:i=M0.length:=by omega
      rw[hiM,dp] at o;simp only[t5,t9,t10,t11,l1,l6,l3,hw,go_sem];exact⟨hu1,hpx,cv,cp,q,r,rfl,hcv,o⟩
  · have hun:u=s.n:=by omega
    rw[hun,CL0] at o;simp only[t5,t9,t10,l1,l6,l3,go_sem]
    rw[Q8 (by rw[hcv];rfl)]
    have oy3:=((oy.up p3).un Nw0.un (Nat.le_refl _) (zy p3)).up hpx;have zaK:=zy p2
    have GF:Gm hx h2.length s gv (gTo s s.N) mv0:=⟨((Gm0.out.un Nw0.un zaK (Nat.le_refl _)).up hpx).wide (Nat.le_refl _) (Nat.le_trans Nw0.un.len (zy hpx)),fun p hp=>(((Gm0.ins p hp).un Nw0.un zaK (Nat.le_refl _)).up hpx).wide (Nat.le_refl _) (Nat.le_trans Nw0.un.len (zy hpx))⟩
    refine⟨by rw[hcv];rfl,cv,yv,gv,_,_,_,rfl,?_,⟨h1.length,h2.length,zy p1,zy p2,Nat.le_trans (zy p3) (Nat.le_trans Nw0.un.len (zy hpx)),oy3,GF.og,o.wide (Nat.le_trans (zy p3) Nw0.un.len) (Nat.le_refl _)⟩,CE⟩
    refine QM (Nat.le_trans (zy ((p1.trans p2).trans p3)) (Nat.le_trans Nw0.un.len (zy hpx))) fun c hc=>?_
    have hch:=RF.bl
    rw[ZE hpx (by omega),Nw0.low c (by omega),ZE ((p1.trans p2).trans p3) hc]
end
theorem yU {a b:ByteArray}:(a.toList==b.toList)=decide (a=b):=by
  rw[ByteArray.toList_eq,ByteArray.toList_eq]
  by_cases h:a=b
  · subst h;rw[decide_eq_true rfl];exact BEq.rfl
  · have h2:¬a.data.toList=b.data.toList:=fun e=>h (ByteArray.ext (Array.toList_inj.1 e))
    rw[decide_eq_false h];exact beq_eq_false_iff_ne.2 h2
def byt (s:ByteArray)(i:Nat):Nat:=(s.data.toList.getD i 0).toNat
theorem BH {s:ByteArray}{i:Nat}:byt s i<256:=(s.data.toList.getD i 0).toNat_lt
theorem zaD {s:ByteArray}{i:Nat}(h:i<s.size):ixV (.string s) (.int .i64 (i:Int))=some (.int .u8 (byt s i:Nat)):=by
  simp only[ixV]
  rw[if_pos ⟨by omega,by omega⟩,Int.toNat_natCast]
  rfl
def WT (s:ByteArray)(a b:Nat):List Int:=((s.data.toList.drop a).take (b-a)).map fun x=>(x.toNat:Int)
theorem fg {s:ByteArray}:s.data.toList.length=s.size:=Array.length_toList
theorem kH {s:ByteArray}{a b:Nat}:s.extract a b=strOfNums (WT s a b):=by
  apply ByteArray.ext
  apply Array.toList_inj.1
  rw[strOfNums_data,ByteArray.data_extract,Array.toList_extract];unfold WT;rw[List.map_map]
  have:∀l:List UInt8,l=l.map ((fun n:Int=>UInt8.ofNat n.toNat) ∘ fun x=>(x.toNat:Int)):=by
    intro l
    induction l with
    | nil=>rfl
    | cons x l ih =>
      rw[List.map_cons,←ih];simp
  rw[←this]
theorem fe {s:ByteArray}{a b:Nat}(h:a≤b)(hb:b<s.size):WT s a (b+1)=WT s a b++[(byt s b:Int)]:=by
  unfold WT byt;have hl:=fg (s:=s)
  have h1:b+1-a=(b-a)+1:=by omega
  have h2:b-a<(s.data.toList.drop a).length:=by rw[List.length_drop];omega
  rw[h1,Zj (d:=0) h2,List.map_append]
  have:(s.data.toList.drop a).getD (b-a) 0=s.data.toList.getD b 0:=by
    simp only[List.getD_eq_getElem?_getD,List.getElem?_drop]
    rw[show a+(b-a)=b by omega]
  rw[this];rfl
theorem yT {s:ByteArray}{a:Nat}:WT s a a=[]:=by simp[WT]
theorem zbt {s:ByteArray}{a b:Nat}:∀x∈WT s a b,0≤x∧x<256:=by
  intro x hx;obtain⟨u,_,rfl⟩:=List.mem_map.1 hx;have:=u.toNat_lt;omega
theorem XA:∀ {l m:List Int},(∀x∈l,0≤x∧x<256)→(∀x∈m,0≤x∧x<256)→strOfNums l=strOfNums m→l=m:=by
  intro l m hl hm h
  have h1:(l.map fun n=>UInt8.ofNat n.toNat)=m.map fun n=>UInt8.ofNat n.toNat:=by
    have:=congrArg (fun b:ByteArray=>b.data.toList) h
    simpa[strOfNums_data] using this
  clear h
  induction l generalizing m with
  | nil =>
    cases m with
    | nil=>rfl
    | cons b m=>simp at h1
  | cons a l ih =>
    cases m with
    | nil=>simp at h1
    | cons b m =>
      simp only[List.map_cons,List.cons.injEq] at h1;have ha:=hl a List.mem_cons_self;have hb:=hm b List.mem_cons_self
      have e:a=b:=by
        have h2:=congrArg UInt8.toNat h1.1;simp only[UInt8.toNat_ofNat'] at h2
        rw[Nat.mod_eq_of_lt (by omega),Nat.mod_eq_of_lt (by omega)] at h2
        omega
      rw[e,ih (fun x hx=>hl x (List.mem_cons_of_mem _ hx)) (fun x hx=>hm x (List.mem_cons_of_mem _ hx)) h1.2]
def Z1 (n:Nat):List Int:=if 127<n then ((n%128+128:Nat):Int)::Z1 (n / 128) else [(n:Int)]
termination_by n
decreasing_by omega
def KR (n:Nat):ByteArray:=strOfNums (Z1 n)
theorem Bw:∀(k n:Nat),n<k→∀x∈Z1 n,0≤x∧x<256:=by
  intro k
  induction k with
  | zero=>intro n h;omega
  | succ k ih =>
    intro n h x hx;unfold Z1 at hx;split at hx
    · rcases List.mem_cons.1 hx with rfl | hx
      · omega
      · exact ih (n / 128) (by omega) x hx
    · rw[List.mem_singleton.1 hx];omega
def U2:List Int→Nat
  | []=>0
  | b::l=>b.toNat%128+128*U2 l
theorem Yv:∀ {l:List Int} {b:Int},U2 (l++[b])=U2 l+b.toNat%128*128 ^ l.length
  | [],b=>by simp[U2]
  | a::l,b=>by
    simp only[List.cons_append,U2,Yv (l:=l),List.length_cons,Nat.pow_succ,Nat.mul_add];rw[Nat.add_assoc]
    congr 2
    rw[Nat.mul_comm (128 ^ l.length) 128,←Nat.mul_assoc,←Nat.mul_assoc,Nat.mul_comm 128 (b.toNat%128)]
theorem kF:∀ {l:List Int} {b:Int},(∀x∈l,128≤x∧x<256)→0≤b∧b<128→(Z1 (U2 (l++[b]))=l++[b]↔(l=[]∨b≠0))
  | [],b,_,hb=>by
    have:U2 ([]++[b])=b.toNat:=by simp[U2];omega
    rw[this];unfold Z1
    rw[if_neg (by omega)]
    simp;omega
  | a::l,b,hl,hb=>by
    have ha:=hl a List.mem_cons_self
    have ih:=kF (l:=l) (b:=b) (fun x hx=>hl x (List.mem_cons_of_mem _ hx)) hb
    have hv:U2 (a::l++[b])=a.toNat%128+128*U2 (l++[b]):=rfl;rw[hv]
    have hd:(a.toNat%128+128*U2 (l++[b])) / 128=U2 (l++[b]):=by omega
    have hm:(a.toNat%128+128*U2 (l++[b]))%128=a.toNat%128:=by omega
    by_cases h0:U2 (l++[b])=0
    · -- nothing stands behind: the shorter form is another one
      rw[h0]
      have hb0:b=0:=by
        rw[Yv] at h0
        have hp:0<128 ^ l.length:=Nat.pow_pos (by omega)
        have:b.toNat%128*128 ^ l.length=0:=by omega
        rcases Nat.mul_eq_zero.1 this with h | h
        · omega
        · omega
      unfold Z1
      rw[if_neg (by omega)]
      constructor
      · intro h
        simp at h
      · rintro (h | h)
        · cases h
        · exact absurd hb0 h
    · unfold Z1
      rw[if_pos (by omega),hd,hm]
      have e:((a.toNat%128+128:Nat):Int)=a:=by omega
      rw[e];simp only[List.cons_append,List.cons.injEq,true_and];rw[ih];constructor
      · rintro (h | h)
        · subst h
          refine .inr fun hb0=>h0 ?_
          subst hb0;simp[U2]
        · exact .inr h
      · rintro (h | h)
        · cases h
        · exact .inr h
def yo (s:ByteArray)(at0:Nat):Nat→Nat→Nat→Nat→Option (Nat × Nat)
  | 0,_,_,_=>none
  | f+1,i,n,u=>if i<s.size then
      (if byt s i<128 then (if (byt s i=0∧at0<i)∨1000000000<n+byt s i%128*u then none else some (n+byt s i%128*u,i+1))
      else yo s at0 f (i+1) (n+byt s i%128*u) (u*128))
    else none
def xf (s:ByteArray)(a:Nat):Option (Nat × Nat):=yo s a 5 a 0 1
theorem Bc {s:ByteArray}{a:Nat}:∀ {f i n u m k:Nat},yo s a f i n u=some (m,k)→m≤1000000000∧i<k∧k≤i+f∧k≤s.size
  | 0,_,_,_,_,_,h=>by cases h
  | f+1,i,n,u,m,k,h=>by
    unfold yo at h;split at h
    · split at h
      · split at h
        · cases h
        · simp only[Option.some.injEq,Prod.mk.injEq] at h
          omega
      · have:=Bc h
        omega
    · cases h
theorem Jp (n:Nat)(h:n≤1000000000):(Z1 n).length≤5:=by
  have key:∀k n,n<128 ^ k→0<k→(Z1 n).length≤k:=by
    intro k
    induction k with
    | zero=>intro n _ h;omega
    | succ k ih =>
      intro n hn _;unfold Z1;split
      · have:n / 128<128 ^ k:=by rw[Nat.pow_succ] at hn;exact Nat.div_lt_of_lt_mul (by omega)
        have hk:0<k:=by
          cases k with
          | zero=>simp at hn;omega
          | succ k=>omega
        have:=ih _ this hk;simp;omega
      · simp
  exact key 5 n (by omega) (by omega)
section
variable {X:Zb}{h:za}
theorem YK {n:Nat}(hn:n≤1000000000):C T X zQ [.int .i64 n] h=some (.string (KR n),h):=by
  refine qH XJ rfl ?_;unfold Vq;simp only[go_sem]
  refine WI n (fun m t loc h'=>∃pre v,t 0=.int .i64 (m:Nat)∧t 3=v∧Acc h 1 VS v (bys pre) h'∧pre.length+(Z1 m).length≤5∧m≤n∧pre++Z1 m=Z1 n) ⟨[],_,rfl,rfl,Acc.new,by have:=Jp n hn;simpa using this,Nat.le_refl _,rfl⟩ ?_
  rintro m t loc h' ⟨pre,v,t0,t3,hacc,hlen,hm,hpre⟩;simp only[t0,t3,go_sem]
  refine zt (by simp only[t0,t3,go_sem];rfl) ?_ ?_<;>intro hc
  · have hb:IntKind.u8.wrap (IntKind.i64.wrap (((m%128:Nat):Int)+128))=((m%128+128:Nat):Int):=by rw[w64 (by omega) (by omega),wu8 (by omega) (by omega)];omega
    have hd:IntKind.i64.wrap ((m / 128:Nat):Int)=((m / 128:Nat):Int):=w64 (by omega) (by omega)
    have hv:Z1 m=((m%128+128:Nat):Int)::Z1 (m / 128):=by rw[Z1];rw[if_pos (by omega)]
    rw[hv] at hlen hpre
    obtain⟨v',hh',ha,hacc'⟩:=hacc.push1 [.int .u8 ((m%128+128:Nat):Int)] rfl (by rw[V3];unfold lim;simp at hlen;omega)
    simp only[t0,t3,wL,CV,hb,hd,ha,go_sem]
    refine⟨m / 128,by omega,pre++[((m%128+128:Nat):Int)],v',rfl,rfl,by simpa[bys] using hacc',by simp at hlen ⊢;omega,by omega,by simpa using hpre⟩
  · have hb:IntKind.u8.wrap (m:Int)=m:=wu8 (by omega) (by omega)
    have hv:Z1 m=[(m:Int)]:=by rw[Z1];rw[if_neg (by omega)]
    rw[hv] at hlen hpre
    obtain⟨v',hh',ha,hacc'⟩:=hacc.push1 [.int .u8 (m:Int)] rfl (by rw[V3];unfold lim;simp at hlen;omega)
    have hstr:XB hh' v'=some (.string (KR n)):=by
      have:Acc h 1 VS v' (bys (Z1 n)) hh':=by rw[←hpre];simpa[bys] using hacc'
      exact this.rows.str
    simp only[t0,t3,hb,ha,hstr,go_sem];exact zF rfl hacc'.up
theorem GE {n:Int}:C T X we [.int .i64 n] h=some (if 0≤n∧n≤1000000000 then .tuple ⟨[.string (KR n.toNat),.bool true]⟩ else .tuple ⟨[.string ⟨⟨[]⟩⟩,.bool false]⟩,h):=by
  refine qH xy rfl ?_;unfold WY;simp only[Za,go_sem]
  by_cases hc:0≤n∧n≤1000000000
  rotate_left
  · have hc':(decide (0≤n) && decide (n≤1000000000))=false:=by simp;omega
    simp only[hc,hc',go_sem]
  have hc':(decide (0≤n) && decide (n≤1000000000))=true:=by simp;omega
  simp only[hc,hc',go_sem];obtain⟨k,rfl⟩:=Int.eq_ofNat_of_zero_le hc.1
  have hn:k≤1000000000:=by omega
  refine WI k (fun m t loc h'=>∃pre v,t 0=.int .i64 (m:Nat)∧t 4=v∧Acc h 1 VS v (bys pre) h'∧pre.length+(Z1 m).length≤5∧m≤k∧pre++Z1 m=Z1 k) ⟨[],_,rfl,rfl,Acc.nil,by have:=Jp k hn;simpa using this,Nat.le_refl _,rfl⟩ ?_
  rintro m t loc h' ⟨pre,v,t0,t3,hacc,hlen,hm,hpre⟩;simp only[t0,t3,go_sem]
  refine zt (by simp only[t0,t3,go_sem];rfl) ?_ ?_<;>intro hc
  · have hb:IntKind.u8.wrap (IntKind.i64.wrap (((m%128:Nat):Int)+128))=((m%128+128:Nat):Int):=by rw[w64 (by omega) (by omega),wu8 (by omega) (by omega)];omega
    have hd:IntKind.i64.wrap ((m / 128:Nat):Int)=((m / 128:Nat):Int):=w64 (by omega) (by omega)
    have hv:Z1 m=((m%128+128:Nat):Int)::Z1 (m / 128):=by rw[Z1];rw[if_pos (by omega)]
    rw[hv] at hlen hpre
    obtain⟨v',hh',ha,hacc'⟩:=hacc.push1 [.int .u8 ((m%128+128:Nat):Int)] rfl (by rw[V3];unfold lim;simp at hlen;omega)
    simp only[t0,t3,wL,CV,hb,hd,ha,go_sem]
    refine⟨m / 128,by omega,pre++[((m%128+128:Nat):Int)],v',rfl,rfl,by simpa[bys] using hacc',by simp at hlen ⊢;omega,by omega,by simpa using hpre⟩
  · have hb:IntKind.u8.wrap (m:Int)=m:=wu8 (by omega) (by omega)
    have hv:Z1 m=[(m:Int)]:=by rw[Z1];rw[if_neg (by omega)]
    rw[hv] at hlen hpre
    obtain⟨v',hh',ha,hacc'⟩:=hacc.push1 [.int .u8 (m:Int)] rfl (by rw[V3];unfold lim;simp at hlen;omega)
    have hstr:XB hh' v'=some (.string (KR k)):=by
      have:Acc h 1 VS v' (bys (Z1 k)) hh':=by rw[←hpre];simpa[bys] using hacc'
      exact this.rows.str
    simp only[t0,t3,hb,ha,hstr,go_sem];exact zF rfl hacc'.up
end
def rvT:Option (Nat × Nat)→Value
  | some p=>.tuple ⟨[.int .i64 p.1,.int .i64 p.2,.bool true]⟩
  | none=>.tuple ⟨[.int .i64 0,.int .i64 0,.bool false]⟩
def Ja (s:ByteArray)(a:Int):Option (Nat × Nat):=if 0≤a∧a≤s.size then xf s a.toNat else none
theorem Jb {s:ByteArray}{a:Int}{m k:Nat}(h:Ja s a=some (m,k)):m≤1000000000∧a<k∧k≤s.size:=by
  unfold Ja xf at h;split at h
  · have:=Bc h;omega
  · cases h
theorem Jd {s:ByteArray}{a f i n u:Nat}(h1:i<s.size)(h2:byt s i<128)(h3:¬((byt s i=0∧a<i)∨1000000000<n+byt s i%128*u)):yo s a (f+1) i n u=some (n+byt s i%128*u,i+1):=by
  unfold yo;rw[if_pos h1,if_pos h2,if_neg h3]
theorem Jc {s:ByteArray}{a f i n u:Nat}(h1:i<s.size)(h2:byt s i<128)(h3:(byt s i=0∧a<i)∨1000000000<n+byt s i%128*u):yo s a (f+1) i n u=none:=by
  unfold yo;rw[if_pos h1,if_pos h2,if_pos h3]
theorem J9 {s:ByteArray}{a f i n u:Nat}(h1:i<s.size)(h2:¬byt s i<128):yo s a (f+1) i n u=yo s a f (i+1) (n+byt s i%128*u) (u*128):=by
  rw[yo,if_pos h1,if_neg h2]
theorem Bf {s:ByteArray}{a f i n u:Nat}(h1:¬i<s.size):yo s a f i n u=none:=by
  cases f with
  | zero=>rfl
  | succ f=>unfold yo;rw[if_neg h1]
section
variable {X:Zb}{h:za}{s:ByteArray}{a:Int}
theorem zbr {n u b j:Nat}(hu:u=128 ^ j)(hj:j<5)(hn:n<u)(hb:b<256):u≤268435456∧b%128*u≤127*u∧n+b%128*u<u*128∧u*128=128 ^ (j+1):=by
  have h1:u≤128 ^ 4:=by rw[hu];exact Nat.pow_le_pow_right (by omega) (by omega)
  have h2:b%128*u≤127*u:=Nat.mul_le_mul_right u (by omega)
  refine⟨by omega,h2,by omega,by rw[hu,Nat.pow_succ]⟩
theorem GD (hs:s.size≤lim)(ha:I64 a):C T X vC [.string s,.int .i64 a] h=some (rvT (Ja s a),h):=by
  unfold lim at hs;refine qH xx rfl ?_;unfold WX Ja
  by_cases hc:0≤a∧a≤s.size
  rotate_left
  · have hc':(decide (0≤a) && decide (a≤(s.size:Int)))=false:=by simp only[Bool.and_eq_false_iff,decide_eq_false_iff_not];omega
    rw[if_neg hc];simp only[Za,hc',go_sem];rfl
  have hc':(decide (0≤a) && decide (a≤(s.size:Int)))=true:=by simp only[Bool.and_eq_true,decide_eq_true_eq];exact hc
  rw[if_pos hc];obtain⟨k,rfl⟩:=Int.eq_ofNat_of_zero_le hc.1;rw[Int.toNat_natCast]
  have hw5:IntKind.i64.wrap ((k:Int)+5)=k+5:=w64 (by omega) (by omega)
  simp only[Za,hc',go_sem]
  refine zT 5 (fun j t loc h'=>h'=h∧t 0=.string s∧t 1=.int .i64 k∧t 9=.int .i64 (k+j:Nat)∧∃n u:Nat,t 7=.int .i64 n∧t 8=.int .i64 u∧u=128 ^ j∧n<u∧xf s k=yo s k (5-j) (k+j) n u) ⟨rfl,rfl,rfl,rfl,0,1,rfl,rfl,rfl,by omega,rfl⟩ ?_
  rintro j t loc h' hj ⟨rfl,t0,t1,t9,n,u,t7,t8,hu,hn,hr⟩
  by_cases h1:k+j<s.size
  rotate_left
  · have h1':¬((k+j:Nat):Int)<(s.size:Int):=by omega
    rw[Bf h1] at hr;simp only[t0,t1,t7,t8,t9,h1',hw5,hr,go_sem];rfl
  have h1':((k+j:Nat):Int)<(s.size:Int):=by omega
  by_cases h2:j<5
  rotate_left
  · have h2':¬((k+j:Nat):Int)<(k:Int)+5:=by omega
    have:j=5:=by omega
    subst this;have hr':xf s k=none:=hr;simp only[t0,t1,t7,t8,t9,h1',h2',hw5,hr',go_sem];rfl
  have h2':((k+j:Nat):Int)<(k:Int)+5:=by omega
  obtain⟨b,hb⟩:∃b,b=byt s (k+j):=⟨_,rfl⟩
  have hb256:b<256:=by rw[hb];exact BH
  obtain⟨f1,f2,f3,f4⟩:=zbr hu h2 hn hb256;have hix:=zaD h1;rw[←hb] at hix
  have hwb:IntKind.i64.wrap (b:Int)=b:=w64 (by omega) (by omega)
  have hm1:IntKind.i64.wrap (((b%128:Nat):Int)*(u:Int))=((b%128*u:Nat):Int):=by rw[←Int.natCast_mul];exact w64 (by omega) (by omega)
  have hm2:IntKind.i64.wrap ((n:Int)+((b%128*u:Nat):Int))=((n+b%128*u:Nat):Int):=w64 (by omega) (by omega)
  have hm3:IntKind.i64.wrap ((u:Int)*128)=((u*128:Nat):Int):=w64 (by omega) (by omega)
  have hnx:IntKind.i64.wrap (((k+j:Nat):Int)+1)=((k+(j+1):Nat):Int):=w64 (by omega) (by omega)
  have e5:5-j=(5-(j+1))+1:=by omega
  rw[e5] at hr
  by_cases h3:b<128
  rotate_left
  · have h3':¬(b:Int)<128:=by omega
    rw[J9 h1 (by rw[←hb];exact h3),←hb] at hr
    simp only[t0,t1,t7,t8,t9,h1',h2',hw5,hix,hwb,wL,hm1,hm2,hm3,h3',hnx,go_sem];exact⟨h2,_,_,rfl,rfl,f4,f3,hr⟩
  have h3':(b:Int)<128:=by omega
  by_cases h4:1000000000<n+b%128*u
  · have h4':(1000000000:Int)<((n+b%128*u:Nat):Int):=by omega
    rw[Jc h1 (by rw[←hb];exact h3) (by rw[←hb];exact .inr h4)] at hr
    by_cases h5:b=0
    · by_cases h6:0<j
      · have h6':(k:Int)<((k+j:Nat):Int):=by omega
        simp only[t0,t1,t7,t8,t9,h1',h2',hw5,hix,hwb,wL,hm1,hm2,hm3,h3',decide_eq_true (show ((b:Nat):Int)=0 by omega),h6',hr,go_sem]
        rfl
      · have h6':¬(k:Int)<((k+j:Nat):Int):=by omega
        simp only[t0,t1,t7,t8,t9,h1',h2',hw5,hix,hwb,wL,hm1,hm2,hm3,h3',decide_eq_true (show ((b:Nat):Int)=0 by omega),h6',h4',hr,go_sem]
        rfl
    · have h5':¬((b:Nat):Int)=0:=by omega
      simp only[t0,t1,t7,t8,t9,h1',h2',hw5,hix,hwb,wL,hm1,hm2,hm3,h3',h5',h4',hr,go_sem];rfl
  have h4':¬(1000000000:Int)<((n+b%128*u:Nat):Int):=by omega
  by_cases h5:b=0
  · by_cases h6:0<j
    · have h6':(k:Int)<((k+j:Nat):Int):=by omega
      rw[Jc h1 (by rw[←hb];exact h3) (by rw[←hb];exact .inl ⟨h5,by omega⟩)] at hr
      simp only[t0,t1,t7,t8,t9,h1',h2',hw5,hix,hwb,wL,hm1,hm2,hm3,h3',decide_eq_true (show ((b:Nat):Int)=0 by omega),h6',hr,go_sem]
      rfl
    · have h6':¬(k:Int)<((k+j:Nat):Int):=by omega
      rw[Jd h1 (by rw[←hb];exact h3) (by rw[←hb];omega),←hb] at hr
      simp only[t0,t1,t7,t8,t9,h1',h2',hw5,hix,hwb,wL,hm1,hm2,hm3,h3',decide_eq_true (show ((b:Nat):Int)=0 by omega),h6',h4',hnx,hr,go_sem]
      rfl
  · have h5':¬((b:Nat):Int)=0:=by omega
    rw[Jd h1 (by rw[←hb];exact h3) (by rw[←hb];omega),←hb] at hr
    simp only[t0,t1,t7,t8,t9,h1',h2',hw5,hix,hwb,wL,hm1,hm2,hm3,h3',h5',h4',hnx,hr,go_sem];rfl
theorem GP (hs:s.size≤lim)(ha:I64 a):C T X vI [.string s,.int .i64 a] h=some (rvT (Ja s a),h):=by
  unfold lim at hs;refine qH xF rfl ?_;unfold W5 Ja
  by_cases hc:0≤a∧a≤s.size
  rotate_left
  · have hc':(decide (0≤a) && decide (a≤(s.size:Int)))=false:=by simp only[Bool.and_eq_false_iff,decide_eq_false_iff_not];omega
    rw[if_neg hc];simp only[Zw,hc',go_sem];rfl
  have hc':(decide (0≤a) && decide (a≤(s.size:Int)))=true:=by simp only[Bool.and_eq_true,decide_eq_true_eq];exact hc
  rw[if_pos hc];obtain⟨k,rfl⟩:=Int.eq_ofNat_of_zero_le hc.1;rw[Int.toNat_natCast]
  have hw5:IntKind.i64.wrap ((k:Int)+5)=k+5:=w64 (by omega) (by omega)
  simp only[Zw,hc',go_sem]
  refine zT 5 (fun j t loc h'=>h'=h∧t 0=.string s∧t 1=.int .i64 k∧t 9=.int .i64 (k+j:Nat)∧(∀x∈WT s k (k+j),128≤x∧x<256)∧k+j≤s.size∧∃n u:Nat,t 7=.int .i64 n∧t 8=.int .i64 u∧u=128 ^ j∧n<u∧n=U2 (WT s k (k+j))∧(WT s k (k+j)).length=j∧xf s k=yo s k (5-j) (k+j) n u)
    ⟨rfl,rfl,rfl,rfl,(by rw[Nat.add_zero,yT];intro x hx;cases hx),by omega,0,1,rfl,rfl,rfl,by omega,by rw[Nat.add_zero,yT];rfl,by rw[Nat.add_zero,yT];rfl,rfl⟩ ?_
  rintro j t loc h' hj ⟨rfl,t0,t1,t9,hall,hle,n,u,t7,t8,hu,hn,hval,hsl,hr⟩
  by_cases h1:k+j<s.size
  rotate_left
  · have h1':¬((k+j:Nat):Int)<(s.size:Int):=by omega
    rw[Bf h1] at hr;simp only[t0,t1,t7,t8,t9,h1',hw5,hr,go_sem];rfl
  have h1':((k+j:Nat):Int)<(s.size:Int):=by omega
  by_cases h2:j<5
  rotate_left
  · have h2':¬((k+j:Nat):Int)<(k:Int)+5:=by omega
    have:j=5:=by omega
    subst this;have hr':xf s k=none:=hr;simp only[t0,t1,t7,t8,t9,h1',h2',hw5,hr',go_sem];rfl
  have h2':((k+j:Nat):Int)<(k:Int)+5:=by omega
  obtain⟨b,hb⟩:∃b,b=byt s (k+j):=⟨_,rfl⟩
  have hb256:b<256:=by rw[hb];exact BH
  obtain⟨f1,f2,f3,f4⟩:=zbr hu h2 hn hb256;have hix:=zaD h1;rw[←hb] at hix
  have hsg:=fe (s:=s) (a:=k) (b:=k+j) (by omega) h1
  rw[←hb] at hsg
  have hvs:U2 (WT s k (k+j+1))=n+b%128*u:=by
    rw[hsg,Yv,hsl,←hval,←hu,Int.toNat_natCast]
  have hwb:IntKind.i64.wrap (b:Int)=b:=w64 (by omega) (by omega)
  have hm1:IntKind.i64.wrap (((b%128:Nat):Int)*(u:Int))=((b%128*u:Nat):Int):=by rw[←Int.natCast_mul];exact w64 (by omega) (by omega)
  have hm2:IntKind.i64.wrap ((n:Int)+((b%128*u:Nat):Int))=((n+b%128*u:Nat):Int):=w64 (by omega) (by omega)
  have hm3:IntKind.i64.wrap ((u:Int)*128)=((u*128:Nat):Int):=w64 (by omega) (by omega)
  have hnx:IntKind.i64.wrap (((k+j:Nat):Int)+1)=((k+(j+1):Nat):Int):=w64 (by omega) (by omega)
  have e5:5-j=(5-(j+1))+1:=by omega
  rw[e5] at hr
  by_cases h3:b<128
  rotate_left
  · have h3':¬(b:Int)<128:=by omega
    rw[J9 h1 (by rw[←hb];exact h3),←hb] at hr
    simp only[t0,t1,t7,t8,t9,h1',h2',hw5,hix,hwb,wL,hm1,hm2,hm3,h3',hnx,go_sem]
    refine⟨h2,?_,by omega,_,_,rfl,rfl,f4,f3,hvs.symm,?_,hr⟩
    · intro x hx
      rw[←Nat.add_assoc,hsg] at hx;rcases List.mem_append.1 hx with hx | hx
      · exact hall x hx
      · rw[List.mem_singleton.1 hx];omega
    · rw[←Nat.add_assoc,hsg,List.length_append,hsl];rfl
  have h3':(b:Int)<128:=by omega
  by_cases h4:1000000000<n+b%128*u
  · have h4':(1000000000:Int)<((n+b%128*u:Nat):Int):=by omega
    rw[Jc h1 (by rw[←hb];exact h3) (by rw[←hb];exact .inr h4)] at hr
    simp only[t0,t1,t7,t8,t9,h1',h2',hw5,hix,hwb,wL,hm1,hm2,hm3,h3',h4',hr,go_sem];rfl
  have h4':¬(1000000000:Int)<((n+b%128*u:Nat):Int):=by omega
  have cv:=YK (X:=X) (h:=h') (n:=n+b%128*u) (by omega)
  have hslS:Xz (.string s) (some (.int .i64 (k:Int))) (some (.int .i64 ((k+(j+1):Nat):Int)))=some (.string (s.extract k (k+(j+1)))):=by
    simp only[Xz,bnd]
    rw[if_pos ⟨by omega,by omega,by omega⟩,Int.toNat_natCast,Int.toNat_natCast]
  have hform:=kF (l:=WT s k (k+j)) (b:=(b:Int)) hall ⟨by omega,by omega⟩
  rw[←hsg,hvs] at hform
  have heq:(KR (n+b%128*u)=s.extract k (k+(j+1)))↔¬(b=0∧0<j):=by
    rw[kH,←Nat.add_assoc];unfold KR;constructor
    · intro h
      have:=hform.1 (XA (Bw _ _ (Nat.lt_succ_self _)) zbt h);rintro⟨h5,h6⟩;rcases this with q | q
      · rw[q] at hsl;simp at hsl;omega
      · omega
    · intro h
      rw[hform.2]
      by_cases h5:j=0
      · refine .inl (List.length_eq_zero_iff.1 ?_)
        omega
      · exact .inr (by omega)
  by_cases h5:b=0∧0<j
  · have hne:(decide (KR (n+b%128*u)=s.extract k (k+(j+1))))=false:=decide_eq_false fun h=>heq.1 h h5
    rw[Jc h1 (by rw[←hb];exact h3) (by rw[←hb];exact .inl ⟨h5.1,by omega⟩)] at hr
    simp only[t0,t1,t7,t8,t9,h1',h2',hw5,hix,hwb,wL,hm1,hm2,hm3,h3',h4',hnx,cv,hslS,yU,hne,hr,List.prefix_refl,go_sem];rfl
  · have hne:(decide (KR (n+b%128*u)=s.extract k (k+(j+1))))=true:=decide_eq_true (heq.2 h5)
    rw[Jd h1 (by rw[←hb];exact h3) (by rw[←hb];omega),←hb] at hr
    simp only[t0,t1,t7,t8,t9,h1',h2',hw5,hix,hwb,wL,hm1,hm2,hm3,h3',h4',hnx,cv,hslS,yU,hne,hr,List.prefix_refl,go_sem];rfl
end
def pk (b k:Nat):Value:=.pointer (some ⟨b,k,some 3⟩)
def rdB (ty:TypeId)(s:ByteArray)(p:Nat × Bool):Blk:=⟨[.string s,.int .i64 (p.1:Nat),.bool p.2],3,ty,true⟩
def ze (s:ByteArray)(p:Nat × Bool):Int × (Nat × Bool):=match p.2 with
  | true=>(0,(p.1,true))
  | false=>match Ja s p.1 with
    | some (n,k)=>(n,(k,false))
    | none=>(0,(p.1,true))
section
variable {X:Zb}{h:za}{b:Nat}{ty:TypeId}{s:ByteArray}{p:Nat × Bool}
theorem wN (hb:h[b]?=some (rdB ty s p)){k:Nat}:faV h (pk b 0) k=some (pk b k):=by simp[faV,pk,hb,rdB]
theorem Zq (hb:h[b]?=some (rdB ty s p)):jw h (pk b 0)=some (pk b 0):=by simp[jw,ldC,pk,hb,rdB]
theorem ux (hb:h[b]?=some (rdB ty s p)):ldC h (pk b 0) 1=some [.string s]:=by simp[ldC,pk,hb,rdB]
theorem uy (hb:h[b]?=some (rdB ty s p)):ldC h (pk b 1) 1=some [.int .i64 (p.1:Nat)]:=by simp[ldC,pk,hb,rdB]
theorem Zr (hb:h[b]?=some (rdB ty s p)):ldC h (pk b 2) 1=some [.bool p.2]:=by simp[ldC,pk,hb,rdB]
theorem zbf (hb:h[b]?=some (rdB ty s p)){n:Nat}:stC h (pk b 1) [.int .i64 (n:Int)]=some (h.set b (rdB ty s (n,p.2))):=by simp[stC,pk,hb,rdB,putAt]
theorem J6 (hb:h[b]?=some (rdB ty s p)){c:Bool}:stC h (pk b 2) [.bool c]=some (h.set b (rdB ty s (p.1,c))):=by simp[stC,pk,hb,rdB,putAt]
theorem zbe {q:Nat × Bool}(hb:h[b]?=some (rdB ty s p)):(h.set b (rdB ty s q))[b]?=some (rdB ty s q):=List.getElem?_set_self (zG hb)
theorem Zz {x:Blk}:(h.set b x).length=h.length:=List.length_set ..
theorem GH (hb:h[b]?=some (rdB ty s p))(hs:s.size≤lim)(hp:p.1≤s.size):C T X zu [pk b 0] h=some (.int .i64 (ze s p).1,h.set b (rdB ty s (ze s p).2)):=by
  have hs':=hs;unfold lim at hs'
  have cv:=GD (X:=X) (h:=h) hs (a:=(p.1:Int)) ⟨by omega,by omega⟩
  refine qH Ji rfl ?_;unfold Q1;obtain⟨a,bad⟩:=p
  cases hr:Ja s (a:Int) with
  | none =>
    rw[hr] at cv;unfold rvT at cv
    cases bad with
    | true =>
      have hn:ze s (a,true)=(0,(a,true)):=rfl;rw[hn];simp only[wN hb,Zq hb,ux hb,uy hb,Zr hb,J6 hb,cv,List.prefix_refl,go_sem];exact Zt Zz
    | false =>
      have hn:ze s (a,false)=(0,(a,true)):=by simp only[ze,hr]
      rw[hn];simp only[wN hb,Zq hb,ux hb,uy hb,Zr hb,J6 hb,cv,List.prefix_refl,go_sem];exact Zt Zz
  | some q =>
    obtain⟨n,k⟩:=q;rw[hr] at cv;unfold rvT at cv
    cases bad with
    | true =>
      have hn:ze s (a,true)=(0,(a,true)):=rfl;rw[hn];simp only[wN hb,Zq hb,ux hb,uy hb,Zr hb,J6 hb,cv,List.prefix_refl,go_sem];exact Zt Zz
    | false =>
      have hn:ze s (a,false)=((n:Int),(k,false)):=by simp only[ze,hr]
      rw[hn];simp only[wN hb,Zq hb,ux hb,uy hb,Zr hb,zbf hb,cv,List.prefix_refl,go_sem];exact Zt Zz
theorem YL (hb:h[b]?=some (rdB ty s p))(hs:s.size≤lim)(hp:p.1≤s.size):C T X zV [pk b 0] h=some (.int .i64 (ze s p).1,h.set b (rdB ty s (ze s p).2)):=by
  have hs':=hs;unfold lim at hs'
  have cv:=GP (X:=X) (h:=h) hs (a:=(p.1:Int)) ⟨by omega,by omega⟩
  refine qH XN rfl ?_;unfold Vu;obtain⟨a,bad⟩:=p
  cases hr:Ja s (a:Int) with
  | none =>
    rw[hr] at cv;unfold rvT at cv
    cases bad with
    | true =>
      have hn:ze s (a,true)=(0,(a,true)):=rfl;rw[hn];simp only[wN hb,Zq hb,ux hb,uy hb,Zr hb,J6 hb,cv,List.prefix_refl,go_sem];exact Zt Zz
    | false =>
      have hn:ze s (a,false)=(0,(a,true)):=by simp only[ze,hr]
      rw[hn];simp only[wN hb,Zq hb,ux hb,uy hb,Zr hb,J6 hb,cv,List.prefix_refl,go_sem];exact Zt Zz
  | some q =>
    obtain⟨n,k⟩:=q;rw[hr] at cv;unfold rvT at cv
    cases bad with
    | true =>
      have hn:ze s (a,true)=(0,(a,true)):=rfl;rw[hn];simp only[wN hb,Zq hb,ux hb,uy hb,Zr hb,J6 hb,cv,List.prefix_refl,go_sem];exact Zt Zz
    | false =>
      have hn:ze s (a,false)=((n:Int),(k,false)):=by simp only[ze,hr]
      rw[hn];simp only[wN hb,Zq hb,ux hb,uy hb,Zr hb,zbf hb,cv,List.prefix_refl,go_sem];exact Zt Zz
theorem bo (hb:h[b]?=some (rdB ty s p)):C T X ZP [pk b 0] h=some (.bool (!p.2 && decide (p.1=s.size)),h):=by
  refine qH Y9 rfl ?_;unfold QH;obtain⟨a,bad⟩:=p
  cases bad with
  | true=>simp only[wN hb,Zq hb,ux hb,uy hb,Zr hb,List.prefix_refl,go_sem]
  | false =>
    by_cases e:a=s.size
    · simp only[wN hb,Zq hb,ux hb,uy hb,Zr hb,decide_eq_true (show ((a:Nat):Int)=(s.size:Int) by omega),decide_eq_true e,List.prefix_refl,go_sem]
    · have e':¬((a:Nat):Int)=(s.size:Int):=by omega
      simp only[wN hb,Zq hb,ux hb,uy hb,Zr hb,e',e,List.prefix_refl,go_sem]
def sS (s:ByteArray)(p:Nat × Bool):Nat→Nat × Bool
  | 0=>p
  | i+1=>(ze s (sS s p i)).2
def sV (s:ByteArray)(p:Nat × Bool)(i:Nat):Int:=(ze s (sS s p i)).1
theorem GX {q:Nat × Bool}(h:q.1≤s.size):(ze s q).2.1≤s.size:=by
  unfold ze;split
  · exact h
  · split
    · rename_i n k hr;exact (Jb hr).2.2
    · exact h
theorem Bg {a:Nat}:∀ {f i n u m k:Nat},yo s a f i n u=some (m,k)→a≤i→(∀x∈WT s a i,128≤x∧x<256)→n=U2 (WT s a i)→u=128 ^ (WT s a i).length→(WT s a i).length=i-a→WT s a k=Z1 m
  | 0,_,_,_,_,_,h,_,_,_,_,_=>by cases h
  | f+1,i,n,u,m,k,h,ha,hall,hn,hu,hl=>by
    unfold yo at h;split at h
    · rename_i h1
      have hsg:=fe (s:=s) ha h1
      have hvs:U2 (WT s a (i+1))=n+byt s i%128*u:=by rw[hsg,Yv,←hn,←hu,Int.toNat_natCast]
      split at h
      · rename_i h2
        split at h
        · cases h
        · rename_i h3
          simp only[Option.some.injEq,Prod.mk.injEq] at h;obtain⟨rfl,rfl⟩:=h
          have hform:=kF (l:=WT s a i) (b:=(byt s i:Int)) hall ⟨by omega,by omega⟩
          rw[←hsg,hvs] at hform;rw[hform.2 ?_]
          by_cases h5:a<i
          · exact .inr (by omega)
          · exact .inl (List.length_eq_zero_iff.1 (by omega))
      · rename_i h2
        have hbt:=BH (s:=s) (i:=i)
        refine Bg h (by omega) ?_ hvs.symm ?_ ?_
        · intro x hx
          rw[hsg] at hx;rcases List.mem_append.1 hx with hx | hx
          · exact hall x hx
          · rw[List.mem_singleton.1 hx];omega
        · rw[hsg,List.length_append,hu];simp[Nat.pow_succ]
        · rw[hsg,List.length_append,hl];simp;omega
    · cases h
theorem xk {a k:Nat}(h:k≤s.size):(WT s a k).length=k-a:=by
  unfold WT;rw[List.length_map,List.length_take,List.length_drop,fg];omega
theorem zbq {a n k:Nat}(h:Ja s (a:Int)=some (n,k)):WT s a k=Z1 n∧(Z1 n).length=k-a:=by
  have hb:=Jb h
  have h1:WT s a k=Z1 n:=by
    unfold Ja at h;split at h
    · rw[Int.toNat_natCast] at h
      refine Bg h (Nat.le_refl _) ?_ ?_ ?_ ?_<;>rw[yT]
      · intro x hx;cases hx
      · rfl
      · rfl
      · simp
    · cases h
  exact⟨h1,by rw[←h1];exact xk hb.2.2⟩
end
theorem zay {l:List Int}{i:Nat}{n:Int}:(zq l).set i [.int .i64 n]=zq (l.set i n):=by simp[zq,List.map_set]
theorem Own.sti {h : za} {lo hi : Nat} {ty : TypeId} {v : Value} {l : List Int} (o : Own h lo hi 1 ty v (zq l)) {i : Nat} (hi' : i < l.length) (n : Int) :
    ∃h',stC h (zz v 1 i 0) [.int .i64 n]=some h'∧Qq lo hi h h'∧Own h' lo hi 1 ty v (zq (l.set i n)):=by
  obtain⟨h',h1,h2,h3⟩:=o.st (i:=i) (by rw[z9];exact hi') (k:=0) (vs:=[.int .i64 n]) (Nat.le_refl _)
  refine⟨h',h1,h2,?_⟩
  have hil:i<(zq l).length:=by rw[z9];exact hi'
  have:putAt ((zq l)[i]'hil) 0 [.int .i64 n]=[.int .i64 n]:=by rw[bh];rfl
  rw[this,zay] at h3;exact h3
section
variable {X:Zb}{h:za}{ev ov:Value}{es:List E}{out:List Int}{size:Int}
end
section
variable {h h':za}{lo hi lo2 hi2:Nat}{ty:TypeId}{v w:Value}{gs:List Gp}{l:List Int}{z:Int}
theorem qK.norm (o:qK h lo hi ty v gs):∃vs:List Value,vs.length=gs.length∧zdA h lo hi ty v gs vs:=by
  obtain⟨vs,h1,h2,h3,h4⟩:=o
  have e:∀i,i<gs.length→((List.range gs.length).map fun j=>vs.getD j zh).getD i zh=vs.getD i zh:=fun i hi=>by simp[hi]
  refine⟨(List.range gs.length).map fun j=>vs.getD j zh,by simp,?_,fun i hi=>by rw[e i hi];exact h2 i hi,fun i hi=>by rw[e i hi];exact h3 i hi,fun i j hij hj=>by rw[e i (by omega),e j hj];exact h4 i j hij hj⟩
  have:qT ((List.range gs.length).map fun j=>vs.getD j zh) gs=qT vs gs:=by
    unfold qT;apply List.map_congr_left
    intro i hi
    have hi':i<gs.length:=by simpa using hi
    unfold Km;rw[e i hi']
  rw[this];exact h1
theorem Gn {vs:List Value}(hv:vs.length=gs.length):qT (vs++[w]) (gs++[⟨l,z⟩])=qT vs gs++[[w,.int .i64 z]]:=by
  unfold qT;rw[List.length_append,List.length_singleton,List.range_succ,List.map_append]
  congr 1
  · apply List.map_congr_left
    intro i hi
    have hi':i<gs.length:=by simpa using hi
    unfold Km
    have e1:(vs++[w]).getD i zh=vs.getD i zh:=by simp[List.getElem?_append_left (show i<vs.length by omega)]
    have e2:(gs++[(⟨l,z⟩:Gp)]).getD i g0=gs.getD i g0:=by simp[List.getElem?_append_left hi']
    rw[e1,e2]
  · unfold Km
    have e1:(vs++[w]).getD gs.length zh=w:=by rw[←hv];simp
    have e2:(gs++[(⟨l,z⟩:Gp)]).getD gs.length g0=⟨l,z⟩:=by simp
    simp only[List.map_cons,List.map_nil];rw[e1,e2]
theorem qK.push (o : qK h lo hi ty v gs) (hlo : lo ≤ h.length) (hhi : hi ≤ h.length) (q : Own h lo2 hi2 1 zf w (zq l)) (hll : lo ≤ lo2) (hd : hi ≤ lo2) (hd2 : hi2 ≤ h.length) (hl : gs.length < lim) :
    ∃v' h',qS h 2 ty 1 v (some [w,.int .i64 z])=some (v',h')∧h.length≤h'.length∧(∀b,b<lo→h'[b]?=h[b]?)∧qK h' lo h'.length ty v' (gs++[⟨l,z⟩]):=by
  obtain⟨vs,hvl,h2,h3,h4,h5⟩:=o.norm;have hwsepv:Sep v w:=h2.sep q (.inl hd)
  have hws:∀i,i<gs.length→Sep (vs.getD i zh) w:=fun i hi=>(h3 i hi).sep q (.inl hd)
  obtain⟨v',h',e,g,b,c,o'⟩:=UU h2 hlo [[w,.int .i64 z]] (fun r hr=>by rw[List.mem_singleton.1 hr];rfl) (by simp) (by simp;omega)
  simp only[List.flatten_cons,List.flatten_nil,List.append_nil,List.length_cons,List.length_nil,Nat.zero_add] at e
  have same:∀ {x:Value} {rr:List (List Value)} {p r:Nat},Own h p r 1 zf x rr→r≤h.length→Sep v x→Own h' p r 1 zf x rr:=by
    intro x rr p r ox hr hs;refine⟨ox.len,?_⟩;rcases ox.is with hn | ⟨c,l1,l2,rfl,hc⟩
    · exact .inl hn
    · exact .inr ⟨c,l1,l2,rfl,by rw[b c (by omega) (by simp only[Sep,tlo,thi] at hs ⊢;omega)];exact hc⟩
  have hv'sep:∀ {x:Value},Sep v x→(x=zh∨thi x≤h.length)→Sep v' x:=by
    intro x hs hx;rcases c with⟨rfl,c1,c2,c3⟩ | ⟨_,_,c2,c3⟩
    · rcases hx with rfl | hx
      · exact ge
      · exact .inr (by omega)
    · unfold Sep at hs ⊢;omega
  have hwin:w=zh∨thi w≤h.length:=by
    rcases q.within with h | ⟨_,h,_⟩
    · exact .inl h
    · exact .inr (by omega)
  have hlv:lo≤tlo v':=by
    rcases c with⟨_,c1,_⟩ | ⟨hv,_,c2,_⟩
    · omega
    · rcases h2.within with k | k
      · exact absurd k hv
      · omega
  have hnz:thi v'≤h'.length∧tlo v'<thi v':=by
    rcases c with⟨_,c1,c2,c3⟩ | ⟨hv,c1,c2,c3⟩
    · omega
    · rcases h2.within with k | k
      · exact absurd k hv
      · omega
  refine⟨v',h',e,g,fun x hx=>b x (by omega) ?_,vs++[w],?_,fun i hi'=>?_,fun i hi'=>?_,fun i j hij hj=>?_⟩
  · rcases h2.within with rfl | ⟨k1,k2,_⟩
    · exact .inr (Nat.zero_le _)
    · exact .inl (by omega)
  · rw[Gn hvl]
    exact o'.wide (by omega) hnz.1
  · by_cases hil:i<gs.length
    · have e1:(vs++[w]).getD i zh=vs.getD i zh:=by simp[List.getElem?_append_left (show i<vs.length by omega)]
      have e2:(gs++[(⟨l,z⟩:Gp)]).getD i g0=gs.getD i g0:=by simp[List.getElem?_append_left hil]
      rw[e1,e2]
      exact (same (h3 i hil) hhi (h4 i hil)).wide (Nat.le_refl _) (by omega)
    · have hil:i=gs.length:=by simp at hi';omega
      subst hil
      have e1:(vs++[w]).getD gs.length zh=w:=by rw[←hvl];simp
      have e2:(gs++[(⟨l,z⟩:Gp)]).getD gs.length g0=⟨l,z⟩:=by simp
      rw[e1,e2]
      exact (same q hd2 hwsepv).wide hll (by omega)
  · by_cases hil:i<gs.length
    · have e1:(vs++[w]).getD i zh=vs.getD i zh:=by simp[List.getElem?_append_left (show i<vs.length by omega)]
      rw[e1];refine hv'sep (h4 i hil) ?_;rcases (h3 i hil).within with h | ⟨_,h,_⟩
      · exact .inl h
      · exact .inr (by omega)
    · have hil:i=gs.length:=by simp at hi';omega
      subst hil
      have e1:(vs++[w]).getD gs.length zh=w:=by rw[←hvl];simp
      rw[e1];exact hv'sep hwsepv hwin
  · have hil:i<gs.length:=by simp at hj;omega
    have e1:(vs++[w]).getD i zh=vs.getD i zh:=by simp[List.getElem?_append_left (show i<vs.length by omega)]
    rw[e1]
    by_cases hjl:j<gs.length
    · have e2:(vs++[w]).getD j zh=vs.getD j zh:=by simp[List.getElem?_append_left (show j<vs.length by omega)]
      rw[e2];exact h5 i j hij hjl
    · have hjl:j=gs.length:=by simp at hj;omega
      subst hjl
      have e2:(vs++[w]).getD gs.length zh=w:=by rw[←hvl];simp
      rw[e2];exact hws i hil
theorem qK.nil:qK h lo hi ty zh []:=⟨[],Own.nil,fun i hi=>(by simp at hi),fun i hi=>(by simp at hi),fun i j _ hi=>(by simp at hi)⟩
theorem qK.cells' (o:qK h lo hi ty v gs):cellsOf v=some [v]:=by obtain⟨vs,o,_⟩:=o;exact o.cells
end
end Go.Proofs.Ytafhipglhnfgnaa.Ab
