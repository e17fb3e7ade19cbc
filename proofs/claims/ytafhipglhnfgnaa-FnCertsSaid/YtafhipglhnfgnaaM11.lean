/- Joined. No conditions. -/
import Derived.Test.YtafhipglhnfgnaaFT
import Derived.Test.YtafhipglhnfgnaaM4
import Derived.Test.YtafhipglhnfgnaaR7
set_option linter.unusedSimpArgs false
set_option linter.unusedVariables false
set_option linter.unnecessarySimpa false
set_option maxHeartbeats 4000000
namespace Go.Proofs.Ytafhipglhnfgnaa.Ab
open Go.RowKit
section
variable {X:Zb}
theorem Za {h:za}{n lo hi:Int}:C T X qg [.int .i64 n,.int .i64 lo,.int .i64 hi] h=some (.bool (decide (lo≤n) && decide (n≤hi)),h):=by
  refine KS T X Dd rfl ?_;unfold y5 start;simp only[go_sem]
  repeat (first | (refine xX (by simp only[*,go_sem];rfl) ?_ ?_<;>intro hc<;>(try simp only[decide_eq_true_eq,decide_eq_false_iff_not,Decidable.not_not] at hc)<;>simp only[hc,go_sem]) | (refine xo (by simp only[*,go_sem];rfl) ?_ ?_<;>intro hc<;>(try simp only[decide_eq_true_eq,decide_eq_false_iff_not,Decidable.not_not] at hc)<;>simp only[hc,go_sem]) | (refine Jf (by simp only[*,go_sem];rfl) ?_ ?_<;>intro hc<;>(try simp only[decide_eq_true_eq,decide_eq_false_iff_not,Decidable.not_not] at hc)<;>simp only[hc,go_sem]) | (refine xl (by simp only[*,go_sem];rfl) ?_ ?_<;>intro hc<;>(try simp only[decide_eq_true_eq,decide_eq_false_iff_not,Decidable.not_not] at hc)<;>simp only[hc,go_sem]) | (refine Je (by simp only[*,go_sem];rfl) ?_ ?_<;>intro hc<;>(try simp only[decide_eq_true_eq,decide_eq_false_iff_not,Decidable.not_not] at hc)<;>simp only[hc,go_sem]))
  all_goals (refine fc rfl (.inl rfl) rfl ?_;simp only[*,go_sem,yC])
theorem Zw {h:za}{n lo hi:Int}:C T X qA [.int .i64 n,.int .i64 lo,.int .i64 hi] h=some (.bool (decide (lo≤n) && decide (n≤hi)),h):=by
  refine KS T X Fx rfl ?_;unfold VY start;simp only[go_sem]
  repeat (first | (refine xX (by simp only[*,go_sem];rfl) ?_ ?_<;>intro hc<;>(try simp only[decide_eq_true_eq,decide_eq_false_iff_not,Decidable.not_not] at hc)<;>simp only[hc,go_sem]) | (refine xo (by simp only[*,go_sem];rfl) ?_ ?_<;>intro hc<;>(try simp only[decide_eq_true_eq,decide_eq_false_iff_not,Decidable.not_not] at hc)<;>simp only[hc,go_sem]) | (refine Jf (by simp only[*,go_sem];rfl) ?_ ?_<;>intro hc<;>(try simp only[decide_eq_true_eq,decide_eq_false_iff_not,Decidable.not_not] at hc)<;>simp only[hc,go_sem]) | (refine xl (by simp only[*,go_sem];rfl) ?_ ?_<;>intro hc<;>(try simp only[decide_eq_true_eq,decide_eq_false_iff_not,Decidable.not_not] at hc)<;>simp only[hc,go_sem]) | (refine Je (by simp only[*,go_sem];rfl) ?_ ?_<;>intro hc<;>(try simp only[decide_eq_true_eq,decide_eq_false_iff_not,Decidable.not_not] at hc)<;>simp only[hc,go_sem]))
  all_goals (refine fc rfl (.inl rfl) rfl ?_;simp only[*,go_sem,yC])
end
def EOk (size:Int)(e:E):Prop:=0≤e.a∧e.a<e.b∧e.b<size∧0≤e.w1∧e.w1≤50∧0≤e.w2∧e.w2≤50∧0≤e.w3∧e.w3≤50
def ELt (p e:E):Prop:=p.a<e.a∨p.a=e.a∧p.b<e.b
def GOk (size:Int)(l:List E):Prop:=(0≤size∧size≤9)∧∀i,i<l.length→EOk size (l.getD i e0)∧(0<i→ELt (l.getD (i-1) e0) (l.getD i e0))
def zC (size:Int)(ev:Value):Value:=.agg ⟨[.int .i64 size,ev]⟩
section
variable {X:Zb}{h:za}{size:Int}{ev:Value}{l:List E}
theorem Zi {n:Int}:C T X qV [.int .i64 n] h=some (.bool (decide (0≤n) && decide (n≤50)),h):=by
  refine qH KE rfl ?_;unfold Wl;simp only[Zw,go_sem]
set_option maxHeartbeats 4000000 in
open Classical in
theorem ur (he:Rows h 5 ev (ZF l))(hl:l.length≤lim):C T X Qv [zC size ev] h=some (.bool (decide (GOk size l)),h):=by
  unfold lim at hl;refine qH xC rfl ?_;unfold W2 zC;simp only[Zw,go_sem]
  refine xX (by simp only[go_sem];rfl) ?_ ?_<;>intro hc<;>simp only[go_sem]
  · have:¬GOk size l:=fun g=>by
      have:=g.1;simp at hc;omega
    simp only[this,go_sem]
  have hs:0≤size∧size≤9:=by simpa using hc
  refine zT l.length (fun i t loc h'=>h'=h∧loc 1=some [.int .i64 size,ev]∧t 3=.int .i64 i∧∀j,j<i→EOk size (l.getD j e0)∧(0<j→ELt (l.getD (j-1) e0) (l.getD j e0)))
    ⟨rfl,rfl,rfl,fun j hj=>by omega⟩ ?_
  rintro i t loc h' hi ⟨rfl,l1,t3,hall⟩;simp only[l1,t3,he.lnm,go_sem]
  refine zt (by simp only[l1,t3,go_sem];rfl) ?_ ?_<;>intro hc
  · have hi1:i<l.length:=by omega
    have hneg:¬(EOk size (l.getD i e0)∧(0<i→ELt (l.getD (i-1) e0) (l.getD i e0)))→¬GOk size l:=fun hn g=>hn (g.2 i hi1)
    have hnext:(EOk size (l.getD i e0)∧(0<i→ELt (l.getD (i-1) e0) (l.getD i e0)))→∀j,j<i+1→EOk size (l.getD j e0)∧(0<j→ELt (l.getD (j-1) e0) (l.getD j e0)):=fun hy j hj=>by
      by_cases e:j=i
      · subst e;exact hy
      · exact hall j (by omega)
    have hw:IntKind.i64.wrap ((i:Int)+1)=((i+1:Nat):Int):=w64 (by omega) (by omega)
    by_cases hE:EOk size (l.getD i e0)
    · obtain⟨q1,q2,q3,q4,q5,q6,q7,q8,q9⟩:=hE
      have p1:¬(l.getD i e0).a<0:=by omega
      have p2:¬(l.getD i e0).b≤(l.getD i e0).a:=by omega
      have p3:¬size≤(l.getD i e0).b:=by omega
      have hE:EOk size (l.getD i e0):=⟨q1,q2,q3,q4,q5,q6,q7,q8,q9⟩;rcases Nat.eq_zero_or_pos i with hz | hp
      · have hz':¬(0:Int)<i:=by omega
        simp only[l1,t3,ZK he hi1,Zw,Zi,p1,p2,p3,q4,q5,q6,q7,q8,q9,hz',hw,go_sem]
        exact⟨hi1,hnext ⟨hE,fun hp=>by omega⟩⟩
      · have hp':(0:Int)<i:=by omega
        have hw1:IntKind.i64.wrap ((i:Int)-1)=((i-1:Nat):Int):=by rw[w64 (by omega) (by omega)];omega
        have hi2:i-1<l.length:=by omega
        simp only[l1,t3,ZK he hi1,Zw,Zi,p1,p2,p3,q4,q5,q6,q7,q8,q9,hp',hw,hw1,ZK he hi2,go_sem]
        repeat' (first | (refine xX (by simp only[l1,t3,hp',hw,hw1,ZK he hi2,go_sem];rfl) ?_ ?_<;>intro hc<;>(try simp only[decide_eq_true_eq,decide_eq_false_iff_not,Decidable.not_not,Bool.not_eq_true',Bool.not_eq_false'] at hc)<;>simp only[hc,l1,t3,hp',hw,hw1,ZK he hi2,go_sem]) | (refine xo (by simp only[l1,t3,hp',hw,hw1,ZK he hi2,go_sem];rfl) ?_ ?_<;>intro hc<;>(try simp only[decide_eq_true_eq,decide_eq_false_iff_not,Decidable.not_not,Bool.not_eq_true',Bool.not_eq_false'] at hc)<;>simp only[hc,l1,t3,hp',hw,hw1,ZK he hi2,go_sem]) | (refine Jf (by simp only[l1,t3,hp',hw,hw1,ZK he hi2,go_sem];rfl) ?_ ?_<;>intro hc<;>(try simp only[decide_eq_true_eq,decide_eq_false_iff_not,Decidable.not_not,Bool.not_eq_true',Bool.not_eq_false'] at hc)<;>simp only[hc,l1,t3,hp',hw,hw1,ZK he hi2,go_sem]) | (refine xl (by simp only[l1,t3,hp',hw,hw1,ZK he hi2,go_sem];rfl) ?_ ?_<;>intro hc<;>(try simp only[decide_eq_true_eq,decide_eq_false_iff_not,Decidable.not_not,Bool.not_eq_true',Bool.not_eq_false'] at hc)<;>simp only[hc,l1,t3,hp',hw,hw1,ZK he hi2,go_sem]) | (refine Je (by simp only[l1,t3,hp',hw,hw1,ZK he hi2,go_sem];rfl) ?_ ?_<;>intro hc<;>(try simp only[decide_eq_true_eq,decide_eq_false_iff_not,Decidable.not_not,Bool.not_eq_true',Bool.not_eq_false'] at hc)<;>simp only[hc,l1,t3,hp',hw,hw1,ZK he hi2,go_sem]))
        all_goals first
          | exact (decide_eq_false (hneg (fun hx=>by have:=hx.2 hp;simp only[ELt] at this;omega))).symm
          | exact⟨hi1,hnext ⟨hE,fun _=>by simp only[ELt];omega⟩⟩
    · have hneg':=hneg (fun hx=>hE hx.1)
      have hr:false=decide (GOk size l):=(decide_eq_false hneg').symm;simp only[l1,t3,ZK he hi1,Zw,Zi,go_sem]
      repeat' (first | (refine xX (by simp only[l1,t3,Zi,go_sem];rfl) ?_ ?_<;>intro hc<;>(try simp only[decide_eq_true_eq,decide_eq_false_iff_not,Decidable.not_not,Bool.not_eq_true',Bool.not_eq_false'] at hc)<;>simp only[hc,l1,t3,Zi,go_sem]) | (refine xo (by simp only[l1,t3,Zi,go_sem];rfl) ?_ ?_<;>intro hc<;>(try simp only[decide_eq_true_eq,decide_eq_false_iff_not,Decidable.not_not,Bool.not_eq_true',Bool.not_eq_false'] at hc)<;>simp only[hc,l1,t3,Zi,go_sem]) | (refine Jf (by simp only[l1,t3,Zi,go_sem];rfl) ?_ ?_<;>intro hc<;>(try simp only[decide_eq_true_eq,decide_eq_false_iff_not,Decidable.not_not,Bool.not_eq_true',Bool.not_eq_false'] at hc)<;>simp only[hc,l1,t3,Zi,go_sem]) | (refine xl (by simp only[l1,t3,Zi,go_sem];rfl) ?_ ?_<;>intro hc<;>(try simp only[decide_eq_true_eq,decide_eq_false_iff_not,Decidable.not_not,Bool.not_eq_true',Bool.not_eq_false'] at hc)<;>simp only[hc,l1,t3,Zi,go_sem]) | (refine Je (by simp only[l1,t3,Zi,go_sem];rfl) ?_ ?_<;>intro hc<;>(try simp only[decide_eq_true_eq,decide_eq_false_iff_not,Decidable.not_not,Bool.not_eq_true',Bool.not_eq_false'] at hc)<;>simp only[hc,l1,t3,Zi,go_sem]))
      all_goals first
        | exact hr
        | exact absurd (by simp only[Bool.and_eq_true,decide_eq_true_eq] at *;simp only[EOk];omega) hE
  · have:GOk size l:=⟨hs,fun j hj=>hall j (by omega)⟩
    simp only[this,go_sem]
end
abbrev yp (a b:Int)(e:E):Prop:=(e.a=a∧e.b=b)∨(e.a=b∧e.b=a)
def ZS (l:List E)(a b:Int):Int:=Qc (yp a b) l
section
variable {X:Zb}{h:za}{a v:Value}{l:List Int}{es:List E}{n x y size:Int}
theorem wY (ha:Rows h 1 a (zq l))(hl:l.length≤lim):C T X qF [a,.int .i64 n] h=some (.bool (decide (n∈l)),h):=by
  unfold lim at hl;refine qH XE rfl ?_;unfold Vl;simp only[zI ha,go_sem]
  refine zT l.length (fun i t loc h'=>h'=h∧t 1=.int .i64 n∧t 7=a∧t 8=.int .i64 l.length∧t 9=.int .i64 i∧∀j,j<i→¬l.getD j 0=n) ⟨rfl,rfl,rfl,rfl,rfl,fun j hj=>by omega⟩ ?_
  rintro i t loc h' hi ⟨rfl,t1,t7,t8,t9,hall⟩;simp only[t8,t9,go_sem]
  refine zt (by simp only[go_sem];rfl) ?_ ?_<;>intro hc
  · have hi1:i<l.length:=by omega
    have hw:IntKind.i64.wrap ((i:Int)+1)=((i+1:Nat):Int):=w64 (by omega) (by omega)
    have hel:=ZU ha hi1
    by_cases e:l.getD i 0=n
    · have hm:n∈l:=e▸zE hi1
      simp only[t1,t7,t8,t9,hel.1,hel.2,e,hm,go_sem]
    · simp only[t1,t7,t8,t9,hel.1,hel.2,e,hw,go_sem]
      exact⟨hi1,zM hall e⟩
  · have hm:¬n∈l:=jP (d:=0) fun j hj=>hall j (by omega)
    simp only[hm,go_sem]
theorem QK (ha:Rows h 1 a (zq l))(hl:l.length≤lim):C T X ZH [a,.int .i64 n] h=some (.bool (decide (n∈l)),h):=by
  unfold lim at hl;refine qH Fy rfl ?_;unfold VZ;simp only[go_sem]
  refine zT l.length (fun i t loc h'=>h'=h∧t 0=a∧t 1=.int .i64 n∧t 5=.int .i64 i∧∀j,j<i→¬l.getD j 0=n) ⟨rfl,rfl,rfl,rfl,fun j hj=>by omega⟩ ?_
  rintro i t loc h' hi ⟨rfl,t0,t1,t5,hall⟩;simp only[t0,t5,zI ha,go_sem]
  refine zt (by simp only[go_sem];rfl) ?_ ?_<;>intro hc
  · have hi1:i<l.length:=by omega
    have hw:IntKind.i64.wrap ((i:Int)+1)=((i+1:Nat):Int):=w64 (by omega) (by omega)
    have hel:=ZU ha hi1
    by_cases e:l.getD i 0=n
    · have hm:n∈l:=e▸zE hi1
      simp only[t0,t1,t5,hel.1,hel.2,e,hm,go_sem]
    · simp only[t0,t1,t5,hel.1,hel.2,e,hw,go_sem]
      exact⟨hi1,zM hall e⟩
  · have hm:¬n∈l:=jP (d:=0) fun j hj=>hall j (by omega)
    simp only[hm,go_sem]
theorem YI (he:Rows h 5 v (ZF es))(hl:es.length≤lim):C T X w7 [zC size v,.int .i64 x,.int .i64 y] h=some (.int .i64 (ZS es x y),h):=by
  unfold lim at hl;refine qH XD rfl ?_;unfold Vk zC ZS;simp only[he.lnm,go_sem]
  refine zT es.length (fun i t loc h'=>h'=h∧t 1=.int .i64 x∧t 2=.int .i64 y∧t 10=v∧t 11=.int .i64 es.length∧t 12=.int .i64 i∧∀j,j<i→¬yp x y (es.getD j e0)) ⟨rfl,rfl,rfl,rfl,rfl,rfl,fun j hj=>by omega⟩ ?_
  rintro i t loc h' hi ⟨rfl,t1,t2,t10,t11,t12,hall⟩;simp only[t11,t12,go_sem]
  refine zt (by simp only[go_sem];rfl) ?_ ?_<;>intro hc
  · have hi1:i<es.length:=by omega
    have hw:IntKind.i64.wrap ((i:Int)+1)=((i+1:Nat):Int):=w64 (by omega) (by omega)
    have hel:=ZK he hi1
    by_cases e1:(es.getD i e0).a=x∧(es.getD i e0).b=y
    · have hm:=Vd hi1 (.inl e1:yp x y (es.getD i e0)) hall
      simp only[t1,t2,t10,t11,t12,hel.1,hel.2.2.1,e1.1,e1.2,hm,go_sem]
    by_cases e2:(es.getD i e0).a=y∧(es.getD i e0).b=x
    · have hm:=Vd hi1 (.inr e2:yp x y (es.getD i e0)) hall
      by_cases hxy:y=x
      · subst hxy;exact absurd e2 e1
      simp only[t1,t2,t10,t11,t12,hel.1,hel.2.2.1,e2.1,e2.2,hxy,hm,go_sem]
    have hn:¬yp x y (es.getD i e0):=fun hj=>hj.elim e1 e2
    by_cases f1:(es.getD i e0).a=x
    · have f2:¬(es.getD i e0).b=y:=fun h=>e1 ⟨f1,h⟩
      by_cases f3:x=y
      · subst f3
        simp only[t1,t2,t10,t11,t12,hel.1,hel.2.2.1,f1,f2,hw,go_sem];exact⟨hi1,zM hall hn⟩
      · simp only[t1,t2,t10,t11,t12,hel.1,hel.2.2.1,f1,f2,f3,hw,go_sem]
        exact⟨hi1,zM hall hn⟩
    · by_cases f3:(es.getD i e0).a=y
      · have f4:¬(es.getD i e0).b=x:=fun h=>e2 ⟨f3,h⟩
        rw[f3] at f1;simp only[t1,t2,t10,t11,t12,hel.1,hel.2.2.1,f1,f3,f4,hw,go_sem];exact⟨hi1,zM hall hn⟩
      · simp only[t1,t2,t10,t11,t12,hel.1,hel.2.2.1,f1,f3,hw,go_sem]
        exact⟨hi1,zM hall hn⟩
  · have hm:Qc (yp x y) es=-1:=UL (d:=e0) fun j hj=>hall j (by omega)
    simp only[hm,go_sem]
theorem jM (he:Rows h 5 v (ZF es))(hl:es.length≤lim):C T X vJ [zC size v,.int .i64 x,.int .i64 y] h=some (.int .i64 (ZS es x y),h):=by
  unfold lim at hl;refine qH Fz rfl ?_;unfold V2 zC ZS;simp only[go_sem]
  refine zT es.length (fun i t loc h'=>h'=h∧loc 3=some [.int .i64 size,v]∧t 1=.int .i64 x∧t 2=.int .i64 y∧t 7=.int .i64 i∧∀j,j<i→¬yp x y (es.getD j e0)) ⟨rfl,rfl,rfl,rfl,rfl,fun j hj=>by omega⟩ ?_
  rintro i t loc h' hi ⟨rfl,l3,t1,t2,t7,hall⟩;simp only[l3,t7,he.lnm,go_sem]
  refine zt (by simp only[go_sem];rfl) ?_ ?_<;>intro hc
  · have hi1:i<es.length:=by omega
    have hw:IntKind.i64.wrap ((i:Int)+1)=((i+1:Nat):Int):=w64 (by omega) (by omega)
    have hel:=ZK he hi1
    by_cases e1:(es.getD i e0).a=x∧(es.getD i e0).b=y
    · have hm:=Vd hi1 (.inl e1:yp x y (es.getD i e0)) hall
      simp only[l3,t1,t2,t7,hel,e1.1,e1.2,hm,go_sem]
    by_cases e2:(es.getD i e0).a=y∧(es.getD i e0).b=x
    · have hm:=Vd hi1 (.inr e2:yp x y (es.getD i e0)) hall
      by_cases hxy:y=x
      · subst hxy;exact absurd e2 e1
      simp only[l3,t1,t2,t7,hel,e2.1,e2.2,hxy,hm,go_sem]
    have hn:¬yp x y (es.getD i e0):=fun hj=>hj.elim e1 e2
    by_cases f1:(es.getD i e0).a=x
    · have f2:¬(es.getD i e0).b=y:=fun h=>e1 ⟨f1,h⟩
      by_cases f3:x=y
      · subst f3
        simp only[l3,t1,t2,t7,hel,f1,f2,hw,go_sem];exact⟨hi1,zM hall hn⟩
      · simp only[l3,t1,t2,t7,hel,f1,f2,f3,hw,go_sem]
        exact⟨hi1,zM hall hn⟩
    · by_cases f3:(es.getD i e0).a=y
      · have f4:¬(es.getD i e0).b=x:=fun h=>e2 ⟨f3,h⟩
        rw[f3] at f1;simp only[l3,t1,t2,t7,hel,f1,f3,f4,hw,go_sem];exact⟨hi1,zM hall hn⟩
      · simp only[l3,t1,t2,t7,hel,f1,f3,hw,go_sem]
        exact⟨hi1,zM hall hn⟩
  · have hm:Qc (yp x y) es=-1:=UL (d:=e0) fun j hj=>hall j (by omega)
    simp only[hm,go_sem]
end
section
variable {X:Zb}{h:za}{a v:Value}{l:List Int}{es:List E}{n x y size:Int}
open Classical in
theorem yH (he:Rows h 5 v (ZF es))(hl:es.length≤lim):C T X wd [zC size v] h=some (.bool (decide (GOk size es)),h):=by
  unfold lim at hl;refine qH xu rfl ?_;unfold WU zC;simp only[Za,go_sem]
  refine xX (by simp only[go_sem];rfl) ?_ ?_<;>intro hc
  · have:¬GOk size es:=fun g=>by
      have:=g.1;simp at hc;omega
    simp only[this,go_sem]
  have hs:0≤size∧size≤9:=by simpa using hc
  simp only[he.lnm,go_sem]
  refine zT es.length (fun i t loc h'=>h'=h∧loc 1=some [.int .i64 size,v]∧t 11=v∧t 12=.int .i64 es.length∧t 13=.int .i64 i∧∀j,j<i→EOk size (es.getD j e0)∧(0<j→ELt (es.getD (j-1) e0) (es.getD j e0)))
    ⟨rfl,rfl,rfl,rfl,rfl,fun j hj=>by omega⟩ ?_
  rintro i t loc h' hi ⟨rfl,l1,t11,t12,t13,hall⟩;simp only[t12,t13,go_sem]
  refine zt (by simp only[go_sem];rfl) ?_ ?_<;>intro hc
  · have hi1:i<es.length:=by omega
    have hel:=ZK he hi1
    have hneg:¬(EOk size (es.getD i e0)∧(0<i→ELt (es.getD (i-1) e0) (es.getD i e0)))→¬GOk size es:=fun hn g=>hn (g.2 i hi1)
    have hnext:(EOk size (es.getD i e0)∧(0<i→ELt (es.getD (i-1) e0) (es.getD i e0)))→∀j,j<i+1→EOk size (es.getD j e0)∧(0<j→ELt (es.getD (j-1) e0) (es.getD j e0)):=fun hy=>zM hall hy
    have hw:IntKind.i64.wrap ((i:Int)+1)=((i+1:Nat):Int):=w64 (by omega) (by omega)
    have hws:IntKind.i64.wrap (size-1)=size-1:=w64 (by omega) (by omega)
    by_cases hE:EOk size (es.getD i e0)
    · obtain⟨q1,q2,q3,q4,q5,q6,q7,q8,q9⟩:=id hE
      have p1:(es.getD i e0).a≤size-1:=by omega
      have p2:0≤(es.getD i e0).b:=by omega
      have p3:(es.getD i e0).b≤size-1:=by omega
      have p4:¬(es.getD i e0).b≤(es.getD i e0).a:=by omega
      rcases Nat.eq_zero_or_pos i with hz | hp
      · have hz':¬(0:Int)<i:=by omega
        simp only[l1,t11,t12,t13,hel.1,hel.2.2.1,Za,hws,p1,p2,p3,p4,q1,q4,q5,q6,q7,q8,q9,hz',hw,go_sem]
        exact⟨hi1,hnext ⟨hE,fun hp=>by omega⟩⟩
      · have hp':(0:Int)<i:=by omega
        have hw1:IntKind.i64.wrap ((i:Int)-1)=((i-1:Nat):Int):=by rw[w64 (by omega) (by omega)];omega
        have hi2:i-1<es.length:=by omega
        have hel2:=ZK he hi2
        by_cases hlt:ELt (es.getD (i-1) e0) (es.getD i e0)
        · by_cases f1:(es.getD (i-1) e0).a=(es.getD i e0).a
          · have f2:¬(es.getD i e0).a<(es.getD (i-1) e0).a:=by omega
            have f3:¬(es.getD i e0).b≤(es.getD (i-1) e0).b:=by unfold ELt at hlt;omega
            rw[f1] at f2;simp only[l1,t11,t12,t13,hel.1,hel.2.2.1,Za,hws,p1,p2,p3,p4,q1,q4,q5,q6,q7,q8,q9,hp',hw,hw1,hel2,f1,f2,f3,go_sem]
            exact⟨hi1,hnext ⟨hE,fun _=>hlt⟩⟩
          · have f2:¬(es.getD i e0).a<(es.getD (i-1) e0).a:=by unfold ELt at hlt;omega
            simp only[l1,t11,t12,t13,hel.1,hel.2.2.1,Za,hws,p1,p2,p3,p4,q1,q4,q5,q6,q7,q8,q9,hp',hw,hw1,hel2,f1,f2,go_sem]
            exact⟨hi1,hnext ⟨hE,fun _=>hlt⟩⟩
        · have hr:¬GOk size es:=hneg fun hx=>hlt (hx.2 hp)
          by_cases f1:(es.getD i e0).a<(es.getD (i-1) e0).a
          · simp only[l1,t11,t12,t13,hel.1,hel.2.2.1,Za,hws,p1,p2,p3,p4,q1,q4,q5,q6,q7,q8,q9,hp',hw1,hel2,f1,hr,go_sem]
          · have f2:(es.getD (i-1) e0).a=(es.getD i e0).a:=by unfold ELt at hlt;omega
            have f3:(es.getD i e0).b≤(es.getD (i-1) e0).b:=by unfold ELt at hlt;omega
            rw[f2] at f1;simp only[l1,t11,t12,t13,hel.1,hel.2.2.1,Za,hws,p1,p2,p3,p4,q1,q4,q5,q6,q7,q8,q9,hp',hw1,hel2,f1,f2,f3,hr,go_sem]
    · have hr:¬GOk size es:=hneg (fun hx=>hE hx.1)
      simp only[l1,t11,t12,t13,hel.1,hel.2.2.1,Za,hws,go_sem]
      repeat' (first | (refine xX (by simp only[l1,Za,hws,go_sem];rfl) ?_ ?_<;>intro hc<;>(try simp only[decide_eq_true_eq,decide_eq_false_iff_not,Decidable.not_not,Bool.not_eq_true',Bool.not_eq_false'] at hc)<;>simp only[hc,l1,Za,hws,go_sem]) | (refine xo (by simp only[l1,Za,hws,go_sem];rfl) ?_ ?_<;>intro hc<;>(try simp only[decide_eq_true_eq,decide_eq_false_iff_not,Decidable.not_not,Bool.not_eq_true',Bool.not_eq_false'] at hc)<;>simp only[hc,l1,Za,hws,go_sem]) | (refine Jf (by simp only[l1,Za,hws,go_sem];rfl) ?_ ?_<;>intro hc<;>(try simp only[decide_eq_true_eq,decide_eq_false_iff_not,Decidable.not_not,Bool.not_eq_true',Bool.not_eq_false'] at hc)<;>simp only[hc,l1,Za,hws,go_sem]) | (refine xl (by simp only[l1,Za,hws,go_sem];rfl) ?_ ?_<;>intro hc<;>(try simp only[decide_eq_true_eq,decide_eq_false_iff_not,Decidable.not_not,Bool.not_eq_true',Bool.not_eq_false'] at hc)<;>simp only[hc,l1,Za,hws,go_sem]) | (refine Je (by simp only[l1,Za,hws,go_sem];rfl) ?_ ?_<;>intro hc<;>(try simp only[decide_eq_true_eq,decide_eq_false_iff_not,Decidable.not_not,Bool.not_eq_true',Bool.not_eq_false'] at hc)<;>simp only[hc,l1,Za,hws,go_sem]))
      all_goals first
        | exact (decide_eq_false hr).symm
        | exact absurd (by simp only[Bool.and_eq_true,decide_eq_true_eq] at *;simp only[EOk];omega) hE
  · have:GOk size es:=⟨hs,fun j hj=>hall j (by omega)⟩
    simp only[this,go_sem]
theorem jK {m:List Int}:zq l++zq m=zq (l++m):=by simp[zq]
end
theorem du {es:List E}{a b:Int}:0≤ZS es a b↔∃e∈es,yp a b e:=by
  unfold ZS;rcases Vx (p:=yp a b) e0 es with⟨h1,h2⟩ | ⟨i,h1,h2,h3,h4⟩
  · rw[h1]
    constructor
    · intro h;omega
    · rintro⟨e,he,hj⟩
      obtain⟨i,hi,rfl⟩:=Zv (d:=e0) he;exact absurd hj (h2 i hi)
  · rw[h1]
    exact⟨fun _=>⟨_,zE h2,h3⟩,fun _=>by omega⟩
theorem uO {size:Int}{es:List E}(g:GOk size es){e:E}(he:e∈es):EOk size e:=by
  obtain⟨i,hi,rfl⟩:=Zv (d:=e0) he;exact (g.2 i hi).1
theorem Ye {size:Int}{es:List E}(g:GOk size es):es.length≤81:=by
  obtain⟨⟨g1,g2⟩,g3⟩:=g
  have key:∀i,i<es.length→(i:Int)≤9*(es.getD i e0).a+(es.getD i e0).b:=by
    intro i
    induction i with
    | zero=>intro hi;have:=(g3 0 hi).1;unfold EOk at this;omega
    | succ i ih =>
      intro hi
      have h1:=ih (by omega)
      have h2:=(g3 (i+1) hi).1
      have h3:=(g3 i (by omega)).1
      have h4:=(g3 (i+1) hi).2 (by omega)
      simp only[Nat.add_sub_cancel] at h4;unfold EOk at h2 h3;unfold ELt at h4;omega
  by_cases hz:es.length=0
  · omega
  · have h1:=key (es.length-1) (by omega)
    have h2:=(g3 (es.length-1) (by omega)).1
    unfold EOk at h2;omega
section
variable {X:Zb}{h:za}{ev:Value}{es:List E}{n size x:Int}
end
end Go.Proofs.Ytafhipglhnfgnaa.Ab
namespace Go.Proofs.Ytafhipglhnfgnaa.Ab
def qN (a b:Int)(gs:List Gp):Int:=gs.foldl (fun s g=>if a∈g.ms∧b∈g.ms then s+g.z else s) 0
def VP (ys:List Int)(gs:List Gp)(e:E):Int:=ys.getD e.a.toNat 0+ys.getD e.b.toNat 0-2*ZJ e.w1 e.w2 e.w3+qN e.a e.b gs
def vR (ys:List Int):Int:=ys.foldl (·+·) 0
def VQ (gs:List Gp):Int:=gs.foldl (fun s g=>s+g.z*((g.ms.length / 2:Nat):Int)) 0
def vM (ys:List Int)(gs:List Gp):Int:=vR ys+VQ gs
def ug (size:Int)(es:List E)(ys:List Int)(gs:List Gp):Prop :=
  (GOk size es∧(ys.length:Int)=size∧gs.length≤8)∧(∀j,j<ys.length→0≤ys.getD j 0∧ys.getD j 0≤1000000000) ∧
  (∀i,i<gs.length→yj size (gs.getD i g0)∧∀k,k<i→gj (gs.getD k g0).ms (gs.getD i g0).ms)∧∀i,i<es.length→0≤VP ys gs (es.getD i e0)
theorem YY {a b:Int}{gs:List Gp}{i:Nat}(hi:i<gs.length):qN a b (gs.take (i+1))=if a∈(gs.getD i g0).ms∧b∈(gs.getD i g0).ms then qN a b (gs.take i)+(gs.getD i g0).z else qN a b (gs.take i):=by
  unfold qN;rw[Zj (d:=g0) hi,List.foldl_append];rfl
theorem ki {ys:List Int}{i:Nat}(hi:i<ys.length):vR (ys.take (i+1))=vR (ys.take i)+ys.getD i 0:=by
  unfold vR;rw[Zj (d:=0) hi,List.foldl_append];rfl
theorem kh {gs:List Gp}{i:Nat}(hi:i<gs.length):VQ (gs.take (i+1))=VQ (gs.take i)+(gs.getD i g0).z*(((gs.getD i g0).ms.length / 2:Nat):Int):=by
  unfold VQ;rw[Zj (d:=g0) hi,List.foldl_append];rfl
theorem XZ {a b:Int}{gs:List Gp}(hz:∀i,i<gs.length→0≤(gs.getD i g0).z∧(gs.getD i g0).z≤1000000000):∀i,i≤gs.length→0≤qN a b (gs.take i)∧qN a b (gs.take i)≤1000000000*i:=by
  intro i
  induction i with
  | zero=>intro _;simp[qN]
  | succ i ih =>
    intro hi
    have h1:=ih (by omega)
    have h2:=hz i (by omega)
    rw[YY (by omega)]
    split<;>omega
theorem xq {ys:List Int}(hz:∀i,i<ys.length→0≤ys.getD i 0∧ys.getD i 0≤1000000000):∀i,i≤ys.length→0≤vR (ys.take i)∧vR (ys.take i)≤1000000000*i:=by
  intro i
  induction i with
  | zero=>intro _;simp[vR]
  | succ i ih =>
    intro hi
    have h1:=ih (by omega)
    have h2:=hz i (by omega)
    rw[ki (by omega)]
    omega
theorem Fj {z:Int}{n:Nat}(h1:0≤z∧z≤1000000000)(h2:n≤9):0≤z*((n / 2:Nat):Int)∧z*((n / 2:Nat):Int)≤4000000000:=by
  have h3:n / 2≤4:=by omega
  have:n / 2=0∨n / 2=1∨n / 2=2∨n / 2=3∨n / 2=4:=by omega
  rcases this with e | e | e | e | e<;>rw[e]<;>constructor<;>(push_cast;omega)
theorem xp {gs:List Gp}(hz:∀i,i<gs.length→(0≤(gs.getD i g0).z∧(gs.getD i g0).z≤1000000000)∧(gs.getD i g0).ms.length≤9):∀i,i≤gs.length→0≤VQ (gs.take i)∧VQ (gs.take i)≤4000000000*i:=by
  intro i
  induction i with
  | zero=>intro _;simp[VQ]
  | succ i ih =>
    intro hi
    have h1:=ih (by omega)
    have h2:=hz i (by omega)
    have h3:=Fj h2.1 h2.2
    rw[kh (by omega)]
    omega
theorem zd1 {l:List Int}(h:∀j,j<l.length→0<j→l.getD (j-1) 0<l.getD j 0):Asc l:=by
  induction l with
  | nil=>exact List.Pairwise.nil
  | cons a l ih =>
    have h':∀j,j<l.length→0<j→l.getD (j-1) 0<l.getD j 0:=fun j hj hp=>by
      have:=h (j+1) (by simpa using hj) (by omega)
      have e:j+1-1=(j-1)+1:=by omega
      rw[e] at this;simpa using this
    have ih:=ih h';rw[Asc,List.pairwise_cons]
    refine⟨fun x hx=>?_,ih⟩
    cases l with
    | nil=>cases hx
    | cons b l =>
      have hb:=h 1 (by simp) (by omega)
      simp at hb;rcases List.mem_cons.1 hx with rfl | hx
      · exact hb
      · have:=(List.pairwise_cons.1 ih).1 x hx
        omega
theorem Gt {size:Int}{g:Gp}(h:yj size g):Asc g.ms:=zd1 fun j hj hp=>(h.2 j hj).2 hp
theorem da {l:List Int}(h:Asc l):l.Nodup:=by
  refine List.Pairwise.imp (R:=(·<·)) (fun h=>?_) h
  exact Int.ne_of_lt h
theorem be {size:Int}{g:Gp}(h:yj size g)(hs:0≤size):(g.ms.length:Int)≤size:=by
  have key:∀ {n:Nat} {l:List Int},l.Nodup→(∀x∈l,0≤x∧x<n)→l.length≤n:=by
    intro n
    induction n with
    | zero => intro l _ h
              cases l with
              | nil=>exact Nat.le_refl _
              | cons a l=>have:=h a List.mem_cons_self;omega
    | succ n ih =>
      intro l hn h
      by_cases hm:(n:Int)∈l
      · have h1:=List.length_erase_of_mem hm
        have h2:=ih (hn.erase (n:Int)) fun x hx=>by
          obtain⟨h3,h4⟩:=(hn.mem_erase_iff).1 hx;have:=h x h4;omega
        omega
      · have:=ih hn fun x hx=>by
          have h3:=h x hx
          have:x≠n:=fun e=>hm (e▸hx)
          omega
        omega
  have:=key (n:=size.toNat) (da (Gt h)) fun x hx=>by
    obtain⟨j,hj,e⟩:=Zv (d:=0) hx;have:=(h.2 j hj).1;omega
  omega
def ZX (a b:List Int):Nat:=(a.filter fun x=>decide (x∈b)).length
theorem BN {a b:List Int}{i:Nat}(hi:i<a.length):ZX (a.take (i+1)) b=if a.getD i 0∈b then ZX (a.take i) b+1 else ZX (a.take i) b:=by
  unfold ZX;rw[Zj (d:=0) hi,List.filter_append,List.length_append];split
  · rename_i h;simp only[List.filter_cons,decide_eq_true h,if_true,List.filter_nil,List.length_cons,List.length_nil]
  · rename_i h;simp only[List.filter_cons,decide_eq_false h,Bool.false_eq_true,if_false,List.filter_nil,List.length_nil,Nat.add_zero]
theorem D7 {a b:List Int}:ZX a b≤a.length:=List.length_filter_le _ _
theorem D9 {a b:List Int}:ZX a b=0↔∀x∈a,¬x∈b:=by
  unfold ZX;rw[List.length_eq_zero_iff,List.filter_eq_nil_iff];simp
theorem Ce {a b:List Int}:ZX a b=a.length↔∀x∈a,x∈b:=by
  unfold ZX;rw[List.length_filter_eq_length_iff];simp
theorem D8 {a b:List Int}(ha:Asc a)(hb:Asc b):ZX a b=ZX b a:=by
  unfold ZX
  congr 1
  refine Cc (ha.filter _) (hb.filter _) fun x=>?_
  simp only[List.mem_filter,decide_eq_true_eq];exact And.comm
theorem zaS {a b:List Int}(ha:Asc a)(hb:Asc b):gj a b↔ZX a b=0∨ZX a b=a.length∨ZX a b=b.length:=by
  unfold gj
  have h3:ZX a b=b.length↔∀x∈b,x∈a:=by rw[D8 ha hb];exact Ce
  rw[h3,D9,Ce];constructor
  · rintro (h | h | h)
    · exact .inr (.inr h)
    · exact .inl fun x hx hb=>h x hb hx
    · exact .inr (.inl h)
  · rintro (h | h | h)
    · exact .inr (.inl fun x hx ha=>h x ha hx)
    · exact .inr (.inr h)
    · exact .inl h
end Go.Proofs.Ytafhipglhnfgnaa.Ab
namespace Go.Proofs.Ytafhipglhnfgnaa.Ab
open Go.RowKit
structure Sv where
  n:Nat
  N:Nat
  y:Nat→Int
  up:Nat→Option Nat
  mem:Nat→List Nat
  lnk:Nat→List Nat
  mate:Nat→Option Nat
  base:Nat→Nat
  z:Nat→Int
  gone:Nat→Bool
inductive Wi (s:Sv):Nat→Nat→Prop
  | refl (v:Nat):Wi s v v
  | step {v p t:Nat} (h:s.up v=some p) (k:Wi s p t):Wi s v t
def uh (s:Sv):Prop:=∀v p,s.up v=some p→v<p∧p<s.N
section
variable {s:Sv}{u v w t p:Nat}
theorem Wi.trans (h:Wi s u v)(k:Wi s v w):Wi s u w:=by
  induction h with
  | refl=>exact k
  | step e _ ih=>exact .step e (ih k)
theorem Wi.one (h:s.up v=some p):Wi s v p:=.step h (.refl p)
theorem Wi.le (hu:uh s)(h:Wi s u v):u≤v:=by
  induction h with
  | refl=>exact Nat.le_refl _
  | step e _ ih=>have:=(hu _ _ e).1;omega
theorem Wi.lt (hu:uh s)(h:Wi s u v)(hn:u<s.N):v<s.N:=by
  induction h with
  | refl=>exact hn
  | step e _ ih=>exact ih (hu _ _ e).2
theorem Wi.chain (h:Wi s u v)(k:Wi s u w):Wi s v w∨Wi s w v:=by
  induction h generalizing w with
  | refl=>exact .inl k
  | step e h' ih =>
    cases k with
    | refl=>exact .inr (.step e h')
    | step e2 k2 =>
      rw[e] at e2;cases e2;exact ih k2
theorem Wi.top_eq (h:Wi s t w)(ht:s.up t=none):w=t:=by
  cases h with
  | refl=>rfl
  | step e _=>rw[ht] at e;cases e
theorem Wi.last (h:Wi s u v):u=v∨∃m,s.up m=some v∧Wi s u m:=by
  induction h with
  | refl=>exact .inl rfl
  | step e _ ih =>
    rename_i a b c _
    rcases ih with rfl | ⟨m,h1,h2⟩
    · exact .inr ⟨a,e,.refl _⟩
    · exact .inr ⟨m,h1,.step e h2⟩
def kC (s:Sv):Nat→Nat→Nat
  | 0,v=>v
  | f+1,v=>match s.up v with
    | none=>v
    | some p=>kC s f p
def top (s:Sv)(v:Nat):Nat:=kC s (s.N-v) v
theorem FA (hu:uh s):∀(f v:Nat),s.N-v≤f→Wi s v (kC s f v)∧s.up (kC s f v)=none
  | 0,v,h=>by
    refine⟨.refl _,?_⟩;show s.up v=none
    cases e:s.up v with
    | none=>rfl
    | some p=>have:=hu _ _ e;omega
  | f+1,v,h=>by
    unfold kC
    cases e:s.up v with
    | none=>exact⟨.refl _,e⟩
    | some p =>
      have:=hu _ _ e
      obtain⟨h1,h2⟩:=FA hu f p (by omega)
      exact⟨.step e h1,h2⟩
theorem ZO (hu:uh s):Wi s v (top s v):=(FA hu _ v (Nat.le_refl _)).1
theorem yX (hu:uh s):s.up (top s v)=none:=(FA hu _ v (Nat.le_refl _)).2
theorem Zo (hu:uh s)(h:Wi s v t)(ht:s.up t=none):top s v=t:=by
  rcases h.chain (ZO hu) with k | k
  · exact k.top_eq ht
  · exact (k.top_eq (yX hu)).symm
theorem xW (hu:uh s)(ht:s.up t=none):top s t=t:=Zo hu (.refl _) ht
theorem top_eq (hu:uh s)(h:Wi s u v):top s u=top s v:=Zo hu (h.trans (ZO hu)) (yX hu)
theorem zbR (hu:uh s)(h:s.up v=some p):top s v=top s p:=top_eq hu (.one h)
theorem Uc (hu:uh s)(h:v<s.N):top s v<s.N:=(ZO hu).lt hu h
end
def vA (es:List E)(e:Nat):Nat:=(es.getD e e0).a.toNat
def vB (es:List E)(e:Nat):Nat:=(es.getD e e0).b.toNat
def vW (es:List E)(e:Nat):Int:=ZJ (es.getD e e0).w1 (es.getD e e0).w2 (es.getD e e0).w3
open Classical in
noncomputable def qJ (s:Sv)(a b:Nat):Nat→Int
  | 0=>0
  | k+1=>qJ s a b k+if s.n≤k∧Wi s a k∧Wi s b k then s.z k else 0
noncomputable def slk (es:List E)(s:Sv)(e:Nat):Int:=s.y (vA es e)+s.y (vB es e)-2*vW es e+qJ s (vA es e) (vB es e) s.N
def Jn (es:List E)(s:Sv)(e a b:Nat):Prop:=e<es.length∧((Wi s (vA es e) a∧Wi s (vB es e) b)∨(Wi s (vB es e) a∧Wi s (vA es e) b))
def Ze (es:List E)(s:Sv)(e:Nat):Prop:=slk es s e=0
def zc (s:Sv)(t:Nat):Prop:=t<s.N∧s.up t=none∧s.gone t=false
def zg (s:Sv)(p:Nat):Prop:=s.n≤p∧p<s.N∧s.gone p=false
structure Ok (es:List E)(s:Sv):Prop where
  nN:s.n≤s.N
  ed:∀e,e<es.length→vA es e<s.n∧vB es e<s.n∧vA es e≠vB es e
  up:∀v p,s.up v=some p→v<p∧zg s p∧s.gone v=false∧v∈s.mem p
  ring:∀p,zg s p→3≤(s.mem p).length∧(s.mem p).length%2=1∧(s.mem p).Nodup∧∀v∈s.mem p,s.up v=some p
  lnk:∀p,zg s p→(s.lnk p).length=(s.mem p).length∧∀j,j<(s.mem p).length→Jn es s ((s.lnk p).getD j 0) ((s.mem p).getD j 0) ((s.mem p).getD ((j+1)%(s.mem p).length) 0)∧Ze es s ((s.lnk p).getD j 0)
  gone:∀p,s.gone p=true→s.n≤p∧s.up p=none
  mate:∀t e,zc s t→s.mate t=some e→Ze es s e∧∃o,zc s o∧o≠t∧s.mate o=some e∧Jn es s e t o
  base:∀t,t<s.N→s.gone t=false→s.base t<s.n∧Wi s (s.base t) t
  baseM:∀p,zg s p→∃j∈s.mem p,s.base p=s.base j
  feas:∀e,e<es.length→0≤slk es s e
  z0:∀p,zg s p→0≤s.z p∧s.z p%2=0
  par:∀p u v,zg s p→u<s.n→v<s.n→Wi s u p→Wi s v p→s.y u%2=s.y v%2
section
variable {es:List E}{s:Sv}{a b c d e o t u v p:Nat}
theorem Jn.symm (h:Jn es s e a b):Jn es s e b a:=⟨h.1,h.2.elim (fun k=>.inr ⟨k.2,k.1⟩) fun k=>.inl ⟨k.2,k.1⟩⟩
theorem Jn.wide (h:Jn es s e a b)(ha:Wi s a c)(hb:Wi s b d):Jn es s e c d :=
  ⟨h.1,h.2.elim (fun k=>.inl ⟨k.1.trans ha,k.2.trans hb⟩) fun k=>.inr ⟨k.1.trans ha,k.2.trans hb⟩⟩
theorem Ok.upOk (k:Ok es s):uh s:=fun v p h=>⟨(k.up v p h).1,(k.up v p h).2.1.2.1⟩
theorem Ok.ngone (k:Ok es s)(hv:v<s.n):s.gone v=false:=by
  cases e:s.gone v with
  | false=>rfl
  | true=>have:=(k.gone v e).1;omega
theorem Ok.wi_gone (k:Ok es s)(h:Wi s u v)(hn:s.gone u=false):s.gone v=false:=by
  induction h with
  | refl=>exact hn
  | step e _ ih=>exact ih (k.up _ _ e).2.1.2.2
theorem Ok.topTop (k:Ok es s)(hv:v<s.N)(hg:s.gone v=false):zc s (top s v):=⟨Uc k.upOk hv,yX k.upOk,k.wi_gone (ZO k.upOk) hg⟩
theorem Ok.vTop (k:Ok es s)(hv:v<s.n):zc s (top s v):=k.topTop (Nat.lt_of_lt_of_le hv k.nN) (k.ngone hv)
theorem zc.top (h:zc s t)(k:Ok es s):top s t=t:=xW k.upOk h.2.1
theorem Jn.tops (h:Jn es s e a b)(k:Ok es s)(ha:zc s a)(hb:zc s b):(top s (vA es e)=a∧top s (vB es e)=b)∨(top s (vB es e)=a∧top s (vA es e)=b):=by
  rcases h.2 with⟨h1,h2⟩ | ⟨h1,h2⟩
  · exact .inl ⟨Zo k.upOk h1 ha.2.1,Zo k.upOk h2 hb.2.1⟩
  · exact .inr ⟨Zo k.upOk h1 ha.2.1,Zo k.upOk h2 hb.2.1⟩
theorem Jn.two (h:Jn es s e a b)(g:Jn es s e c d)(k:Ok es s)(ha:zc s a)(hb:zc s b)(hc:zc s c)(hd:zc s d):(c=a∧d=b)∨(c=b∧d=a):=by
  rcases h.tops k ha hb with⟨h1,h2⟩ | ⟨h1,h2⟩<;>rcases g.tops k hc hd with⟨g1,g2⟩ | ⟨g1,g2⟩<;>subst h1 h2 g1 g2<;>simp
theorem KU (k:Ok es s)(he:e<es.length):Jn es s e (top s (vA es e)) (top s (vB es e)):=⟨he,.inl ⟨ZO k.upOk,ZO k.upOk⟩⟩
theorem Ok.mate2 (k:Ok es s)(ht:zc s t)(ho:zc s o)(hc:zc s c)(h1:s.mate t=some e)(h2:s.mate o=some e)(h3:s.mate c=some e)(hot:o≠t):c=t∨c=o:=by
  obtain⟨_,o',i1,i2,i3,i4⟩:=k.mate t e ht h1;obtain⟨_,p',j1,j2,j3,j4⟩:=k.mate o e ho h2;obtain⟨_,q',l1,l2,l3,l4⟩:=k.mate c e hc h3;rcases i4.two j4 k ht i1 ho j1 with⟨q1,_⟩ | ⟨q1,_⟩
  · exact absurd q1 hot
  · subst q1
    rcases i4.two l4 k ht i1 hc l1 with⟨q2,_⟩ | ⟨q2,_⟩
    · exact .inl q2
    · exact .inr q2
theorem jo {s':Sv}{a b a' b':Nat}:∀k,(∀p,p<k→s.n≤p→((Wi s a p∧Wi s b p)↔(Wi s' a' p∧Wi s' b' p))∧(Wi s a p→Wi s b p→s.z p=s'.z p))→s.n=s'.n→qJ s a b k=qJ s' a' b' k
  | 0,_,_=>rfl
  | k+1,h,hn=>by
    have ih:=jo k (fun p hp hq=>h p (by omega) hq) hn
    unfold qJ;rw[ih,←hn]
    congr 1
    by_cases c:s.n≤k
    · obtain⟨h1,h2⟩:=h k (by omega) c
      by_cases g:Wi s a k∧Wi s b k
      · rw[if_pos ⟨c,g⟩,if_pos ⟨c,h1.1 g⟩,h2 g.1 g.2]
      · rw[if_neg (fun q=>g q.2),if_neg (fun q=>g (h1.2 q.2))]
    · rw[if_neg (fun q=>c q.1),if_neg (fun q=>c q.1)]
theorem fo {k:Nat}(h:∀p,p<k→s.n≤p→¬(Wi s a p∧Wi s b p)):qJ s a b k=0:=by
  induction k with
  | zero=>rfl
  | succ k ih =>
    unfold qJ
    rw[ih fun p hp hq=>h p (by omega) hq]
    by_cases c:s.n≤k
    · rw[if_neg fun q=>h k (by omega) c q.2];rfl
    · rw[if_neg fun q=>c q.1];rfl
theorem kg (k:Ok es s)(h:top s (vA es e)≠top s (vB es e)):slk es s e=s.y (vA es e)+s.y (vB es e)-2*vW es e:=by
  unfold slk
  rw[fo fun p _ _ q=>h ((top_eq k.upOk q.1).trans (top_eq k.upOk q.2).symm),Int.add_zero]
end
structure Lb where
  lab:Nat→Nat
  ahead:Nat→Option Nat
  byE:Nat→Option Nat
structure Fo (es:List E)(s:Sv)(l:Lb)(rk:Nat→Nat):Prop where
  top:∀t,l.lab t≠0→zc s t
  two:∀t,l.lab t≤2
  root:∀t,zc s t→s.mate t=none→l.lab t=1∧l.ahead t=none
  free:∀t,l.lab t=1→l.ahead t=none→s.mate t=none
  even:∀t o,l.lab t=1→l.ahead t=some o→l.lab o=2∧rk o<rk t∧∃f,s.mate t=some f∧s.mate o=some f∧l.byE t=some f∧Jn es s f o t
  odd:∀o,l.lab o=2→∃a e f c,l.ahead o=some a∧l.lab a=1∧rk a<rk o∧l.byE o=some e∧Jn es s e a o∧Ze es s e∧s.mate o=some f∧s.mate c=some f∧l.lab c=1∧l.ahead c=some o
def VF (es:List E)(s:Sv)(l:Lb):Prop:=∀e a b,e<es.length→Ze es s e→Jn es s e a b→zc s a→zc s b→a≠b→l.lab a=1→l.lab b=2
def uP (l:Lb)(a b c e f:Nat):Lb :=
  ⟨fun t=>if t=c then 1 else if t=b then 2 else l.lab t,fun t=>if t=c then some b else if t=b then some a else l.ahead t,fun t=>if t=c then some f else if t=b then some e else l.byE t⟩
section
variable {es:List E}{s:Sv}{l:Lb}{rk:Nat→Nat}{a b c e f t o:Nat}
theorem Fo.bare (F:Fo es s l rk)(k:Ok es s)(hb:zc s b)(h0:l.lab b=0):∃f c,s.mate b=some f∧s.mate c=some f∧zc s c∧c≠b∧Jn es s f b c∧l.lab c=0:=by
  cases hm:s.mate b with
  | none=>have:=(F.root b hb hm).1;omega
  | some f =>
    obtain⟨_,c,hc,hne,hmc,hcn⟩:=k.mate b f hb hm;refine⟨f,c,rfl,hmc,hc,hne,hcn,?_⟩;have h2:=F.two c;rcases Nat.lt_or_ge (l.lab c) 1 with q | q
    · omega
    · exfalso
      by_cases q1:l.lab c=1
      · cases ha:l.ahead c with
        | none=>rw[F.free c q1 ha] at hmc;cases hmc
        | some o =>
          obtain⟨ho,_,f',h3,h4,_,_⟩:=F.even c o q1 ha;rw[hmc] at h3;cases h3
          have hot:zc s o:=F.top o (by omega)
          rcases k.mate2 hb hc hot hm hmc h4 hne with e1 | e1
          · subst e1;omega
          · subst e1;omega
      · have q2:l.lab c=2:=by omega
        obtain⟨a,e,f',d,_,_,_,_,_,_,h3,h4,h5,_⟩:=F.odd c q2;rw[hmc] at h3;cases h3
        have hdt:zc s d:=F.top d (by omega)
        rcases k.mate2 hb hc hdt hm hmc h4 hne with e1 | e1
        · subst e1;omega
        · subst e1;omega
theorem Fo.grow (F : Fo es s l rk) (k : Ok es s) (he : Ze es s e) (hcn : Jn es s e a b) (ha : zc s a) (hb : zc s b) (hab : a ≠ b) (la : l.lab a = 1) (lb : l.lab b = 0) (hf : s.mate b = some f) (hmc : s.mate c = some f) (hc : zc s c) (hcb : c ≠ b) (hfc : Jn es s f b c) (lc : l.lab c = 0) :
    Fo es s (uP l a b c e f) fun t=>if t=c then rk a+2 else if t=b then rk a+1 else rk t:=by
  have hac:a≠c:=fun q=>by subst q;omega
  refine⟨fun t ht=>?_,fun t=>?_,fun t ht hm=>?_,fun t h1 h2=>?_,fun t o h1 h2=>?_,fun o h2=>?_⟩
  · simp only[uP] at ht
    split at ht
    · next q=>subst q;exact hc
    · split at ht
      · next q=>subst q;exact hb
      · exact F.top t ht
  · simp only[uP]
    split
    · omega
    · split
      · omega
      · exact F.two t
  · have n1:t≠c:=fun q=>by rw[q,hmc] at hm;cases hm
    have n2:t≠b:=fun q=>by rw[q,hf] at hm;cases hm
    simp only[uP,n1,n2,if_false];exact F.root t ht hm
  · simp only[uP] at h1 h2
    split at h2
    · cases h2
    · next q1 =>
      split at h2
      · cases h2
      · next q2 =>
        rw[if_neg q1,if_neg q2] at h1;exact F.free t h1 h2
  · simp only[uP] at h1 h2 ⊢
    by_cases q1:t=c
    · rw[if_pos q1] at h2
      cases h2;subst q1
      refine⟨by rw[if_neg (Ne.symm hcb),if_pos rfl],by rw[if_neg (Ne.symm hcb),if_pos rfl,if_pos rfl];omega,f,hmc,hf,by rw[if_pos rfl],hfc⟩
    · rw[if_neg q1] at h1 h2
      by_cases q2:t=b
      · rw[if_pos q2] at h1
        omega
      · rw[if_neg q2] at h1 h2
        obtain⟨i1,i2,f',i3,i4,i5,i6⟩:=F.even t o h1 h2
        have n1:o≠c:=fun q=>by subst q;omega
        have n2:o≠b:=fun q=>by subst q;omega
        rw[if_neg n1,if_neg n2,if_neg n1,if_neg n2,if_neg q1,if_neg q2,if_neg q1,if_neg q2];exact⟨i1,i2,f',i3,i4,i5,i6⟩
  · simp only[uP] at h2 ⊢
    by_cases q1:o=c
    · rw[if_pos q1] at h2;omega
    · rw[if_neg q1] at h2
      by_cases q2:o=b
      · subst q2
        refine⟨a,e,f,c,by rw[if_neg q1,if_pos rfl],by rw[if_neg hac,if_neg hab];exact la,by rw[if_neg hac,if_neg hab,if_neg q1,if_pos rfl];omega,by rw[if_neg q1,if_pos rfl],hcn,he,hf,hmc,by rw[if_pos rfl],by rw[if_pos rfl]⟩
      · rw[if_neg q2] at h2
        obtain⟨a',e',f',c',i1,i2,i3,i4,i5,i6,i7,i8,i9,i10⟩:=F.odd o h2
        have n1:a'≠c:=fun q=>by subst q;omega
        have n2:a'≠b:=fun q=>by subst q;omega
        have n3:c'≠c:=fun q=>by subst q;omega
        have n4:c'≠b:=fun q=>by subst q;omega
        refine⟨a',e',f',c',by rw[if_neg q1,if_neg q2];exact i1,by rw[if_neg n1,if_neg n2];exact i2,by rw[if_neg n1,if_neg n2,if_neg q1,if_neg q2];exact i3,by rw[if_neg q1,if_neg q2];exact i4,i5,i6,i7,i8,by rw[if_neg n3,if_neg n4];exact i9,by rw[if_neg n3,if_neg n4];exact i10⟩
open Classical in
noncomputable def qU (s:Sv):Lb:=⟨fun t=>if zc s t∧s.mate t=none then 1 else 0,fun _=>none,fun _=>none⟩
theorem zak:Fo es s (qU s) fun _=>0:=by
  refine⟨fun t ht=>?_,fun t=>?_,fun t ht hm=>?_,fun t h1 _=>?_,fun t o _ h2=>(by cases h2),fun o h2=>?_⟩
  · simp only[qU] at ht
    split at ht
    · next q=>exact q.1
    · exact absurd rfl ht
  · simp only[qU]
    split<;>omega
  · simp only[qU]
    rw[if_pos ⟨ht,hm⟩];exact⟨rfl,trivial⟩
  · simp only[qU] at h1
    split at h1
    · next q=>exact q.2
    · omega
  · simp only[qU] at h2
    split at h2<;>omega
end
def qc (l:Lb):List Nat→Prop
  | []=>False
  | [t]=>l.ahead t=none
  | t::o::xs=>l.ahead t=some o∧qc l (o::xs)
section
variable {es:List E}{s:Sv}{l:Lb}{rk:Nat→Nat}{a b c e f t o:Nat}{xs ys:List Nat}
theorem Fo.rkAhead (F:Fo es s l rk)(h0:l.lab t≠0)(h:l.ahead t=some o):rk o<rk t∧l.lab o≠0∧l.lab o+l.lab t=3:=by
  have h2:=F.two t
  by_cases q:l.lab t=1
  · obtain⟨i1,i2,_⟩:=F.even t o q h
    exact⟨i2,by omega,by omega⟩
  · have q2:l.lab t=2:=by omega
    obtain⟨a,_,_,_,i1,i2,i3,_⟩:=F.odd t q2;rw[h] at i1;cases i1
    exact⟨i3,by omega,by omega⟩
theorem C0:∀ {xs ys:List Nat} {t:Nat},qc l (t::xs)→qc l (t::ys)→xs=ys
  | [],[],_,_,_=>rfl
  | [],y::ys,t,h,k=>by
    have h':l.ahead t=none:=h;have k1:=k.1;rw[h'] at k1;cases k1
  | x::xs,[],t,h,k=>by
    have k':l.ahead t=none:=k;have h1:=h.1;rw[k'] at h1;cases h1
  | x::xs,y::ys,t,h,k=>by
    have e:=h.1.symm.trans k.1;cases e;rw[C0 h.2 k.2]
theorem qf:∀ {xs:List Nat} {j:Nat},qc l xs→j+1<xs.length→l.ahead (xs.getD j 0)=some (xs.getD (j+1) 0)
  | [t],j,_,hj=>by simp at hj
  | t::o::xs,0,h,_=>by simpa using h.1
  | t::o::xs,j+1,h,hj=>by
    have:=qf (xs:=o::xs) (j:=j) h.2 (by simpa using hj)
    simpa using this
theorem Jr:∀ {xs:List Nat},qc l xs→l.ahead (xs.getD (xs.length-1) 0)=none
  | [t],h=>h
  | t::o::xs,h=>by
    have:=Jr (xs:=o::xs) h.2;simpa using this
theorem ZA (F:Fo es s l rk)(h:qc l xs)(h0:l.lab (xs.getD 0 0)=1):∀j,j<xs.length→l.lab (xs.getD j 0)=1+j%2
  | 0,_=>by simpa using h0
  | j+1,hj=>by
    have ih:=ZA F h h0 j (by omega)
    have hn:=qf h hj
    have:=(F.rkAhead (by omega) hn).2.2
    omega
theorem xZ (F:Fo es s l rk)(h:qc l xs)(h0:l.lab (xs.getD 0 0)=1):∀ {i j},i<j→j<xs.length→rk (xs.getD j 0)<rk (xs.getD i 0)
  | i,j+1,hij,hj=>by
    have hl:=ZA F h h0 j (by omega)
    have h1:=(F.rkAhead (by omega) (qf h hj)).1
    by_cases q:i=j
    · subst q;exact h1
    · have:=xZ F h h0 (i:=i) (j:=j) (by omega) (by omega)
      omega
theorem U3 (F:Fo es s l rk)(h:qc l xs)(h0:l.lab (xs.getD 0 0)=1){i j:Nat}(hi:i<xs.length)(hj:j<xs.length)(e:xs.getD i 0=xs.getD j 0):i=j:=by
  rcases Nat.lt_trichotomy i j with q | q | q
  · have:=xZ F h h0 q hj;rw[e] at this;omega
  · exact q
  · have:=xZ F h h0 q hi;rw[e] at this;omega
structure uY (es:List E)(s:Sv)(l:Lb)(rk:Nat→Nat)(e:Nat)(xs ys:List Nat)(i k:Nat):Prop where
  F:Fo es s l rk
  wx:qc l xs
  wy:qc l ys
  x0:l.lab (xs.getD 0 0)=1
  y0:l.lab (ys.getD 0 0)=1
  ne:xs.getD 0 0≠ys.getD 0 0
  tight:Ze es s e
  cn:Jn es s e (xs.getD 0 0) (ys.getD 0 0)
  hi:i<xs.length
  hk:k<ys.length
  joint:xs.getD i 0=ys.getD k 0
  first:∀j,j<i→¬xs.getD j 0∈ys
def ZN (xs ys:List Nat)(i k:Nat):List Nat:=xs.getD i 0::((xs.take i).reverse++ys.take k)
def qz (l:Lb)(e:Nat)(xs ys:List Nat)(i k:Nat):List Nat:=((xs.take i).reverse.map fun t=>(l.byE t).getD 0)++e::((ys.take k).map fun t=>(l.byE t).getD 0)
theorem zw {l:List Nat}{i:Nat}(h:i<l.length):l.getD i 0∈l:=zE (d:=0) h
variable {i k:Nat}
theorem uY.even (M:uY es s l rk e xs ys i k)(K:Ok es s):i%2=0∧k%2=0:=by
  have hx:=ZA M.F M.wx M.x0 i M.hi;have hy:=ZA M.F M.wy M.y0 k M.hk;rw[M.joint] at hx
  have hik:i%2=k%2:=by omega
  have h2:i%2<2:=Nat.mod_lt _ (by omega)
  by_cases q:i%2=0
  · exact⟨q,by omega⟩
  · exfalso
    have hjl:l.lab (ys.getD k 0)=2:=by omega
    obtain⟨_,_,f,_,_,_,_,_,_,_,hmj,_⟩:=M.F.odd _ hjl
    have nx:=qf (j:=i-1) M.wx (by have:=M.hi;omega)
    have ny:=qf (j:=k-1) M.wy (by have:=M.hk;omega)
    rw[show i-1+1=i by omega,M.joint] at nx
    rw[show k-1+1=k by omega] at ny
    have lx:=ZA M.F M.wx M.x0 (i-1) (by have:=M.hi;omega)
    have ly:=ZA M.F M.wy M.y0 (k-1) (by have:=M.hk;omega)
    have lx1:l.lab (xs.getD (i-1) 0)=1:=by omega
    have ly1:l.lab (ys.getD (k-1) 0)=1:=by omega
    obtain⟨_,_,f1,a1,a2,_,_⟩:=M.F.even _ _ lx1 nx;obtain⟨_,_,f2,b1,b2,_,_⟩:=M.F.even _ _ ly1 ny;rw[hmj] at a2 b2;cases a2;cases b2
    have tj:zc s (ys.getD k 0):=M.F.top _ (by omega)
    have tx:zc s (xs.getD (i-1) 0):=M.F.top _ (by omega)
    have ty:zc s (ys.getD (k-1) 0):=M.F.top _ (by omega)
    rcases K.mate2 tj tx ty hmj a1 b1 (fun q=>by rw[q] at lx1;omega) with q1 | q1
    · rw[q1] at ly1;omega
    · exact M.first (i-1) (by omega) (by rw[←q1];exact zw (by have:=M.hk;omega))
theorem ub (hi:i<xs.length)(hk:k<ys.length):(ZN xs ys i k).length=1+i+k:=by
  unfold ZN;rw[List.length_cons,List.length_append,List.length_reverse,List.length_take,List.length_take];omega
theorem dU (hi:i<xs.length)(hk:k<ys.length):(qz l e xs ys i k).length=1+i+k:=by
  unfold qz;rw[List.length_append,List.length_map,List.length_reverse,List.length_take,List.length_cons,List.length_map,List.length_take];omega
theorem Gr {zs:List Nat}{j:Nat}(h:j<zs.length):zs.reverse.getD j 0=zs.getD (zs.length-1-j) 0:=by
  rw[List.getD_eq_getElem?_getD,List.getElem?_reverse h,←List.getD_eq_getElem?_getD]
theorem V9 {zs:List Nat}{n j:Nat}(h:j<n):(zs.take n).getD j 0=zs.getD j 0:=by
  rw[List.getD_eq_getElem?_getD,List.getElem?_take,if_pos h,←List.getD_eq_getElem?_getD]
theorem JO {zs ws:List Nat}{j:Nat}(h:j<zs.length):(zs++ws).getD j 0=zs.getD j 0:=by
  rw[List.getD_eq_getElem?_getD,List.getElem?_append_left h,←List.getD_eq_getElem?_getD]
theorem Yd {zs ws:List Nat}{j:Nat}(h:zs.length≤j):(zs++ws).getD j 0=ws.getD (j-zs.length) 0:=by
  rw[List.getD_eq_getElem?_getD,List.getElem?_append_right h,←List.getD_eq_getElem?_getD]
theorem XX {f:Nat→Nat}{zs:List Nat}{j:Nat}(h:j<zs.length):(zs.map f).getD j 0=f (zs.getD j 0):=by
  simp[List.getD,h]
theorem VC (hi:i<xs.length){j:Nat}(h:j≤i):(ZN xs ys i k).getD j 0=xs.getD (i-j) 0:=by
  unfold ZN
  cases j with
  | zero=>simp
  | succ j =>
    rw[List.getD_cons_succ]
    have hl:(xs.take i).length=i:=by rw[List.length_take];omega
    rw[JO (by rw[List.length_reverse];omega),Gr (by omega),hl,V9 (by omega)]
    congr 1
    omega
theorem UW (hi:i<xs.length)(hk:k<ys.length){j:Nat}(h:j<k):(ZN xs ys i k).getD (1+i+j) 0=ys.getD j 0:=by
  unfold ZN
  rw[show 1+i+j=(i+j)+1 by omega,List.getD_cons_succ]
  have hl:(xs.take i).length=i:=by rw[List.length_take];omega
  rw[Yd (by rw[List.length_reverse];omega),List.length_reverse,hl,show i+j-i=j by omega,V9 h]
theorem zc5 (hi:i<xs.length){j:Nat}(h:j<i):(qz l e xs ys i k).getD j 0=(l.byE (xs.getD (i-1-j) 0)).getD 0:=by
  unfold qz
  have hl:(xs.take i).length=i:=by rw[List.length_take];omega
  rw[JO (by rw[List.length_map,List.length_reverse];omega),XX (by rw[List.length_reverse];omega),Gr (by omega),hl,V9 (by omega)]
theorem zc4 (hi:i<xs.length):(qz l e xs ys i k).getD i 0=e:=by
  unfold qz
  have hl:(xs.take i).length=i:=by rw[List.length_take];omega
  rw[Yd (by rw[List.length_map,List.length_reverse];omega),List.length_map,List.length_reverse,hl,Nat.sub_self]
  rfl
theorem zc6 (hi:i<xs.length)(hk:k<ys.length){j:Nat}(h:j<k):(qz l e xs ys i k).getD (1+i+j) 0=(l.byE (ys.getD j 0)).getD 0:=by
  unfold qz
  have hl:(xs.take i).length=i:=by rw[List.length_take];omega
  rw[Yd (by rw[List.length_map,List.length_reverse];omega),List.length_map,List.length_reverse,hl,show 1+i+j-i=j+1 by omega,List.getD_cons_succ,XX (by rw[List.length_take];omega),V9 h]
theorem UG (F:Fo es s l rk)(K:Ok es s)(h0:l.lab t≠0)(h:l.ahead t=some o):Jn es s ((l.byE t).getD 0) o t∧Ze es s ((l.byE t).getD 0):=by
  have h2:=F.two t
  by_cases q:l.lab t=1
  · obtain⟨_,_,f,i3,_,i5,i6⟩:=F.even t o q h
    rw[i5];exact⟨i6,(K.mate t f (F.top t h0) i3).1⟩
  · obtain⟨a,e,_,_,i1,_,_,i4,i5,i6,_⟩:=F.odd t (by omega)
    rw[h] at i1;cases i1;rw[i4];exact⟨i5,i6⟩
theorem uY.links (M:uY es s l rk e xs ys i k)(K:Ok es s):∀j,j<1+i+k→Jn es s ((qz l e xs ys i k).getD j 0) ((ZN xs ys i k).getD j 0) ((ZN xs ys i k).getD ((j+1)%(1+i+k)) 0)∧Ze es s ((qz l e xs ys i k).getD j 0):=by
  intro j hj;have hi:=M.hi;have hk:=M.hk;rcases Nat.lt_trichotomy j i with q | q | q
  · rw[zc5 hi q,VC hi (by omega),Nat.mod_eq_of_lt (by omega),VC hi (by omega)]
    have hn:=qf (j:=i-1-j) M.wx (by omega)
    have hl:=ZA M.F M.wx M.x0 (i-1-j) (by omega)
    rw[show i-1-j+1=i-j by omega] at hn
    rw[show i-(j+1)=i-1-j by omega]
    exact UG M.F K (by omega) hn
  · subst q
    rw[zc4 hi,VC hi (Nat.le_refl _),Nat.sub_self];refine⟨?_,M.tight⟩
    by_cases k0:k=0
    · subst k0
      rw[show (j+1)%(1+j+0)=0 by rw[show 1+j+0=j+1 by omega];exact Nat.mod_self _,VC hi (Nat.zero_le _),Nat.sub_zero,M.joint]
      exact M.cn
    · rw[Nat.mod_eq_of_lt (by omega),show j+1=1+j+0 by omega,UW hi hk (by omega)]
      exact M.cn
  · obtain⟨t,rfl⟩:∃t,j=1+i+t:=⟨j-(1+i),by omega⟩
    have ht:t<k:=by omega
    rw[zc6 hi hk ht,UW hi hk ht]
    have hn:=qf (j:=t) M.wy (by omega)
    have hl:=ZA M.F M.wy M.y0 t (by omega)
    obtain⟨h1,h2⟩:=UG M.F K (by omega) hn
    refine⟨?_,h2⟩
    by_cases tk:t+1=k
    · rw[show 1+i+t+1=1+i+k by omega,Nat.mod_self,VC hi (Nat.zero_le _),Nat.sub_zero,M.joint,←tk]
      exact h1.symm
    · rw[Nat.mod_eq_of_lt (by omega),show 1+i+t+1=1+i+(t+1) by omega,UW hi hk (by omega)]
      exact h1.symm
theorem uY.inM (M:uY es s l rk e xs ys i k){m:Nat}:m∈ZN xs ys i k↔(∃j,j≤i∧m=xs.getD j 0)∨∃j,j<k∧m=ys.getD j 0:=by
  have hi:=M.hi;have hk:=M.hk;constructor
  · intro h
    obtain⟨j,hj,rfl⟩:=Zv (d:=0) h;rw[ub hi hk] at hj
    by_cases q:j≤i
    · exact .inl ⟨i-j,by omega,VC hi q⟩
    · obtain⟨t,rfl⟩:∃t,j=1+i+t:=⟨j-(1+i),by omega⟩
      exact .inr ⟨t,by omega,UW hi hk (by omega)⟩
  · rintro (⟨j,hj,rfl⟩ | ⟨j,hj,rfl⟩)
    · have:=VC (ys:=ys) (k:=k) hi (j:=i-j) (by omega)
      rw[show i-(i-j)=j by omega] at this
      rw[←this]
      exact zw (by rw[ub hi hk];omega)
    · rw[←UW hi hk hj]
      exact zw (by rw[ub hi hk];omega)
theorem uY.member (M:uY es s l rk e xs ys i k){m:Nat}(h:m∈ZN xs ys i k):zc s m∧l.lab m≠0∧rk (xs.getD i 0)≤rk m:=by
  have hi:=M.hi;have hk:=M.hk;rcases M.inM.1 h with⟨j,hj,rfl⟩ | ⟨j,hj,rfl⟩
  · have hl:=ZA M.F M.wx M.x0 j (by omega)
    refine⟨M.F.top _ (by omega),by omega,?_⟩
    by_cases q:j=i
    · rw[q];exact Nat.le_refl _
    · exact Nat.le_of_lt (xZ M.F M.wx M.x0 (by omega) hi)
  · have hl:=ZA M.F M.wy M.y0 j (by omega)
    refine⟨M.F.top _ (by omega),by omega,?_⟩
    rw[M.joint];exact Nat.le_of_lt (xZ M.F M.wy M.y0 hj hk)
theorem uY.nodup (M:uY es s l rk e xs ys i k):(ZN xs ys i k).Nodup:=by
  have hi:=M.hi;have hk:=M.hk;rw[List.nodup_iff_pairwise_ne,List.pairwise_iff_getElem];intro p q hp hq hpq he;rw[ub hi hk] at hp hq
  have e':(ZN xs ys i k).getD p 0=(ZN xs ys i k).getD q 0:=by simpa[List.getD,ub hi hk,hp,hq] using he
  by_cases q1:q≤i
  · rw[VC hi (by omega),VC hi q1] at e'
    have:=U3 M.F M.wx M.x0 (by omega) (by omega) e'
    omega
  · obtain⟨t,rfl⟩:∃t,q=1+i+t:=⟨q-(1+i),by omega⟩
    rw[UW hi hk (by omega)] at e'
    by_cases p1:p≤i
    · rw[VC hi p1] at e'
      by_cases p0:p=0
      · subst p0
        rw[Nat.sub_zero,M.joint] at e'
        have:=U3 M.F M.wy M.y0 hk (by omega) e'
        omega
      · exact M.first (i-p) (by omega) (by rw[e'];exact zw (by omega))
    · obtain⟨u,rfl⟩:∃u,p=1+i+u:=⟨p-(1+i),by omega⟩
      rw[UW hi hk (by omega)] at e'
      have:=U3 M.F M.wy M.y0 (by omega) (by omega) e'
      omega
theorem uY.mates (M:uY es s l rk e xs ys i k)(K:Ok es s){m f c:Nat}(h:m∈ZN xs ys i k)(hj:m≠xs.getD i 0)(hm:s.mate m=some f)(hc:zc s c)(hmc:s.mate c=some f):c∈ZN xs ys i k:=by
  have hi:=M.hi;have hk:=M.hk;obtain⟨e1,e2⟩:=M.even K
  have key:∀zs:List Nat,∀n,qc l zs→l.lab (zs.getD 0 0)=1→n<zs.length→n%2=0→∀j,j<n→m=zs.getD j 0→∃j',j'<n∧c=zs.getD j' 0:=fun zs n wz z0 hn n2 j hj' em=>by
    have hl:=ZA M.F wz z0
    by_cases p:j%2=0
    · -- an even one: its mate is the next
      have l1:=hl j (by omega)
      have nx:=qf (j:=j) wz (by omega)
      obtain⟨_,_,f1,a1,a2,_,_⟩:=M.F.even _ _ (show l.lab (zs.getD j 0)=1 by omega) nx
      rw[←em,hm] at a1;cases a1
      have l2:=hl (j+1) (by omega)
      have t2:zc s (zs.getD (j+1) 0):=M.F.top _ (by omega)
      rcases K.mate2 (M.member h).1 t2 hc hm a2 hmc (fun q=>by rw[q,em] at l2;omega) with q | q
      · exact⟨j,hj',by rw[q,em]⟩
      · exact⟨j+1,by omega,q⟩
    · -- an odd one: its mate is the one before
      have l1:=hl (j-1) (by omega)
      have l2:=hl j (by omega)
      have nx:=qf (j:=j-1) wz (by omega)
      rw[show j-1+1=j by omega] at nx
      obtain⟨_,_,f1,a1,a2,_,_⟩:=M.F.even _ _ (show l.lab (zs.getD (j-1) 0)=1 by omega) nx
      rw[←em,hm] at a2;cases a2
      have t2:zc s (zs.getD (j-1) 0):=M.F.top _ (by omega)
      rcases K.mate2 (M.member h).1 t2 hc hm a1 hmc (fun q=>by rw[q,em] at l1;omega) with q | q
      · exact⟨j,hj',by rw[q,em]⟩
      · exact⟨j-1,by omega,q⟩
  rcases M.inM.1 h with⟨j,hji,em⟩ | ⟨j,hjk,em⟩
  · have hji':j<i:=by
      rcases Nat.lt_or_ge j i with q | q
      · exact q
      · exfalso;exact hj (by rw[em,show j=i by omega])
    obtain⟨j',h1,h2⟩:=key xs i M.wx M.x0 hi e1 j hji' em
    exact M.inM.2 (.inl ⟨j',by omega,h2⟩)
  · obtain⟨j',h1,h2⟩:=key ys k M.wy M.y0 hk e2 j hjk em
    exact M.inM.2 (.inr ⟨j',h1,h2⟩)
end
def zU (s:Sv)(ms ls:List Nat)(j:Nat):Sv where
  n:=s.n
  N:=s.N+1
  y:=s.y
  up:=fun v=>if v∈ms then some s.N else if v=s.N then none else s.up v
  mem:=fun p=>if p=s.N then ms else s.mem p
  lnk:=fun p=>if p=s.N then ls else s.lnk p
  mate:=fun t=>if t=s.N then s.mate j else if t∈ms then none else s.mate t
  base:=fun t=>if t=s.N then s.base j else s.base t
  z:=fun p=>if p=s.N then 0 else s.z p
  gone:=fun p=>if p=s.N then false else s.gone p
structure QJ (es:List E)(s:Sv)(ms ls:List Nat)(j:Nat):Prop where
  top:∀m∈ms,zc s m
  jm:j∈ms
  len:3≤ms.length∧ms.length%2=1
  nd:ms.Nodup
  ll:ls.length=ms.length
  lnk:∀i,i<ms.length→Jn es s (ls.getD i 0) (ms.getD i 0) (ms.getD ((i+1)%ms.length) 0)∧Ze es s (ls.getD i 0)
  mates:∀m f c,m∈ms→m≠j→s.mate m=some f→zc s c→s.mate c=some f→c∈ms
  full:∀m∈ms,m≠j→(s.mate m).isSome=true
  out:∀f c,s.mate j=some f→zc s c→c≠j→s.mate c=some f→¬c∈ms
section
variable {es:List E}{s:Sv}{ms ls:List Nat}{j u v t e p:Nat}
theorem U4 (K:Ok es s)(R:QJ es s ms ls j)(hu:u<s.N):Wi (zU s ms ls j) u v↔Wi s u v∨(v=s.N∧∃m∈ms,Wi s u m):=by
  constructor
  · intro h
    induction h with
    | refl=>exact .inl (.refl _)
    | step e k ih =>
      rename_i a b c
      simp only[zU] at e
      by_cases hm:a∈ms
      · rw[if_pos hm] at e
        cases e
        cases k with
        | refl=>exact .inr ⟨rfl,a,hm,.refl _⟩
        | step e2 _ =>
          simp only[zU] at e2
          rw[if_neg (fun q=>by have:=(R.top _ q).1;omega),if_pos trivial] at e2
          cases e2
      · rw[if_neg hm,if_neg (by omega)] at e
        have hb:=(K.upOk _ _ e).2;rcases ih hb with q | ⟨q,m,hm2,q2⟩
        · exact .inl (.step e q)
        · exact .inr ⟨q,m,hm2,.step e q2⟩
  · have lift:∀ {u v},Wi s u v→u<s.N→Wi (zU s ms ls j) u v:=fun h hu=>by
      induction h with
      | refl=>exact .refl _
      | step e k ih =>
        rename_i a b c
        have hb:=(K.upOk _ _ e).2;refine .step ?_ (ih hb);simp only[zU]
        rw[if_neg (fun q=>by have:=(R.top _ q).2.1;rw[e] at this;cases this),if_neg (by omega)]
        exact e
    rintro (h | ⟨rfl,m,hm,h⟩)
    · exact lift h hu
    · exact (lift h hu).trans (.one (by simp only[zU];rw[if_pos hm]))
theorem WJ (K:Ok es s)(R:QJ es s ms ls j)(hu:u<s.N)(hv:v<s.N):Wi (zU s ms ls j) u v↔Wi s u v:=by
  rw[U4 K R hu]
  exact⟨fun h=>h.elim id fun q=>absurd q.1 (by omega),.inl⟩
theorem FE (K:Ok es s)(R:QJ es s ms ls j)(hu:u<s.N):Wi (zU s ms ls j) u s.N↔∃m∈ms,Wi s u m:=by
  rw[U4 K R hu];constructor
  · rintro (h | ⟨_,h⟩)
    · have:=h.lt K.upOk hu;omega
    · exact h
  · exact fun h=>.inr ⟨rfl,h⟩
theorem Fv (K:Ok es s)(R:QJ es s ms ls j)(he:e<es.length):slk es (zU s ms ls j) e=slk es s e:=by
  have h1:=K.ed e he;have hN:=K.nN;unfold slk
  have hz:qJ (zU s ms ls j) (vA es e) (vB es e) (s.N+1)=qJ s (vA es e) (vB es e) s.N:=by
    have e2:qJ (zU s ms ls j) (vA es e) (vB es e) (s.N+1)=qJ (zU s ms ls j) (vA es e) (vB es e) s.N:=by
      show qJ _ _ _ s.N+_=_
      have:(zU s ms ls j).z s.N=0:=by simp[zU]
      rw[this];simp
    rw[e2]
    refine jo _ (fun p hp _=>⟨?_,fun _ _=>?_⟩) rfl
    · rw[WJ K R (by omega) hp,WJ K R (by omega) hp]
    · simp only[zU];rw[if_neg (by omega)]
  show s.y _+s.y _-_+qJ _ _ _ (s.N+1)=_;rw[hz]
theorem ue (K:Ok es s)(R:QJ es s ms ls j)(h:Jn es s e u v)(ht:Ze es s e):Ze es (zU s ms ls j) e:=by
  unfold Ze at *;rw[Fv K R h.1];exact ht
theorem JJ (K:Ok es s)(R:QJ es s ms ls j)(h:Jn es s e u v):Jn es (zU s ms ls j) e u v:=by
  have h1:=K.ed e h.1;have hN:=K.nN;refine⟨h.1,?_⟩;rcases h.2 with⟨a,b⟩ | ⟨a,b⟩
  · exact .inl ⟨(U4 K R (by omega)).2 (.inl a),(U4 K R (by omega)).2 (.inl b)⟩
  · exact .inr ⟨(U4 K R (by omega)).2 (.inl a),(U4 K R (by omega)).2 (.inl b)⟩
theorem KY (K:Ok es s)(R:QJ es s ms ls j){m:Nat}(hm:m∈ms):Wi (zU s ms ls j) m s.N:=.one (by simp only[zU];rw[if_pos hm])
theorem Z3 (K:Ok es s)(R:QJ es s ms ls j):zc (zU s ms ls j) t↔t=s.N∨(zc s t∧¬t∈ms):=by
  have hN:¬s.N∈ms:=fun q=>by have:=(R.top _ q).1;omega
  constructor
  · rintro⟨h1,h2,h3⟩
    by_cases q:t=s.N
    · exact .inl q
    · simp only[zU] at h1 h2 h3
      by_cases hm:t∈ms
      · rw[if_pos hm] at h2;cases h2
      · rw[if_neg hm,if_neg q] at h2
        rw[if_neg q] at h3
        exact .inr ⟨⟨by omega,h2,h3⟩,hm⟩
  · rintro (rfl | ⟨⟨h1,h2,h3⟩,hm⟩)
    · refine⟨Nat.lt_succ_self _,?_,?_⟩
      · simp only[zU];rw[if_neg hN,if_pos trivial]
      · simp only[zU];rw[if_pos trivial]
    · refine⟨Nat.lt_succ_of_lt h1,?_,?_⟩
      · simp only[zU];rw[if_neg hm,if_neg (by omega)];exact h2
      · simp only[zU];rw[if_neg (by omega)];exact h3
theorem Wb:zg (zU s ms ls j) p↔(p=s.N∧s.n≤s.N)∨zg s p:=by
  unfold zg;simp only[zU]
  by_cases q:p=s.N
  · subst q
    rw[if_pos rfl];constructor
    · exact fun h=>.inl ⟨rfl,h.1⟩
    · rintro (h | h)
      · exact⟨h.2,by omega,rfl⟩
      · omega
  · rw[if_neg q]
    constructor
    · exact fun h=>.inr ⟨h.1,by omega,h.2.2⟩
    · rintro (h | h)
      · exact absurd h.1 q
      · exact⟨h.1,by omega,h.2.2⟩
theorem Ok.par1 (K:Ok es s)(ht:t<s.N)(hg:s.gone t=false){u v:Nat}(hu:u<s.n)(hv:v<s.n)(h1:Wi s u t)(h2:Wi s v t):s.y u%2=s.y v%2:=by
  rcases Nat.lt_or_ge t s.n with q | q
  · -- a vertex
    have key:∀ {x},Wi s x t→x=t:=fun h=>by
      rcases h.last with e | ⟨m,e,_⟩
      · exact e
      · have:=(K.up _ _ e).2.1.1;omega
    rw[key h1,key h2]
  · exact K.par t u v ⟨q,ht,hg⟩ hu hv h1 h2
theorem kB (K:Ok es s){a b x w:Nat}(hc:Jn es s e a b)(ht:Ze es s e)(ha:zc s a)(hb:zc s b)(hab:a≠b)(hx:x<s.n)(hw:w<s.n)(h1:Wi s x a)(h2:Wi s w b):s.y x%2=s.y w%2:=by
  have hed:=K.ed e hc.1
  have hne:top s (vA es e)≠top s (vB es e):=by
    rcases hc.tops K ha hb with⟨q1,q2⟩ | ⟨q1,q2⟩
    · rw[q1,q2];exact hab
    · rw[q1,q2];exact Ne.symm hab
  have hs:=kg (es:=es) (s:=s) (e:=e) K hne;unfold Ze at ht;rw[ht] at hs;rcases hc.2 with⟨q1,q2⟩ | ⟨q1,q2⟩
  · have p1:=K.par1 ha.1 ha.2.2 hx hed.1 h1 q1
    have p2:=K.par1 hb.1 hb.2.2 hw hed.2.1 h2 q2;omega
  · have p1:=K.par1 ha.1 ha.2.2 hx hed.2.1 h1 q1
    have p2:=K.par1 hb.1 hb.2.2 hw hed.1 h2 q2;omega
theorem VL (K:Ok es s):∀(t:Nat),t<s.N→s.gone t=false→∃v,v<s.n∧Wi s v t:=by
  intro t
  induction t using Nat.strongRecOn with
  | _ t ih =>
    intro ht hg;rcases Nat.lt_or_ge t s.n with q | q
    · exact⟨t,q,.refl _⟩
    · obtain⟨r1,_,_,r4⟩:=K.ring t ⟨q,ht,hg⟩
      have hm:(s.mem t).getD 0 0∈s.mem t:=zw (by omega)
      have hup:=r4 _ hm;obtain⟨u1,_,u3,_⟩:=K.up _ _ hup
      obtain⟨v,h1,h2⟩:=ih _ u1 (by omega) u3
      exact⟨v,h1,h2.trans (.one hup)⟩
theorem zbl (K:Ok es s)(R:QJ es s ms ls j){x w:Nat}(hx:x<s.n)(hw:w<s.n){a b:Nat}(ha:a∈ms)(hb:b∈ms)(h1:Wi s x a)(h2:Wi s w b):s.y x%2=s.y w%2:=by
  have hlen:=R.len.1
  have key:∀i,i<ms.length→∀x w,x<s.n→w<s.n→Wi s x (ms.getD 0 0)→Wi s w (ms.getD i 0)→s.y x%2=s.y w%2:=by
    intro i
    induction i with
    | zero =>
      intro hi x w hx hw h1 h2;have ht:=R.top _ (zw hi);exact K.par1 ht.1 ht.2.2 hx hw h1 h2
    | succ i ih =>
      intro hi x w hx hw h1 h2
      have t1:=R.top _ (zw (show i<ms.length by omega))
      have t2:=R.top _ (zw hi);obtain⟨v,hv,h3⟩:=VL K _ t1.1 t1.2.2
      obtain⟨l1,l2⟩:=R.lnk i (by omega)
      rw[Nat.mod_eq_of_lt hi] at l1
      have hne:ms.getD i 0≠ms.getD (i+1) 0:=fun q=>by
        have hp:=(List.pairwise_iff_getElem.1 (List.nodup_iff_pairwise_ne.1 R.nd)) i (i+1) (by omega) hi (by omega)
        exact hp (by simpa[List.getD,hi,show i<ms.length by omega] using q)
      rw[ih (by omega) x v hx hv h1 h3]
      exact kB K l1 l2 t1 t2 hne hv hw h3 h2
  obtain⟨p,hp,rfl⟩:=Zv (d:=0) ha;obtain⟨q,hq,rfl⟩:=Zv (d:=0) hb
  have t0:=R.top _ (zw (show 0<ms.length by omega))
  obtain⟨v,hv,h3⟩:=VL K _ t0.1 t0.2.2;rw[←key p hp v x hv hx h3 h1,←key q hq v w hv hw h3 h2]
theorem yu (K:Ok es s)(R:QJ es s ms ls j):Ok es (zU s ms ls j):=by
  have hNm:¬s.N∈ms:=fun q=>by have:=(R.top _ q).1;omega
  have hN:=K.nN
  refine⟨by simp only[zU];omega,K.ed,fun v p h=>?_,fun p hp=>?_,fun p hp=>?_,fun p hp=>?_,fun t e ht hm=>?_,fun t ht hm=>?_,fun p hp=>?_,fun e he=>by rw[Fv K R he];exact K.feas e he,fun p hp=>?_,fun p u v hp hu hv h1 h2=>?_⟩
  · simp only[zU] at h
    by_cases hm:v∈ms
    · rw[if_pos hm] at h
      cases h;have ht:=R.top _ hm;refine⟨ht.1,Wb.2 (.inl ⟨rfl,hN⟩),?_,?_⟩
      · simp only[zU];rw[if_neg (by have:=ht.1;omega)];exact ht.2.2
      · simp only[zU];rw[if_pos trivial];exact hm
    · rw[if_neg hm] at h
      by_cases q:v=s.N
      · rw[if_pos q] at h;cases h
      · rw[if_neg q] at h
        obtain⟨h1,h2,h3,h4⟩:=K.up v p h
        have hpN:p≠s.N:=by have:=h2.2.1;omega
        refine⟨h1,Wb.2 (.inr h2),?_,?_⟩
        · simp only[zU];rw[if_neg q];exact h3
        · simp only[zU];rw[if_neg hpN];exact h4
  · rcases Wb.1 hp with⟨rfl,_⟩ | hp
    · simp only[zU,if_true]
      exact⟨R.len.1,R.len.2,R.nd,fun v hv=>if_pos hv⟩
    · have hpN:p≠s.N:=by have:=hp.2.1;omega
      obtain⟨h1,h2,h3,h4⟩:=K.ring p hp;simp only[zU];rw[if_neg hpN]
      refine⟨h1,h2,h3,fun v hv=>?_⟩
      have hu:=h4 v hv
      rw[if_neg (fun q=>by have:=(R.top _ q).2.1;rw[hu] at this;cases this),if_neg (fun q=>by have:=(K.up v p hu).1;have:=hp.2.1;omega)]
      exact hu
  · rcases Wb.1 hp with⟨rfl,_⟩ | hp
    · have e1:(zU s ms ls j).lnk s.N=ls:=by simp[zU]
      have e2:(zU s ms ls j).mem s.N=ms:=by simp[zU]
      rw[e1,e2]
      exact⟨R.ll,fun i hi=>⟨JJ K R (R.lnk i hi).1,ue K R (R.lnk i hi).1 (R.lnk i hi).2⟩⟩
    · have hpN:p≠s.N:=by have:=hp.2.1;omega
      have e1:(zU s ms ls j).lnk p=s.lnk p:=by simp[zU,hpN]
      have e2:(zU s ms ls j).mem p=s.mem p:=by simp[zU,hpN]
      rw[e1,e2];obtain⟨h1,h2⟩:=K.lnk p hp
      exact⟨h1,fun i hi=>⟨JJ K R (h2 i hi).1,ue K R (h2 i hi).1 (h2 i hi).2⟩⟩
  · simp only[zU] at hp ⊢
    by_cases q:p=s.N
    · rw[if_pos q] at hp;cases hp
    · rw[if_neg q] at hp
      obtain⟨h1,h2⟩:=K.gone p hp;refine⟨h1,?_⟩
      rw[if_neg (fun k=>by have:=(R.top _ k).2.2;rw[hp] at this;cases this),if_neg q]
      exact h2
  · -- mates
    rcases (Z3 K R).1 ht with rfl | ⟨ht,hn⟩
    · have hm':s.mate j=some e:=by simpa[zU] using hm
      have hjt:=R.top _ R.jm;obtain⟨h1,o,h2,h3,h4,h5⟩:=K.mate j e hjt hm';have hout:=R.out e o hm' h2 h3 h4
      refine⟨ue K R h5 h1,o,(Z3 K R).2 (.inr ⟨h2,hout⟩),by have:=h2.1;omega,?_,?_⟩
      · simp only[zU];rw[if_neg (by have:=h2.1;omega),if_neg hout];exact h4
      · exact (JJ K R h5).wide (KY K R R.jm) (.refl _)
    · have htN:t≠s.N:=by have:=ht.1;omega
      have hm':s.mate t=some e:=by
        simp only[zU] at hm;rw[if_neg htN,if_neg hn] at hm;exact hm
      obtain⟨h1,o,h2,h3,h4,h5⟩:=K.mate t e ht hm'
      by_cases ho:o∈ms
      · have hoj:o=j:=by
          apply Classical.byContradiction
          intro q;exact hn (R.mates o e t ho q h4 ht hm')
        subst hoj
        refine⟨ue K R h5 h1,s.N,(Z3 K R).2 (.inl rfl),Ne.symm htN,by simpa[zU] using h4,(JJ K R h5).wide (.refl _) (KY K R ho)⟩
      · have hoN:o≠s.N:=by have:=h2.1;omega
        refine⟨ue K R h5 h1,o,(Z3 K R).2 (.inr ⟨h2,ho⟩),h3,?_,JJ K R h5⟩;simp only[zU];rw[if_neg hoN,if_neg ho];exact h4
  · by_cases q:t=s.N
    · subst q
      have hjt:=R.top _ R.jm;obtain⟨h1,h2⟩:=K.base j hjt.1 hjt.2.2
      have e1:(zU s ms ls j).base s.N=s.base j:=by simp[zU]
      rw[e1]
      exact⟨h1,((U4 K R (by omega)).2 (.inl h2)).trans (KY K R R.jm)⟩
    · have htN:t<s.N:=by simp only[zU] at ht;omega
      have hg:s.gone t=false:=by simpa[zU,q] using hm
      obtain⟨h1,h2⟩:=K.base t htN hg
      have e1:(zU s ms ls j).base t=s.base t:=by simp[zU,q]
      rw[e1]
      exact⟨h1,(U4 K R (by omega)).2 (.inl h2)⟩
  · rcases Wb.1 hp with⟨rfl,_⟩ | hp
    · have e1:(zU s ms ls j).mem s.N=ms:=by simp[zU]
      have e2:(zU s ms ls j).base s.N=s.base j:=by simp[zU]
      have e3:(zU s ms ls j).base j=s.base j:=by
        have:=(R.top _ R.jm).1
        simp only[zU];rw[if_neg (by omega)]
      rw[e1,e2];exact⟨j,R.jm,e3.symm⟩
    · have hpN:p≠s.N:=by have:=hp.2.1;omega
      obtain⟨q,h1,h2⟩:=K.baseM p hp
      have e1:(zU s ms ls j).mem p=s.mem p:=by simp[zU,hpN]
      have e2:(zU s ms ls j).base p=s.base p:=by simp[zU,hpN]
      have hq:=(K.ring p hp).2.2.2 q h1
      have hqN:q≠s.N:=by have:=(K.up q p hq).1;have:=hp.2.1;omega
      have e3:(zU s ms ls j).base q=s.base q:=by simp[zU,hqN]
      rw[e1,e2]
      exact⟨q,h1,by rw[e3];exact h2⟩
  · rcases Wb.1 hp with⟨rfl,_⟩ | hp
    · simp[zU]
    · have hpN:p≠s.N:=by have:=hp.2.1;omega
      simp only[zU];rw[if_neg hpN];exact K.z0 p hp
  · rcases Wb.1 hp with⟨rfl,_⟩ | hp
    · obtain⟨a,ha,h3⟩:=(FE K R (by have:u<s.n:=hu;omega)).1 h1
      obtain⟨b,hb,h4⟩:=(FE K R (by have:v<s.n:=hv;omega)).1 h2
      exact zbl K R hu hv ha hb h3 h4
    · have hpN:=hp.2.1
      exact K.par p u v hp hu hv ((WJ K R (by have:u<s.n:=hu;omega) hpN).1 h1) ((WJ K R (by have:v<s.n:=hv;omega) hpN).1 h2)
end
end Go.Proofs.Ytafhipglhnfgnaa.Ab
