/- Joined: K0, K3, K10, K11, K13, P3, S1, S2, S3, S4, S5. No conditions. -/
import Derived.Test.YtafhipglhnfgnaaFT
import Derived.Test.YtafhipglhnfgnaaM4
import Derived.Test.YtafhipglhnfgnaaR7
set_option linter.unusedSimpArgs false
set_option linter.unusedVariables false
set_option linter.unnecessarySimpa false
set_option maxHeartbeats 4000000
namespace Go.Proofs.Ytafhipglhnfgnaa.Ab
open Go.RowKit
section
variable {X:CallF}
theorem k_impl_in {h:Heap} {n lo hi:Int}:C T X n_impl_in [.int .i64 n,.int .i64 lo,.int .i64 hi] h=some (.bool (decide (lo≤n) && decide (n≤hi)),h):=by
  refine C_intro T X t_impl_in rfl ?_;unfold F_impl_in start;simp only [go_sem]
  repeat (first | (refine w_any (by simp only [*,go_sem];rfl) ?_ ?_<;>intro hc<;>(try simp only [decide_eq_true_eq,decide_eq_false_iff_not,Decidable.not_not] at hc)<;>simp only [hc,go_sem]) | (refine so_any (by simp only [*,go_sem];rfl) ?_ ?_<;>intro hc<;>(try simp only [decide_eq_true_eq,decide_eq_false_iff_not,Decidable.not_not] at hc)<;>simp only [hc,go_sem]) | (refine so_any' (by simp only [*,go_sem];rfl) ?_ ?_<;>intro hc<;>(try simp only [decide_eq_true_eq,decide_eq_false_iff_not,Decidable.not_not] at hc)<;>simp only [hc,go_sem]) | (refine sf_any (by simp only [*,go_sem];rfl) ?_ ?_<;>intro hc<;>(try simp only [decide_eq_true_eq,decide_eq_false_iff_not,Decidable.not_not] at hc)<;>simp only [hc,go_sem]) | (refine sf_any' (by simp only [*,go_sem];rfl) ?_ ?_<;>intro hc<;>(try simp only [decide_eq_true_eq,decide_eq_false_iff_not,Decidable.not_not] at hc)<;>simp only [hc,go_sem]))
  all_goals (refine rets_slot rfl (.inl rfl) rfl ?_;simp only [*,go_sem,finish_same])
theorem k_spec_l01In {h:Heap} {n lo hi:Int}:C T X n_spec_l01In [.int .i64 n,.int .i64 lo,.int .i64 hi] h=some (.bool (decide (lo≤n) && decide (n≤hi)),h):=by
  refine C_intro T X t_spec_l01In rfl ?_;unfold F_spec_l01In start;simp only [go_sem]
  repeat (first | (refine w_any (by simp only [*,go_sem];rfl) ?_ ?_<;>intro hc<;>(try simp only [decide_eq_true_eq,decide_eq_false_iff_not,Decidable.not_not] at hc)<;>simp only [hc,go_sem]) | (refine so_any (by simp only [*,go_sem];rfl) ?_ ?_<;>intro hc<;>(try simp only [decide_eq_true_eq,decide_eq_false_iff_not,Decidable.not_not] at hc)<;>simp only [hc,go_sem]) | (refine so_any' (by simp only [*,go_sem];rfl) ?_ ?_<;>intro hc<;>(try simp only [decide_eq_true_eq,decide_eq_false_iff_not,Decidable.not_not] at hc)<;>simp only [hc,go_sem]) | (refine sf_any (by simp only [*,go_sem];rfl) ?_ ?_<;>intro hc<;>(try simp only [decide_eq_true_eq,decide_eq_false_iff_not,Decidable.not_not] at hc)<;>simp only [hc,go_sem]) | (refine sf_any' (by simp only [*,go_sem];rfl) ?_ ?_<;>intro hc<;>(try simp only [decide_eq_true_eq,decide_eq_false_iff_not,Decidable.not_not] at hc)<;>simp only [hc,go_sem]))
  all_goals (refine rets_slot rfl (.inl rfl) rfl ?_;simp only [*,go_sem,finish_same])
end
end Go.Proofs.Ytafhipglhnfgnaa.Ab
set_option linter.unusedSimpArgs false
set_option linter.unusedVariables false
set_option linter.unnecessarySimpa false
set_option maxHeartbeats 4000000
namespace Go.Proofs.Ytafhipglhnfgnaa.Ab
open Go.RowKit
def EOk (size:Int) (e:E):Prop:=0≤e.a∧e.a < e.b∧e.b < size∧0≤e.w1∧e.w1≤50∧0≤e.w2∧e.w2≤50∧0≤e.w3∧e.w3≤50
def ELt (p e:E):Prop:=p.a < e.a∨p.a=e.a∧p.b < e.b
def GOk (size:Int) (l:List E):Prop:=(0≤size∧size≤9)∧∀ i,i < l.length→EOk size (l.getD i e0)∧(0 < i→ELt (l.getD (i - 1) e0) (l.getD i e0))
def graphV (size:Int) (ev:Value):Value:=.agg ⟨[.int .i64 size,ev]⟩
section
variable {X:CallF} {h:Heap} {size:Int} {ev:Value} {l:List E}
theorem k_spec_l08Worth {n:Int}:C T X n_spec_l08Worth [.int .i64 n] h=some (.bool (decide (0≤n) && decide (n≤50)),h):=by
  refine C_go t_spec_l08Worth rfl ?_;unfold F_spec_l08Worth;simp only [k_spec_l01In,go_sem]
set_option maxHeartbeats 4000000 in
open Classical in
theorem k_spec_GraphOk (he:Rows h 5 ev (edges l)) (hl:l.length≤lim):C T X n_spec_GraphOk [graphV size ev] h=some (.bool (decide (GOk size l)),h):=by
  unfold lim at hl;refine C_go t_spec_GraphOk rfl ?_;unfold F_spec_GraphOk graphV;simp only [k_spec_l01In,go_sem]
  refine w_any (by simp only [go_sem];rfl) ?_ ?_<;>intro hc<;>simp only [go_sem]
  · have:¬ GOk size l:=fun g=>by
      have:=g.1;simp at hc;omega
    simp only [this,go_sem]
  have hs:0≤size∧size≤9:=by simpa using hc
  refine w_for l.length (fun i t loc h'=>h'=h∧loc 1=some [.int .i64 size,ev]∧t 3=.int .i64 i∧∀ j,j < i→EOk size (l.getD j e0)∧(0 < j→ELt (l.getD (j - 1) e0) (l.getD j e0)))
    ⟨rfl,rfl,rfl,fun j hj=>by omega⟩ ?_
  rintro i t loc h' hi ⟨rfl,l1,t3,hall⟩;simp only [l1,t3,he.lnm,go_sem]
  refine w_open (by simp only [l1,t3,go_sem];rfl) ?_ ?_<;>intro hc
  · have hi1:i < l.length:=by omega
    have hneg:¬ (EOk size (l.getD i e0)∧(0 < i→ELt (l.getD (i - 1) e0) (l.getD i e0)))→¬ GOk size l:=fun hn g=>hn (g.2 i hi1)
    have hnext:(EOk size (l.getD i e0)∧(0 < i→ELt (l.getD (i - 1) e0) (l.getD i e0)))→∀ j,j < i+1→EOk size (l.getD j e0)∧(0 < j→ELt (l.getD (j - 1) e0) (l.getD j e0)):=fun hy j hj=>by
      by_cases e:j=i
      · subst e;exact hy
      · exact hall j (by omega)
    have hw:IntKind.i64.wrap ((i:Int)+1)=((i+1:Nat):Int):=w64 (by omega) (by omega)
    by_cases hE:EOk size (l.getD i e0)
    · obtain ⟨q1,q2,q3,q4,q5,q6,q7,q8,q9⟩:=hE
      have p1:¬ (l.getD i e0).a < 0:=by omega
      have p2:¬ (l.getD i e0).b≤(l.getD i e0).a:=by omega
      have p3:¬ size≤(l.getD i e0).b:=by omega
      have hE:EOk size (l.getD i e0):=⟨q1,q2,q3,q4,q5,q6,q7,q8,q9⟩;rcases Nat.eq_zero_or_pos i with hz | hp
      · have hz':¬ (0:Int) < i:=by omega
        simp only [l1,t3,edge_el he hi1,k_spec_l01In,k_spec_l08Worth,p1,p2,p3,q4,q5,q6,q7,q8,q9,hz',hw,go_sem]
        exact ⟨hi1,hnext ⟨hE,fun hp=>by omega⟩⟩
      · have hp':(0:Int) < i:=by omega
        have hw1:IntKind.i64.wrap ((i:Int) - 1)=((i - 1:Nat):Int):=by rw [w64 (by omega) (by omega)];omega
        have hi2:i - 1 < l.length:=by omega
        simp only [l1,t3,edge_el he hi1,k_spec_l01In,k_spec_l08Worth,p1,p2,p3,q4,q5,q6,q7,q8,q9,hp',hw,hw1,edge_el he hi2,go_sem]
        repeat' (first | (refine w_any (by simp only [l1,t3,hp',hw,hw1,edge_el he hi2,go_sem];rfl) ?_ ?_<;>intro hc<;>(try simp only [decide_eq_true_eq,decide_eq_false_iff_not,Decidable.not_not,Bool.not_eq_true',Bool.not_eq_false'] at hc)<;>simp only [hc,l1,t3,hp',hw,hw1,edge_el he hi2,go_sem]) | (refine so_any (by simp only [l1,t3,hp',hw,hw1,edge_el he hi2,go_sem];rfl) ?_ ?_<;>intro hc<;>(try simp only [decide_eq_true_eq,decide_eq_false_iff_not,Decidable.not_not,Bool.not_eq_true',Bool.not_eq_false'] at hc)<;>simp only [hc,l1,t3,hp',hw,hw1,edge_el he hi2,go_sem]) | (refine so_any' (by simp only [l1,t3,hp',hw,hw1,edge_el he hi2,go_sem];rfl) ?_ ?_<;>intro hc<;>(try simp only [decide_eq_true_eq,decide_eq_false_iff_not,Decidable.not_not,Bool.not_eq_true',Bool.not_eq_false'] at hc)<;>simp only [hc,l1,t3,hp',hw,hw1,edge_el he hi2,go_sem]) | (refine sf_any (by simp only [l1,t3,hp',hw,hw1,edge_el he hi2,go_sem];rfl) ?_ ?_<;>intro hc<;>(try simp only [decide_eq_true_eq,decide_eq_false_iff_not,Decidable.not_not,Bool.not_eq_true',Bool.not_eq_false'] at hc)<;>simp only [hc,l1,t3,hp',hw,hw1,edge_el he hi2,go_sem]) | (refine sf_any' (by simp only [l1,t3,hp',hw,hw1,edge_el he hi2,go_sem];rfl) ?_ ?_<;>intro hc<;>(try simp only [decide_eq_true_eq,decide_eq_false_iff_not,Decidable.not_not,Bool.not_eq_true',Bool.not_eq_false'] at hc)<;>simp only [hc,l1,t3,hp',hw,hw1,edge_el he hi2,go_sem]))
        all_goals first
          | exact (decide_eq_false (hneg (fun hx=>by have:=hx.2 hp;simp only [ELt] at this;omega))).symm
          | exact ⟨hi1,hnext ⟨hE,fun _=>by simp only [ELt];omega⟩⟩
    · have hneg':=hneg (fun hx=>hE hx.1)
      have hr:false=decide (GOk size l):=(decide_eq_false hneg').symm;simp only [l1,t3,edge_el he hi1,k_spec_l01In,k_spec_l08Worth,go_sem]
      repeat' (first | (refine w_any (by simp only [l1,t3,k_spec_l08Worth,go_sem];rfl) ?_ ?_<;>intro hc<;>(try simp only [decide_eq_true_eq,decide_eq_false_iff_not,Decidable.not_not,Bool.not_eq_true',Bool.not_eq_false'] at hc)<;>simp only [hc,l1,t3,k_spec_l08Worth,go_sem]) | (refine so_any (by simp only [l1,t3,k_spec_l08Worth,go_sem];rfl) ?_ ?_<;>intro hc<;>(try simp only [decide_eq_true_eq,decide_eq_false_iff_not,Decidable.not_not,Bool.not_eq_true',Bool.not_eq_false'] at hc)<;>simp only [hc,l1,t3,k_spec_l08Worth,go_sem]) | (refine so_any' (by simp only [l1,t3,k_spec_l08Worth,go_sem];rfl) ?_ ?_<;>intro hc<;>(try simp only [decide_eq_true_eq,decide_eq_false_iff_not,Decidable.not_not,Bool.not_eq_true',Bool.not_eq_false'] at hc)<;>simp only [hc,l1,t3,k_spec_l08Worth,go_sem]) | (refine sf_any (by simp only [l1,t3,k_spec_l08Worth,go_sem];rfl) ?_ ?_<;>intro hc<;>(try simp only [decide_eq_true_eq,decide_eq_false_iff_not,Decidable.not_not,Bool.not_eq_true',Bool.not_eq_false'] at hc)<;>simp only [hc,l1,t3,k_spec_l08Worth,go_sem]) | (refine sf_any' (by simp only [l1,t3,k_spec_l08Worth,go_sem];rfl) ?_ ?_<;>intro hc<;>(try simp only [decide_eq_true_eq,decide_eq_false_iff_not,Decidable.not_not,Bool.not_eq_true',Bool.not_eq_false'] at hc)<;>simp only [hc,l1,t3,k_spec_l08Worth,go_sem]))
      all_goals first
        | exact hr
        | exact absurd (by simp only [Bool.and_eq_true,decide_eq_true_eq] at *;simp only [EOk];omega) hE
  · have:GOk size l:=⟨hs,fun j hj=>hall j (by omega)⟩
    simp only [this,go_sem]
end
end Go.Proofs.Ytafhipglhnfgnaa.Ab
set_option linter.unusedSimpArgs false
set_option linter.unusedVariables false
set_option linter.unnecessarySimpa false
set_option maxHeartbeats 4000000
namespace Go.Proofs.Ytafhipglhnfgnaa.Ab
open Go.RowKit
abbrev Join (a b:Int) (e:E):Prop:=(e.a=a∧e.b=b)∨(e.a=b∧e.b=a)
def edgeIx (l:List E) (a b:Int):Int:=firstIx (Join a b) l
section
variable {X:CallF} {h:Heap} {a v:Value} {l:List Int} {es:List E} {n x y size:Int}
theorem k_impl_hasInt (ha:Rows h 1 a (ints l)) (hl:l.length≤lim):C T X n_impl_hasInt [a,.int .i64 n] h=some (.bool (decide (n∈l)),h):=by
  unfold lim at hl;refine C_go t_impl_hasInt rfl ?_;unfold F_impl_hasInt;simp only [ints_ln ha,go_sem]
  refine w_for l.length (fun i t loc h'=>h'=h∧t 1=.int .i64 n∧t 7=a∧t 8=.int .i64 l.length∧t 9=.int .i64 i∧∀ j,j < i→¬ l.getD j 0=n) ⟨rfl,rfl,rfl,rfl,rfl,fun j hj=>by omega⟩ ?_
  rintro i t loc h' hi ⟨rfl,t1,t7,t8,t9,hall⟩;simp only [t8,t9,go_sem]
  refine w_open (by simp only [go_sem];rfl) ?_ ?_<;>intro hc
  · have hi1:i < l.length:=by omega
    have hw:IntKind.i64.wrap ((i:Int)+1)=((i+1:Nat):Int):=w64 (by omega) (by omega)
    have hel:=int_el ha hi1
    by_cases e:l.getD i 0=n
    · have hm:n∈l:=e ▸ getD_mem hi1
      simp only [t1,t7,t8,t9,hel.1,hel.2,e,hm,go_sem]
    · simp only [t1,t7,t8,t9,hel.1,hel.2,e,hw,go_sem]
      exact ⟨hi1,below_succ hall e⟩
  · have hm:¬ n∈l:=not_mem_getD (d:=0) fun j hj=>hall j (by omega)
    simp only [hm,go_sem]
theorem k_spec_l03In (ha:Rows h 1 a (ints l)) (hl:l.length≤lim):C T X n_spec_l03In [a,.int .i64 n] h=some (.bool (decide (n∈l)),h):=by
  unfold lim at hl;refine C_go t_spec_l03In rfl ?_;unfold F_spec_l03In;simp only [go_sem]
  refine w_for l.length (fun i t loc h'=>h'=h∧t 0=a∧t 1=.int .i64 n∧t 5=.int .i64 i∧∀ j,j < i→¬ l.getD j 0=n) ⟨rfl,rfl,rfl,rfl,fun j hj=>by omega⟩ ?_
  rintro i t loc h' hi ⟨rfl,t0,t1,t5,hall⟩;simp only [t0,t5,ints_ln ha,go_sem]
  refine w_open (by simp only [go_sem];rfl) ?_ ?_<;>intro hc
  · have hi1:i < l.length:=by omega
    have hw:IntKind.i64.wrap ((i:Int)+1)=((i+1:Nat):Int):=w64 (by omega) (by omega)
    have hel:=int_el ha hi1
    by_cases e:l.getD i 0=n
    · have hm:n∈l:=e ▸ getD_mem hi1
      simp only [t0,t1,t5,hel.1,hel.2,e,hm,go_sem]
    · simp only [t0,t1,t5,hel.1,hel.2,e,hw,go_sem]
      exact ⟨hi1,below_succ hall e⟩
  · have hm:¬ n∈l:=not_mem_getD (d:=0) fun j hj=>hall j (by omega)
    simp only [hm,go_sem]
theorem k_impl_edgeAt (he:Rows h 5 v (edges es)) (hl:es.length≤lim):C T X n_impl_edgeAt [graphV size v,.int .i64 x,.int .i64 y] h=some (.int .i64 (edgeIx es x y),h):=by
  unfold lim at hl;refine C_go t_impl_edgeAt rfl ?_;unfold F_impl_edgeAt graphV edgeIx;simp only [he.lnm,go_sem]
  refine w_for es.length (fun i t loc h'=>h'=h∧t 1=.int .i64 x∧t 2=.int .i64 y∧t 10=v∧t 11=.int .i64 es.length∧t 12=.int .i64 i∧∀ j,j < i→¬ Join x y (es.getD j e0)) ⟨rfl,rfl,rfl,rfl,rfl,rfl,fun j hj=>by omega⟩ ?_
  rintro i t loc h' hi ⟨rfl,t1,t2,t10,t11,t12,hall⟩;simp only [t11,t12,go_sem]
  refine w_open (by simp only [go_sem];rfl) ?_ ?_<;>intro hc
  · have hi1:i < es.length:=by omega
    have hw:IntKind.i64.wrap ((i:Int)+1)=((i+1:Nat):Int):=w64 (by omega) (by omega)
    have hel:=edge_el he hi1
    by_cases e1:(es.getD i e0).a=x∧(es.getD i e0).b=y
    · have hm:=firstIx_at hi1 (.inl e1:Join x y (es.getD i e0)) hall
      simp only [t1,t2,t10,t11,t12,hel.1,hel.2.2.1,e1.1,e1.2,hm,go_sem]
    by_cases e2:(es.getD i e0).a=y∧(es.getD i e0).b=x
    · have hm:=firstIx_at hi1 (.inr e2:Join x y (es.getD i e0)) hall
      by_cases hxy:y=x
      · subst hxy;exact absurd e2 e1
      simp only [t1,t2,t10,t11,t12,hel.1,hel.2.2.1,e2.1,e2.2,hxy,hm,go_sem]
    have hn:¬ Join x y (es.getD i e0):=fun hj=>hj.elim e1 e2
    by_cases f1:(es.getD i e0).a=x
    · have f2:¬ (es.getD i e0).b=y:=fun h=>e1 ⟨f1,h⟩
      by_cases f3:x=y
      · subst f3
        simp only [t1,t2,t10,t11,t12,hel.1,hel.2.2.1,f1,f2,hw,go_sem];exact ⟨hi1,below_succ hall hn⟩
      · simp only [t1,t2,t10,t11,t12,hel.1,hel.2.2.1,f1,f2,f3,hw,go_sem]
        exact ⟨hi1,below_succ hall hn⟩
    · by_cases f3:(es.getD i e0).a=y
      · have f4:¬ (es.getD i e0).b=x:=fun h=>e2 ⟨f3,h⟩
        rw [f3] at f1;simp only [t1,t2,t10,t11,t12,hel.1,hel.2.2.1,f1,f3,f4,hw,go_sem];exact ⟨hi1,below_succ hall hn⟩
      · simp only [t1,t2,t10,t11,t12,hel.1,hel.2.2.1,f1,f3,hw,go_sem]
        exact ⟨hi1,below_succ hall hn⟩
  · have hm:firstIx (Join x y) es=-1:=firstIx_none (d:=e0) fun j hj=>hall j (by omega)
    simp only [hm,go_sem]
theorem k_spec_l08At (he:Rows h 5 v (edges es)) (hl:es.length≤lim):C T X n_spec_l08At [graphV size v,.int .i64 x,.int .i64 y] h=some (.int .i64 (edgeIx es x y),h):=by
  unfold lim at hl;refine C_go t_spec_l08At rfl ?_;unfold F_spec_l08At graphV edgeIx;simp only [go_sem]
  refine w_for es.length (fun i t loc h'=>h'=h∧loc 3=some [.int .i64 size,v]∧t 1=.int .i64 x∧t 2=.int .i64 y∧t 7=.int .i64 i∧∀ j,j < i→¬ Join x y (es.getD j e0)) ⟨rfl,rfl,rfl,rfl,rfl,fun j hj=>by omega⟩ ?_
  rintro i t loc h' hi ⟨rfl,l3,t1,t2,t7,hall⟩;simp only [l3,t7,he.lnm,go_sem]
  refine w_open (by simp only [go_sem];rfl) ?_ ?_<;>intro hc
  · have hi1:i < es.length:=by omega
    have hw:IntKind.i64.wrap ((i:Int)+1)=((i+1:Nat):Int):=w64 (by omega) (by omega)
    have hel:=edge_el he hi1
    by_cases e1:(es.getD i e0).a=x∧(es.getD i e0).b=y
    · have hm:=firstIx_at hi1 (.inl e1:Join x y (es.getD i e0)) hall
      simp only [l3,t1,t2,t7,hel,e1.1,e1.2,hm,go_sem]
    by_cases e2:(es.getD i e0).a=y∧(es.getD i e0).b=x
    · have hm:=firstIx_at hi1 (.inr e2:Join x y (es.getD i e0)) hall
      by_cases hxy:y=x
      · subst hxy;exact absurd e2 e1
      simp only [l3,t1,t2,t7,hel,e2.1,e2.2,hxy,hm,go_sem]
    have hn:¬ Join x y (es.getD i e0):=fun hj=>hj.elim e1 e2
    by_cases f1:(es.getD i e0).a=x
    · have f2:¬ (es.getD i e0).b=y:=fun h=>e1 ⟨f1,h⟩
      by_cases f3:x=y
      · subst f3
        simp only [l3,t1,t2,t7,hel,f1,f2,hw,go_sem];exact ⟨hi1,below_succ hall hn⟩
      · simp only [l3,t1,t2,t7,hel,f1,f2,f3,hw,go_sem]
        exact ⟨hi1,below_succ hall hn⟩
    · by_cases f3:(es.getD i e0).a=y
      · have f4:¬ (es.getD i e0).b=x:=fun h=>e2 ⟨f3,h⟩
        rw [f3] at f1;simp only [l3,t1,t2,t7,hel,f1,f3,f4,hw,go_sem];exact ⟨hi1,below_succ hall hn⟩
      · simp only [l3,t1,t2,t7,hel,f1,f3,hw,go_sem]
        exact ⟨hi1,below_succ hall hn⟩
  · have hm:firstIx (Join x y) es=-1:=firstIx_none (d:=e0) fun j hj=>hall j (by omega)
    simp only [hm,go_sem]
end
end Go.Proofs.Ytafhipglhnfgnaa.Ab
set_option linter.unusedSimpArgs false
set_option linter.unusedVariables false
set_option linter.unnecessarySimpa false
set_option maxHeartbeats 4000000
namespace Go.Proofs.Ytafhipglhnfgnaa.Ab
open Go.RowKit
section
variable {X:CallF} {h:Heap} {a v:Value} {l:List Int} {es:List E} {n x y size:Int}
open Classical in
theorem k_impl_GraphOk (he:Rows h 5 v (edges es)) (hl:es.length≤lim):C T X n_impl_GraphOk [graphV size v] h=some (.bool (decide (GOk size es)),h):=by
  unfold lim at hl;refine C_go t_impl_GraphOk rfl ?_;unfold F_impl_GraphOk graphV;simp only [k_impl_in,go_sem]
  refine w_any (by simp only [go_sem];rfl) ?_ ?_<;>intro hc
  · have:¬ GOk size es:=fun g=>by
      have:=g.1;simp at hc;omega
    simp only [this,go_sem]
  have hs:0≤size∧size≤9:=by simpa using hc
  simp only [he.lnm,go_sem]
  refine w_for es.length (fun i t loc h'=>h'=h∧loc 1=some [.int .i64 size,v]∧t 11=v∧t 12=.int .i64 es.length∧t 13=.int .i64 i∧∀ j,j < i→EOk size (es.getD j e0)∧(0 < j→ELt (es.getD (j - 1) e0) (es.getD j e0)))
    ⟨rfl,rfl,rfl,rfl,rfl,fun j hj=>by omega⟩ ?_
  rintro i t loc h' hi ⟨rfl,l1,t11,t12,t13,hall⟩;simp only [t12,t13,go_sem]
  refine w_open (by simp only [go_sem];rfl) ?_ ?_<;>intro hc
  · have hi1:i < es.length:=by omega
    have hel:=edge_el he hi1
    have hneg:¬ (EOk size (es.getD i e0)∧(0 < i→ELt (es.getD (i - 1) e0) (es.getD i e0)))→¬ GOk size es:=fun hn g=>hn (g.2 i hi1)
    have hnext:(EOk size (es.getD i e0)∧(0 < i→ELt (es.getD (i - 1) e0) (es.getD i e0)))→∀ j,j < i+1→EOk size (es.getD j e0)∧(0 < j→ELt (es.getD (j - 1) e0) (es.getD j e0)):=fun hy=>below_succ hall hy
    have hw:IntKind.i64.wrap ((i:Int)+1)=((i+1:Nat):Int):=w64 (by omega) (by omega)
    have hws:IntKind.i64.wrap (size - 1)=size - 1:=w64 (by omega) (by omega)
    by_cases hE:EOk size (es.getD i e0)
    · obtain ⟨q1,q2,q3,q4,q5,q6,q7,q8,q9⟩:=id hE
      have p1:(es.getD i e0).a≤size - 1:=by omega
      have p2:0≤(es.getD i e0).b:=by omega
      have p3:(es.getD i e0).b≤size - 1:=by omega
      have p4:¬ (es.getD i e0).b≤(es.getD i e0).a:=by omega
      rcases Nat.eq_zero_or_pos i with hz | hp
      · have hz':¬ (0:Int) < i:=by omega
        simp only [l1,t11,t12,t13,hel.1,hel.2.2.1,k_impl_in,hws,p1,p2,p3,p4,q1,q4,q5,q6,q7,q8,q9,hz',hw,go_sem]
        exact ⟨hi1,hnext ⟨hE,fun hp=>by omega⟩⟩
      · have hp':(0:Int) < i:=by omega
        have hw1:IntKind.i64.wrap ((i:Int) - 1)=((i - 1:Nat):Int):=by rw [w64 (by omega) (by omega)];omega
        have hi2:i - 1 < es.length:=by omega
        have hel2:=edge_el he hi2
        by_cases hlt:ELt (es.getD (i - 1) e0) (es.getD i e0)
        · by_cases f1:(es.getD (i - 1) e0).a=(es.getD i e0).a
          · have f2:¬ (es.getD i e0).a < (es.getD (i - 1) e0).a:=by omega
            have f3:¬ (es.getD i e0).b≤(es.getD (i - 1) e0).b:=by unfold ELt at hlt;omega
            rw [f1] at f2;simp only [l1,t11,t12,t13,hel.1,hel.2.2.1,k_impl_in,hws,p1,p2,p3,p4,q1,q4,q5,q6,q7,q8,q9,hp',hw,hw1,hel2,f1,f2,f3,go_sem]
            exact ⟨hi1,hnext ⟨hE,fun _=>hlt⟩⟩
          · have f2:¬ (es.getD i e0).a < (es.getD (i - 1) e0).a:=by unfold ELt at hlt;omega
            simp only [l1,t11,t12,t13,hel.1,hel.2.2.1,k_impl_in,hws,p1,p2,p3,p4,q1,q4,q5,q6,q7,q8,q9,hp',hw,hw1,hel2,f1,f2,go_sem]
            exact ⟨hi1,hnext ⟨hE,fun _=>hlt⟩⟩
        · have hr:¬ GOk size es:=hneg fun hx=>hlt (hx.2 hp)
          by_cases f1:(es.getD i e0).a < (es.getD (i - 1) e0).a
          · simp only [l1,t11,t12,t13,hel.1,hel.2.2.1,k_impl_in,hws,p1,p2,p3,p4,q1,q4,q5,q6,q7,q8,q9,hp',hw1,hel2,f1,hr,go_sem]
          · have f2:(es.getD (i - 1) e0).a=(es.getD i e0).a:=by unfold ELt at hlt;omega
            have f3:(es.getD i e0).b≤(es.getD (i - 1) e0).b:=by unfold ELt at hlt;omega
            rw [f2] at f1;simp only [l1,t11,t12,t13,hel.1,hel.2.2.1,k_impl_in,hws,p1,p2,p3,p4,q1,q4,q5,q6,q7,q8,q9,hp',hw1,hel2,f1,f2,f3,hr,go_sem]
    · have hr:¬ GOk size es:=hneg (fun hx=>hE hx.1)
      simp only [l1,t11,t12,t13,hel.1,hel.2.2.1,k_impl_in,hws,go_sem]
      repeat' (first | (refine w_any (by simp only [l1,k_impl_in,hws,go_sem];rfl) ?_ ?_<;>intro hc<;>(try simp only [decide_eq_true_eq,decide_eq_false_iff_not,Decidable.not_not,Bool.not_eq_true',Bool.not_eq_false'] at hc)<;>simp only [hc,l1,k_impl_in,hws,go_sem]) | (refine so_any (by simp only [l1,k_impl_in,hws,go_sem];rfl) ?_ ?_<;>intro hc<;>(try simp only [decide_eq_true_eq,decide_eq_false_iff_not,Decidable.not_not,Bool.not_eq_true',Bool.not_eq_false'] at hc)<;>simp only [hc,l1,k_impl_in,hws,go_sem]) | (refine so_any' (by simp only [l1,k_impl_in,hws,go_sem];rfl) ?_ ?_<;>intro hc<;>(try simp only [decide_eq_true_eq,decide_eq_false_iff_not,Decidable.not_not,Bool.not_eq_true',Bool.not_eq_false'] at hc)<;>simp only [hc,l1,k_impl_in,hws,go_sem]) | (refine sf_any (by simp only [l1,k_impl_in,hws,go_sem];rfl) ?_ ?_<;>intro hc<;>(try simp only [decide_eq_true_eq,decide_eq_false_iff_not,Decidable.not_not,Bool.not_eq_true',Bool.not_eq_false'] at hc)<;>simp only [hc,l1,k_impl_in,hws,go_sem]) | (refine sf_any' (by simp only [l1,k_impl_in,hws,go_sem];rfl) ?_ ?_<;>intro hc<;>(try simp only [decide_eq_true_eq,decide_eq_false_iff_not,Decidable.not_not,Bool.not_eq_true',Bool.not_eq_false'] at hc)<;>simp only [hc,l1,k_impl_in,hws,go_sem]))
      all_goals first
        | exact (decide_eq_false hr).symm
        | exact absurd (by simp only [Bool.and_eq_true,decide_eq_true_eq] at *;simp only [EOk];omega) hE
  · have:GOk size es:=⟨hs,fun j hj=>hall j (by omega)⟩
    simp only [this,go_sem]
theorem ints_app {m:List Int}:ints l++ints m=ints (l++m):=by simp [ints]
end
end Go.Proofs.Ytafhipglhnfgnaa.Ab
set_option linter.unusedSimpArgs false
set_option linter.unusedVariables false
set_option linter.unnecessarySimpa false
set_option maxHeartbeats 4000000
namespace Go.Proofs.Ytafhipglhnfgnaa.Ab
open Go.RowKit
theorem edgeIx_ge {es:List E} {a b:Int}:0≤edgeIx es a b↔∃ e∈es,Join a b e:=by
  unfold edgeIx;rcases firstIx_cases (p:=Join a b) e0 es with ⟨h1,h2⟩ | ⟨i,h1,h2,h3,h4⟩
  · rw [h1]
    constructor
    · intro h;omega
    · rintro ⟨e,he,hj⟩
      obtain ⟨i,hi,rfl⟩:=mem_getD (d:=e0) he;exact absurd hj (h2 i hi)
  · rw [h1]
    exact ⟨fun _=>⟨_,getD_mem h2,h3⟩,fun _=>by omega⟩
theorem gok_mem {size:Int} {es:List E} (g:GOk size es) {e:E} (he:e∈es):EOk size e:=by
  obtain ⟨i,hi,rfl⟩:=mem_getD (d:=e0) he;exact (g.2 i hi).1
theorem gok_len {size:Int} {es:List E} (g:GOk size es):es.length≤81:=by
  obtain ⟨⟨g1,g2⟩,g3⟩:=g
  have key:∀ i,i < es.length→(i:Int)≤9*(es.getD i e0).a+(es.getD i e0).b:=by
    intro i
    induction i with
    | zero=>intro hi;have:=(g3 0 hi).1;unfold EOk at this;omega
    | succ i ih =>
      intro hi
      have h1:=ih (by omega)
      have h2:=(g3 (i+1) hi).1
      have h3:=(g3 i (by omega)).1
      have h4:=(g3 (i+1) hi).2 (by omega)
      simp only [Nat.add_sub_cancel] at h4;unfold EOk at h2 h3;unfold ELt at h4;omega
  by_cases hz:es.length=0
  · omega
  · have h1:=key (es.length - 1) (by omega)
    have h2:=(g3 (es.length - 1) (by omega)).1
    unfold EOk at h2;omega
section
variable {X:CallF} {h:Heap} {ev:Value} {es:List E} {n size x:Int}
end
end Go.Proofs.Ytafhipglhnfgnaa.Ab
set_option linter.unusedSimpArgs false
set_option linter.unusedVariables false
set_option linter.unnecessarySimpa false
set_option maxHeartbeats 4000000
namespace Go.Proofs.Ytafhipglhnfgnaa.Ab
def grAdd (a b:Int) (gs:List Gp):Int:=gs.foldl (fun s g=>if a∈g.ms∧b∈g.ms then s+g.z else s) 0
def slackL (ys:List Int) (gs:List Gp) (e:E):Int:=ys.getD e.a.toNat 0+ys.getD e.b.toNat 0 - 2*scalar e.w1 e.w2 e.w3+grAdd e.a e.b gs
def sumY (ys:List Int):Int:=ys.foldl (·+·) 0
def sumG (gs:List Gp):Int:=gs.foldl (fun s g=>s+g.z*((g.ms.length / 2:Nat):Int)) 0
def weightL (ys:List Int) (gs:List Gp):Int:=sumY ys+sumG gs
def PfOk (size:Int) (es:List E) (ys:List Int) (gs:List Gp):Prop :=
  (GOk size es∧(ys.length:Int)=size∧gs.length≤8)∧(∀ j,j < ys.length→0≤ys.getD j 0∧ys.getD j 0≤1000000000) ∧
  (∀ i,i < gs.length→GrOk size (gs.getD i g0)∧∀ k,k < i→Nest (gs.getD k g0).ms (gs.getD i g0).ms)∧∀ i,i < es.length→0≤slackL ys gs (es.getD i e0)
theorem grAdd_take {a b:Int} {gs:List Gp} {i:Nat} (hi:i < gs.length):grAdd a b (gs.take (i+1))=if a∈(gs.getD i g0).ms∧b∈(gs.getD i g0).ms then grAdd a b (gs.take i)+(gs.getD i g0).z else grAdd a b (gs.take i):=by
  unfold grAdd;rw [take_getD (d:=g0) hi,List.foldl_append];rfl
theorem sumY_take {ys:List Int} {i:Nat} (hi:i < ys.length):sumY (ys.take (i+1))=sumY (ys.take i)+ys.getD i 0:=by
  unfold sumY;rw [take_getD (d:=0) hi,List.foldl_append];rfl
theorem sumG_take {gs:List Gp} {i:Nat} (hi:i < gs.length):sumG (gs.take (i+1))=sumG (gs.take i)+(gs.getD i g0).z*(((gs.getD i g0).ms.length / 2:Nat):Int):=by
  unfold sumG;rw [take_getD (d:=g0) hi,List.foldl_append];rfl
theorem grAdd_bnd {a b:Int} {gs:List Gp} (hz:∀ i,i < gs.length→0≤(gs.getD i g0).z∧(gs.getD i g0).z≤1000000000):∀ i,i≤gs.length→0≤grAdd a b (gs.take i)∧grAdd a b (gs.take i)≤1000000000*i:=by
  intro i
  induction i with
  | zero=>intro _;simp [grAdd]
  | succ i ih =>
    intro hi
    have h1:=ih (by omega)
    have h2:=hz i (by omega)
    rw [grAdd_take (by omega)]
    split<;>omega
theorem sumY_bnd {ys:List Int} (hz:∀ i,i < ys.length→0≤ys.getD i 0∧ys.getD i 0≤1000000000):∀ i,i≤ys.length→0≤sumY (ys.take i)∧sumY (ys.take i)≤1000000000*i:=by
  intro i
  induction i with
  | zero=>intro _;simp [sumY]
  | succ i ih =>
    intro hi
    have h1:=ih (by omega)
    have h2:=hz i (by omega)
    rw [sumY_take (by omega)]
    omega
theorem mul_bnd {z:Int} {n:Nat} (h1:0≤z∧z≤1000000000) (h2:n≤9):0≤z*((n / 2:Nat):Int)∧z*((n / 2:Nat):Int)≤4000000000:=by
  have h3:n / 2≤4:=by omega
  have:n / 2=0∨n / 2=1∨n / 2=2∨n / 2=3∨n / 2=4:=by omega
  rcases this with e | e | e | e | e<;>rw [e]<;>constructor<;>(push_cast;omega)
theorem sumG_bnd {gs:List Gp} (hz:∀ i,i < gs.length→(0≤(gs.getD i g0).z∧(gs.getD i g0).z≤1000000000)∧(gs.getD i g0).ms.length≤9):∀ i,i≤gs.length→0≤sumG (gs.take i)∧sumG (gs.take i)≤4000000000*i:=by
  intro i
  induction i with
  | zero=>intro _;simp [sumG]
  | succ i ih =>
    intro hi
    have h1:=ih (by omega)
    have h2:=hz i (by omega)
    have h3:=mul_bnd h2.1 h2.2
    rw [sumG_take (by omega)]
    omega
theorem asc_of {l:List Int} (h:∀ j,j < l.length→0 < j→l.getD (j - 1) 0 < l.getD j 0):Asc l:=by
  induction l with
  | nil=>exact List.Pairwise.nil
  | cons a l ih =>
    have h':∀ j,j < l.length→0 < j→l.getD (j - 1) 0 < l.getD j 0:=fun j hj hp=>by
      have:=h (j+1) (by simpa using hj) (by omega)
      have e:j+1 - 1=(j - 1)+1:=by omega
      rw [e] at this;simpa using this
    have ih:=ih h';rw [Asc,List.pairwise_cons]
    refine ⟨fun x hx=>?_,ih⟩
    cases l with
    | nil=>cases hx
    | cons b l =>
      have hb:=h 1 (by simp) (by omega)
      simp at hb;rcases List.mem_cons.1 hx with rfl | hx
      · exact hb
      · have:=(List.pairwise_cons.1 ih).1 x hx
        omega
theorem grOk_asc {size:Int} {g:Gp} (h:GrOk size g):Asc g.ms:=asc_of fun j hj hp=>(h.2 j hj).2 hp
theorem asc_nodup {l:List Int} (h:Asc l):l.Nodup:=by
  refine List.Pairwise.imp (R:=(· < ·)) (fun h=>?_) h
  exact Int.ne_of_lt h
theorem grOk_len {size:Int} {g:Gp} (h:GrOk size g) (hs:0≤size):(g.ms.length:Int)≤size:=by
  have key:∀ {n:Nat} {l:List Int},l.Nodup→(∀ x∈l,0≤x∧x < n)→l.length≤n:=by
    intro n
    induction n with
    | zero => intro l _ h
              cases l with
              | nil=>exact Nat.le_refl _
              | cons a l=>have:=h a List.mem_cons_self;omega
    | succ n ih =>
      intro l hn h
      by_cases hm:(n:Int)∈l
      · have h1:=List.length_erase_of_mem hm
        have h2:=ih (hn.erase (n:Int)) fun x hx=>by
          obtain ⟨h3,h4⟩:=(hn.mem_erase_iff).1 hx;have:=h x h4;omega
        omega
      · have:=ih hn fun x hx=>by
          have h3:=h x hx
          have:x≠n:=fun e=>hm (e ▸ hx)
          omega
        omega
  have:=key (n:=size.toNat) (asc_nodup (grOk_asc h)) fun x hx=>by
    obtain ⟨j,hj,e⟩:=mem_getD (d:=0) hx;have:=(h.2 j hj).1;omega
  omega
def cntIn (a b:List Int):Nat:=(a.filter fun x=>decide (x∈b)).length
theorem cntIn_take {a b:List Int} {i:Nat} (hi:i < a.length):cntIn (a.take (i+1)) b=if a.getD i 0∈b then cntIn (a.take i) b+1 else cntIn (a.take i) b:=by
  unfold cntIn;rw [take_getD (d:=0) hi,List.filter_append,List.length_append];split
  · rename_i h;simp only [List.filter_cons,decide_eq_true h,if_true,List.filter_nil,List.length_cons,List.length_nil]
  · rename_i h;simp only [List.filter_cons,decide_eq_false h,Bool.false_eq_true,if_false,List.filter_nil,List.length_nil,Nat.add_zero]
theorem cntIn_le {a b:List Int}:cntIn a b≤a.length:=List.length_filter_le _ _
theorem cnt_zero {a b:List Int}:cntIn a b=0↔∀ x∈a,¬ x∈b:=by
  unfold cntIn;rw [List.length_eq_zero_iff,List.filter_eq_nil_iff];simp
theorem cnt_all {a b:List Int}:cntIn a b=a.length↔∀ x∈a,x∈b:=by
  unfold cntIn;rw [List.length_filter_eq_length_iff];simp
theorem cnt_swap {a b:List Int} (ha:Asc a) (hb:Asc b):cntIn a b=cntIn b a:=by
  unfold cntIn
  congr 1
  refine asc_ext (ha.filter _) (hb.filter _) fun x=>?_
  simp only [List.mem_filter,decide_eq_true_eq];exact And.comm
theorem nest_cnt {a b:List Int} (ha:Asc a) (hb:Asc b):Nest a b↔cntIn a b=0∨cntIn a b=a.length∨cntIn a b=b.length:=by
  unfold Nest
  have h3:cntIn a b=b.length↔∀ x∈b,x∈a:=by rw [cnt_swap ha hb];exact cnt_all
  rw [h3,cnt_zero,cnt_all];constructor
  · rintro (h | h | h)
    · exact .inr (.inr h)
    · exact .inl fun x hx hb=>h x hb hx
    · exact .inr (.inl h)
  · rintro (h | h | h)
    · exact .inr (.inl fun x hx ha=>h x ha hx)
    · exact .inr (.inr h)
    · exact .inl h
end Go.Proofs.Ytafhipglhnfgnaa.Ab
set_option linter.unusedSimpArgs false
set_option linter.unusedVariables false
set_option linter.unnecessarySimpa false
set_option maxHeartbeats 4000000
namespace Go.Proofs.Ytafhipglhnfgnaa.Ab
open Go.RowKit
structure Sv where
  n:Nat
  N:Nat
  y:Nat→Int
  up:Nat→Option Nat
  mem:Nat→List Nat
  lnk:Nat→List Nat
  mate:Nat→Option Nat
  base:Nat→Nat
  z:Nat→Int
  gone:Nat→Bool
inductive Wi (s:Sv):Nat→Nat→Prop
  | refl (v:Nat):Wi s v v
  | step {v p t:Nat} (h:s.up v=some p) (k:Wi s p t):Wi s v t
def UpOk (s:Sv):Prop:=∀ v p,s.up v=some p→v < p∧p < s.N
section
variable {s:Sv} {u v w t p:Nat}
theorem Wi.trans (h:Wi s u v) (k:Wi s v w):Wi s u w:=by
  induction h with
  | refl=>exact k
  | step e _ ih=>exact .step e (ih k)
theorem Wi.one (h:s.up v=some p):Wi s v p:=.step h (.refl p)
theorem Wi.le (hu:UpOk s) (h:Wi s u v):u≤v:=by
  induction h with
  | refl=>exact Nat.le_refl _
  | step e _ ih=>have:=(hu _ _ e).1;omega
theorem Wi.lt (hu:UpOk s) (h:Wi s u v) (hn:u < s.N):v < s.N:=by
  induction h with
  | refl=>exact hn
  | step e _ ih=>exact ih (hu _ _ e).2
theorem Wi.chain (h:Wi s u v) (k:Wi s u w):Wi s v w∨Wi s w v:=by
  induction h generalizing w with
  | refl=>exact .inl k
  | step e h' ih =>
    cases k with
    | refl=>exact .inr (.step e h')
    | step e2 k2 =>
      rw [e] at e2;cases e2;exact ih k2
theorem Wi.top_eq (h:Wi s t w) (ht:s.up t=none):w=t:=by
  cases h with
  | refl=>rfl
  | step e _=>rw [ht] at e;cases e
theorem Wi.last (h:Wi s u v):u=v∨∃ m,s.up m=some v∧Wi s u m:=by
  induction h with
  | refl=>exact .inl rfl
  | step e _ ih =>
    rename_i a b c _
    rcases ih with rfl | ⟨m,h1,h2⟩
    · exact .inr ⟨a,e,.refl _⟩
    · exact .inr ⟨m,h1,.step e h2⟩
def topF (s:Sv):Nat→Nat→Nat
  | 0,v=>v
  | f+1,v=>match s.up v with
    | none=>v
    | some p=>topF s f p
def top (s:Sv) (v:Nat):Nat:=topF s (s.N - v) v
theorem topF_ok (hu:UpOk s):∀ (f v:Nat),s.N - v≤f→Wi s v (topF s f v)∧s.up (topF s f v)=none
  | 0,v,h=>by
    refine ⟨.refl _,?_⟩;show s.up v=none
    cases e:s.up v with
    | none=>rfl
    | some p=>have:=hu _ _ e;omega
  | f+1,v,h=>by
    unfold topF
    cases e:s.up v with
    | none=>exact ⟨.refl _,e⟩
    | some p =>
      have:=hu _ _ e
      obtain ⟨h1,h2⟩:=topF_ok hu f p (by omega)
      exact ⟨.step e h1,h2⟩
theorem top_in (hu:UpOk s):Wi s v (top s v):=(topF_ok hu _ v (Nat.le_refl _)).1
theorem top_up (hu:UpOk s):s.up (top s v)=none:=(topF_ok hu _ v (Nat.le_refl _)).2
theorem top_of (hu:UpOk s) (h:Wi s v t) (ht:s.up t=none):top s v=t:=by
  rcases h.chain (top_in hu) with k | k
  · exact k.top_eq ht
  · exact (k.top_eq (top_up hu)).symm
theorem top_self (hu:UpOk s) (ht:s.up t=none):top s t=t:=top_of hu (.refl _) ht
theorem top_eq (hu:UpOk s) (h:Wi s u v):top s u=top s v:=top_of hu (h.trans (top_in hu)) (top_up hu)
theorem top_step (hu:UpOk s) (h:s.up v=some p):top s v=top s p:=top_eq hu (.one h)
theorem top_lt (hu:UpOk s) (h:v < s.N):top s v < s.N:=(top_in hu).lt hu h
end
end Go.Proofs.Ytafhipglhnfgnaa.Ab
set_option linter.unusedSimpArgs false
set_option linter.unusedVariables false
set_option linter.unnecessarySimpa false
set_option maxHeartbeats 4000000
namespace Go.Proofs.Ytafhipglhnfgnaa.Ab
open Go.RowKit
def vA (es:List E) (e:Nat):Nat:=(es.getD e e0).a.toNat
def vB (es:List E) (e:Nat):Nat:=(es.getD e e0).b.toNat
def vW (es:List E) (e:Nat):Int:=scalar (es.getD e e0).w1 (es.getD e e0).w2 (es.getD e e0).w3
open Classical in
noncomputable def zSum (s:Sv) (a b:Nat):Nat→Int
  | 0=>0
  | k+1=>zSum s a b k+if s.n≤k∧Wi s a k∧Wi s b k then s.z k else 0
noncomputable def slk (es:List E) (s:Sv) (e:Nat):Int:=s.y (vA es e)+s.y (vB es e) - 2*vW es e+zSum s (vA es e) (vB es e) s.N
def Jn (es:List E) (s:Sv) (e a b:Nat):Prop:=e < es.length∧((Wi s (vA es e) a∧Wi s (vB es e) b)∨(Wi s (vB es e) a∧Wi s (vA es e) b))
def Tight (es:List E) (s:Sv) (e:Nat):Prop:=slk es s e=0
def IsTop (s:Sv) (t:Nat):Prop:=t < s.N∧s.up t=none∧s.gone t=false
def IsRing (s:Sv) (p:Nat):Prop:=s.n≤p∧p < s.N∧s.gone p=false
structure Ok (es:List E) (s:Sv):Prop where
  nN:s.n≤s.N
  ed:∀ e,e < es.length→vA es e < s.n∧vB es e < s.n∧vA es e≠vB es e
  up:∀ v p,s.up v=some p→v < p∧IsRing s p∧s.gone v=false∧v∈s.mem p
  ring:∀ p,IsRing s p→3≤(s.mem p).length∧(s.mem p).length%2=1∧(s.mem p).Nodup∧∀ v∈s.mem p,s.up v=some p
  lnk:∀ p,IsRing s p→(s.lnk p).length=(s.mem p).length∧∀ j,j < (s.mem p).length→Jn es s ((s.lnk p).getD j 0) ((s.mem p).getD j 0) ((s.mem p).getD ((j+1)%(s.mem p).length) 0)∧Tight es s ((s.lnk p).getD j 0)
  gone:∀ p,s.gone p=true→s.n≤p∧s.up p=none
  mate:∀ t e,IsTop s t→s.mate t=some e→Tight es s e∧∃ o,IsTop s o∧o≠t∧s.mate o=some e∧Jn es s e t o
  base:∀ t,t < s.N→s.gone t=false→s.base t < s.n∧Wi s (s.base t) t
  baseM:∀ p,IsRing s p→∃ j∈s.mem p,s.base p=s.base j
  feas:∀ e,e < es.length→0≤slk es s e
  z0:∀ p,IsRing s p→0≤s.z p∧s.z p%2=0
  par:∀ p u v,IsRing s p→u < s.n→v < s.n→Wi s u p→Wi s v p→s.y u%2=s.y v%2
section
variable {es:List E} {s:Sv} {a b c d e o t u v p:Nat}
theorem Jn.symm (h:Jn es s e a b):Jn es s e b a:=⟨h.1,h.2.elim (fun k=>.inr ⟨k.2,k.1⟩) fun k=>.inl ⟨k.2,k.1⟩⟩
theorem Jn.wide (h:Jn es s e a b) (ha:Wi s a c) (hb:Wi s b d):Jn es s e c d :=
  ⟨h.1,h.2.elim (fun k=>.inl ⟨k.1.trans ha,k.2.trans hb⟩) fun k=>.inr ⟨k.1.trans ha,k.2.trans hb⟩⟩
theorem Ok.upOk (k:Ok es s):UpOk s:=fun v p h=>⟨(k.up v p h).1,(k.up v p h).2.1.2.1⟩
theorem Ok.ngone (k:Ok es s) (hv:v < s.n):s.gone v=false:=by
  cases e:s.gone v with
  | false=>rfl
  | true=>have:=(k.gone v e).1;omega
theorem Ok.wi_gone (k:Ok es s) (h:Wi s u v) (hn:s.gone u=false):s.gone v=false:=by
  induction h with
  | refl=>exact hn
  | step e _ ih=>exact ih (k.up _ _ e).2.1.2.2
theorem Ok.topTop (k:Ok es s) (hv:v < s.N) (hg:s.gone v=false):IsTop s (top s v):=⟨top_lt k.upOk hv,top_up k.upOk,k.wi_gone (top_in k.upOk) hg⟩
theorem Ok.vTop (k:Ok es s) (hv:v < s.n):IsTop s (top s v):=k.topTop (Nat.lt_of_lt_of_le hv k.nN) (k.ngone hv)
theorem IsTop.top (h:IsTop s t) (k:Ok es s):top s t=t:=top_self k.upOk h.2.1
theorem Jn.tops (h:Jn es s e a b) (k:Ok es s) (ha:IsTop s a) (hb:IsTop s b):(top s (vA es e)=a∧top s (vB es e)=b)∨(top s (vB es e)=a∧top s (vA es e)=b):=by
  rcases h.2 with ⟨h1,h2⟩ | ⟨h1,h2⟩
  · exact .inl ⟨top_of k.upOk h1 ha.2.1,top_of k.upOk h2 hb.2.1⟩
  · exact .inr ⟨top_of k.upOk h1 ha.2.1,top_of k.upOk h2 hb.2.1⟩
theorem Jn.two (h:Jn es s e a b) (g:Jn es s e c d) (k:Ok es s) (ha:IsTop s a) (hb:IsTop s b) (hc:IsTop s c) (hd:IsTop s d):(c=a∧d=b)∨(c=b∧d=a):=by
  rcases h.tops k ha hb with ⟨h1,h2⟩ | ⟨h1,h2⟩<;>rcases g.tops k hc hd with ⟨g1,g2⟩ | ⟨g1,g2⟩<;>subst h1 h2 g1 g2<;>simp
theorem cn_tops (k:Ok es s) (he:e < es.length):Jn es s e (top s (vA es e)) (top s (vB es e)):=⟨he,.inl ⟨top_in k.upOk,top_in k.upOk⟩⟩
theorem Ok.mate2 (k:Ok es s) (ht:IsTop s t) (ho:IsTop s o) (hc:IsTop s c) (h1:s.mate t=some e) (h2:s.mate o=some e) (h3:s.mate c=some e) (hot:o≠t):c=t∨c=o:=by
  obtain ⟨_,o',i1,i2,i3,i4⟩:=k.mate t e ht h1;obtain ⟨_,p',j1,j2,j3,j4⟩:=k.mate o e ho h2;obtain ⟨_,q',l1,l2,l3,l4⟩:=k.mate c e hc h3;rcases i4.two j4 k ht i1 ho j1 with ⟨q1,_⟩ | ⟨q1,_⟩
  · exact absurd q1 hot
  · subst q1
    rcases i4.two l4 k ht i1 hc l1 with ⟨q2,_⟩ | ⟨q2,_⟩
    · exact .inl q2
    · exact .inr q2
theorem zSum_congr {s':Sv} {a b a' b':Nat}:∀ k,(∀ p,p < k→s.n≤p→((Wi s a p∧Wi s b p)↔(Wi s' a' p∧Wi s' b' p))∧(Wi s a p→Wi s b p→s.z p=s'.z p))→s.n=s'.n→zSum s a b k=zSum s' a' b' k
  | 0,_,_=>rfl
  | k+1,h,hn=>by
    have ih:=zSum_congr k (fun p hp hq=>h p (by omega) hq) hn
    unfold zSum;rw [ih,← hn]
    congr 1
    by_cases c:s.n≤k
    · obtain ⟨h1,h2⟩:=h k (by omega) c
      by_cases g:Wi s a k∧Wi s b k
      · rw [if_pos ⟨c,g⟩,if_pos ⟨c,h1.1 g⟩,h2 g.1 g.2]
      · rw [if_neg (fun q=>g q.2),if_neg (fun q=>g (h1.2 q.2))]
    · rw [if_neg (fun q=>c q.1),if_neg (fun q=>c q.1)]
theorem zSum_zero {k:Nat} (h:∀ p,p < k→s.n≤p→¬ (Wi s a p∧Wi s b p)):zSum s a b k=0:=by
  induction k with
  | zero=>rfl
  | succ k ih =>
    unfold zSum
    rw [ih fun p hp hq=>h p (by omega) hq]
    by_cases c:s.n≤k
    · rw [if_neg fun q=>h k (by omega) c q.2];rfl
    · rw [if_neg fun q=>c q.1];rfl
theorem slk_apart (k:Ok es s) (h:top s (vA es e)≠top s (vB es e)):slk es s e=s.y (vA es e)+s.y (vB es e) - 2*vW es e:=by
  unfold slk
  rw [zSum_zero fun p _ _ q=>h ((top_eq k.upOk q.1).trans (top_eq k.upOk q.2).symm),Int.add_zero]
end
structure Lb where
  lab:Nat→Nat
  ahead:Nat→Option Nat
  byE:Nat→Option Nat
structure Fo (es:List E) (s:Sv) (l:Lb) (rk:Nat→Nat):Prop where
  top:∀ t,l.lab t≠0→IsTop s t
  two:∀ t,l.lab t≤2
  root:∀ t,IsTop s t→s.mate t=none→l.lab t=1∧l.ahead t=none
  free:∀ t,l.lab t=1→l.ahead t=none→s.mate t=none
  even:∀ t o,l.lab t=1→l.ahead t=some o→l.lab o=2∧rk o < rk t∧∃ f,s.mate t=some f∧s.mate o=some f∧l.byE t=some f∧Jn es s f o t
  odd:∀ o,l.lab o=2→∃ a e f c,l.ahead o=some a∧l.lab a=1∧rk a < rk o∧l.byE o=some e∧Jn es s e a o∧Tight es s e∧s.mate o=some f∧s.mate c=some f∧l.lab c=1∧l.ahead c=some o
def Stuck (es:List E) (s:Sv) (l:Lb):Prop:=∀ e a b,e < es.length→Tight es s e→Jn es s e a b→IsTop s a→IsTop s b→a≠b→l.lab a=1→l.lab b=2
end Go.Proofs.Ytafhipglhnfgnaa.Ab
set_option linter.unusedSimpArgs false
set_option linter.unusedVariables false
set_option linter.unnecessarySimpa false
set_option maxHeartbeats 4000000
namespace Go.Proofs.Ytafhipglhnfgnaa.Ab
open Go.RowKit
def growL (l:Lb) (a b c e f:Nat):Lb :=
  ⟨fun t=>if t=c then 1 else if t=b then 2 else l.lab t,fun t=>if t=c then some b else if t=b then some a else l.ahead t,fun t=>if t=c then some f else if t=b then some e else l.byE t⟩
section
variable {es:List E} {s:Sv} {l:Lb} {rk:Nat→Nat} {a b c e f t o:Nat}
theorem Fo.bare (F:Fo es s l rk) (k:Ok es s) (hb:IsTop s b) (h0:l.lab b=0):∃ f c,s.mate b=some f∧s.mate c=some f∧IsTop s c∧c≠b∧Jn es s f b c∧l.lab c=0:=by
  cases hm:s.mate b with
  | none=>have:=(F.root b hb hm).1;omega
  | some f =>
    obtain ⟨_,c,hc,hne,hmc,hcn⟩:=k.mate b f hb hm;refine ⟨f,c,rfl,hmc,hc,hne,hcn,?_⟩;have h2:=F.two c;rcases Nat.lt_or_ge (l.lab c) 1 with q | q
    · omega
    · exfalso
      by_cases q1:l.lab c=1
      · cases ha:l.ahead c with
        | none=>rw [F.free c q1 ha] at hmc;cases hmc
        | some o =>
          obtain ⟨ho,_,f',h3,h4,_,_⟩:=F.even c o q1 ha;rw [hmc] at h3;cases h3
          have hot:IsTop s o:=F.top o (by omega)
          rcases k.mate2 hb hc hot hm hmc h4 hne with e1 | e1
          · subst e1;omega
          · subst e1;omega
      · have q2:l.lab c=2:=by omega
        obtain ⟨a,e,f',d,_,_,_,_,_,_,h3,h4,h5,_⟩:=F.odd c q2;rw [hmc] at h3;cases h3
        have hdt:IsTop s d:=F.top d (by omega)
        rcases k.mate2 hb hc hdt hm hmc h4 hne with e1 | e1
        · subst e1;omega
        · subst e1;omega
theorem Fo.grow (F : Fo es s l rk) (k : Ok es s) (he : Tight es s e) (hcn : Jn es s e a b) (ha : IsTop s a) (hb : IsTop s b) (hab : a ≠ b) (la : l.lab a = 1) (lb : l.lab b = 0) (hf : s.mate b = some f) (hmc : s.mate c = some f) (hc : IsTop s c) (hcb : c ≠ b) (hfc : Jn es s f b c) (lc : l.lab c = 0) :
    Fo es s (growL l a b c e f) fun t=>if t=c then rk a+2 else if t=b then rk a+1 else rk t:=by
  have hac:a≠c:=fun q=>by subst q;omega
  refine ⟨fun t ht=>?_,fun t=>?_,fun t ht hm=>?_,fun t h1 h2=>?_,fun t o h1 h2=>?_,fun o h2=>?_⟩
  · simp only [growL] at ht
    split at ht
    · next q=>subst q;exact hc
    · split at ht
      · next q=>subst q;exact hb
      · exact F.top t ht
  · simp only [growL]
    split
    · omega
    · split
      · omega
      · exact F.two t
  · have n1:t≠c:=fun q=>by rw [q,hmc] at hm;cases hm
    have n2:t≠b:=fun q=>by rw [q,hf] at hm;cases hm
    simp only [growL,n1,n2,if_false];exact F.root t ht hm
  · simp only [growL] at h1 h2
    split at h2
    · cases h2
    · next q1 =>
      split at h2
      · cases h2
      · next q2 =>
        rw [if_neg q1,if_neg q2] at h1;exact F.free t h1 h2
  · simp only [growL] at h1 h2 ⊢
    by_cases q1:t=c
    · rw [if_pos q1] at h2
      cases h2;subst q1
      refine ⟨by rw [if_neg (Ne.symm hcb),if_pos rfl],by rw [if_neg (Ne.symm hcb),if_pos rfl,if_pos rfl];omega,f,hmc,hf,by rw [if_pos rfl],hfc⟩
    · rw [if_neg q1] at h1 h2
      by_cases q2:t=b
      · rw [if_pos q2] at h1
        omega
      · rw [if_neg q2] at h1 h2
        obtain ⟨i1,i2,f',i3,i4,i5,i6⟩:=F.even t o h1 h2
        have n1:o≠c:=fun q=>by subst q;omega
        have n2:o≠b:=fun q=>by subst q;omega
        rw [if_neg n1,if_neg n2,if_neg n1,if_neg n2,if_neg q1,if_neg q2,if_neg q1,if_neg q2];exact ⟨i1,i2,f',i3,i4,i5,i6⟩
  · simp only [growL] at h2 ⊢
    by_cases q1:o=c
    · rw [if_pos q1] at h2;omega
    · rw [if_neg q1] at h2
      by_cases q2:o=b
      · subst q2
        refine ⟨a,e,f,c,by rw [if_neg q1,if_pos rfl],by rw [if_neg hac,if_neg hab];exact la,by rw [if_neg hac,if_neg hab,if_neg q1,if_pos rfl];omega,by rw [if_neg q1,if_pos rfl],hcn,he,hf,hmc,by rw [if_pos rfl],by rw [if_pos rfl]⟩
      · rw [if_neg q2] at h2
        obtain ⟨a',e',f',c',i1,i2,i3,i4,i5,i6,i7,i8,i9,i10⟩:=F.odd o h2
        have n1:a'≠c:=fun q=>by subst q;omega
        have n2:a'≠b:=fun q=>by subst q;omega
        have n3:c'≠c:=fun q=>by subst q;omega
        have n4:c'≠b:=fun q=>by subst q;omega
        refine ⟨a',e',f',c',by rw [if_neg q1,if_neg q2];exact i1,by rw [if_neg n1,if_neg n2];exact i2,by rw [if_neg n1,if_neg n2,if_neg q1,if_neg q2];exact i3,by rw [if_neg q1,if_neg q2];exact i4,i5,i6,i7,i8,by rw [if_neg n3,if_neg n4];exact i9,by rw [if_neg n3,if_neg n4];exact i10⟩
open Classical in
noncomputable def freshL (s:Sv):Lb:=⟨fun t=>if IsTop s t∧s.mate t=none then 1 else 0,fun _=>none,fun _=>none⟩
theorem fresh_fo:Fo es s (freshL s) fun _=>0:=by
  refine ⟨fun t ht=>?_,fun t=>?_,fun t ht hm=>?_,fun t h1 _=>?_,fun t o _ h2=>(by cases h2),fun o h2=>?_⟩
  · simp only [freshL] at ht
    split at ht
    · next q=>exact q.1
    · exact absurd rfl ht
  · simp only [freshL]
    split<;>omega
  · simp only [freshL]
    rw [if_pos ⟨ht,hm⟩];exact ⟨rfl,trivial⟩
  · simp only [freshL] at h1
    split at h1
    · next q=>exact q.2
    · omega
  · simp only [freshL] at h2
    split at h2<;>omega
end
end Go.Proofs.Ytafhipglhnfgnaa.Ab
set_option linter.unusedSimpArgs false
set_option linter.unusedVariables false
set_option linter.unnecessarySimpa false
set_option maxHeartbeats 4000000
namespace Go.Proofs.Ytafhipglhnfgnaa.Ab
open Go.RowKit
def IsWay (l:Lb):List Nat→Prop
  | []=>False
  | [t]=>l.ahead t=none
  | t::o::xs=>l.ahead t=some o∧IsWay l (o::xs)
section
variable {es:List E} {s:Sv} {l:Lb} {rk:Nat→Nat} {a b c e f t o:Nat} {xs ys:List Nat}
theorem Fo.rkAhead (F:Fo es s l rk) (h0:l.lab t≠0) (h:l.ahead t=some o):rk o < rk t∧l.lab o≠0∧l.lab o+l.lab t=3:=by
  have h2:=F.two t
  by_cases q:l.lab t=1
  · obtain ⟨i1,i2,_⟩:=F.even t o q h
    exact ⟨i2,by omega,by omega⟩
  · have q2:l.lab t=2:=by omega
    obtain ⟨a,_,_,_,i1,i2,i3,_⟩:=F.odd t q2;rw [h] at i1;cases i1
    exact ⟨i3,by omega,by omega⟩
theorem way_one:∀ {xs ys:List Nat} {t:Nat},IsWay l (t::xs)→IsWay l (t::ys)→xs=ys
  | [],[],_,_,_=>rfl
  | [],y::ys,t,h,k=>by
    have h':l.ahead t=none:=h;have k1:=k.1;rw [h'] at k1;cases k1
  | x::xs,[],t,h,k=>by
    have k':l.ahead t=none:=k;have h1:=h.1;rw [k'] at h1;cases h1
  | x::xs,y::ys,t,h,k=>by
    have e:=h.1.symm.trans k.1;cases e;rw [way_one h.2 k.2]
theorem way_next:∀ {xs:List Nat} {j:Nat},IsWay l xs→j+1 < xs.length→l.ahead (xs.getD j 0)=some (xs.getD (j+1) 0)
  | [t],j,_,hj=>by simp at hj
  | t::o::xs,0,h,_=>by simpa using h.1
  | t::o::xs,j+1,h,hj=>by
    have:=way_next (xs:=o::xs) (j:=j) h.2 (by simpa using hj)
    simpa using this
theorem way_last:∀ {xs:List Nat},IsWay l xs→l.ahead (xs.getD (xs.length - 1) 0)=none
  | [t],h=>h
  | t::o::xs,h=>by
    have:=way_last (xs:=o::xs) h.2;simpa using this
theorem way_lab (F:Fo es s l rk) (h:IsWay l xs) (h0:l.lab (xs.getD 0 0)=1):∀ j,j < xs.length→l.lab (xs.getD j 0)=1+j%2
  | 0,_=>by simpa using h0
  | j+1,hj=>by
    have ih:=way_lab F h h0 j (by omega)
    have hn:=way_next h hj
    have:=(F.rkAhead (by omega) hn).2.2
    omega
theorem way_rk (F:Fo es s l rk) (h:IsWay l xs) (h0:l.lab (xs.getD 0 0)=1):∀ {i j},i < j→j < xs.length→rk (xs.getD j 0) < rk (xs.getD i 0)
  | i,j+1,hij,hj=>by
    have hl:=way_lab F h h0 j (by omega)
    have h1:=(F.rkAhead (by omega) (way_next h hj)).1
    by_cases q:i=j
    · subst q;exact h1
    · have:=way_rk F h h0 (i:=i) (j:=j) (by omega) (by omega)
      omega
theorem way_inj (F:Fo es s l rk) (h:IsWay l xs) (h0:l.lab (xs.getD 0 0)=1) {i j:Nat} (hi:i < xs.length) (hj:j < xs.length) (e:xs.getD i 0=xs.getD j 0):i=j:=by
  rcases Nat.lt_trichotomy i j with q | q | q
  · have:=way_rk F h h0 q hj;rw [e] at this;omega
  · exact q
  · have:=way_rk F h h0 q hi;rw [e] at this;omega
structure Meet (es:List E) (s:Sv) (l:Lb) (rk:Nat→Nat) (e:Nat) (xs ys:List Nat) (i k:Nat):Prop where
  F:Fo es s l rk
  wx:IsWay l xs
  wy:IsWay l ys
  x0:l.lab (xs.getD 0 0)=1
  y0:l.lab (ys.getD 0 0)=1
  ne:xs.getD 0 0≠ys.getD 0 0
  tight:Tight es s e
  cn:Jn es s e (xs.getD 0 0) (ys.getD 0 0)
  hi:i < xs.length
  hk:k < ys.length
  joint:xs.getD i 0=ys.getD k 0
  first:∀ j,j < i→¬ xs.getD j 0∈ys
def ringM (xs ys:List Nat) (i k:Nat):List Nat:=xs.getD i 0::((xs.take i).reverse++ys.take k)
def ringL (l:Lb) (e:Nat) (xs ys:List Nat) (i k:Nat):List Nat:=((xs.take i).reverse.map fun t=>(l.byE t).getD 0)++e::((ys.take k).map fun t=>(l.byE t).getD 0)
theorem getD_mem0 {l:List Nat} {i:Nat} (h:i < l.length):l.getD i 0∈l:=getD_mem (d:=0) h
variable {i k:Nat}
theorem Meet.even (M:Meet es s l rk e xs ys i k) (K:Ok es s):i%2=0∧k%2=0:=by
  have hx:=way_lab M.F M.wx M.x0 i M.hi;have hy:=way_lab M.F M.wy M.y0 k M.hk;rw [M.joint] at hx
  have hik:i%2=k%2:=by omega
  have h2:i%2 < 2:=Nat.mod_lt _ (by omega)
  by_cases q:i%2=0
  · exact ⟨q,by omega⟩
  · exfalso
    have hjl:l.lab (ys.getD k 0)=2:=by omega
    obtain ⟨_,_,f,_,_,_,_,_,_,_,hmj,_⟩:=M.F.odd _ hjl
    have nx:=way_next (j:=i - 1) M.wx (by have:=M.hi;omega)
    have ny:=way_next (j:=k - 1) M.wy (by have:=M.hk;omega)
    rw [show i - 1+1=i by omega,M.joint] at nx
    rw [show k - 1+1=k by omega] at ny
    have lx:=way_lab M.F M.wx M.x0 (i - 1) (by have:=M.hi;omega)
    have ly:=way_lab M.F M.wy M.y0 (k - 1) (by have:=M.hk;omega)
    have lx1:l.lab (xs.getD (i - 1) 0)=1:=by omega
    have ly1:l.lab (ys.getD (k - 1) 0)=1:=by omega
    obtain ⟨_,_,f1,a1,a2,_,_⟩:=M.F.even _ _ lx1 nx;obtain ⟨_,_,f2,b1,b2,_,_⟩:=M.F.even _ _ ly1 ny;rw [hmj] at a2 b2;cases a2;cases b2
    have tj:IsTop s (ys.getD k 0):=M.F.top _ (by omega)
    have tx:IsTop s (xs.getD (i - 1) 0):=M.F.top _ (by omega)
    have ty:IsTop s (ys.getD (k - 1) 0):=M.F.top _ (by omega)
    rcases K.mate2 tj tx ty hmj a1 b1 (fun q=>by rw [q] at lx1;omega) with q1 | q1
    · rw [q1] at ly1;omega
    · exact M.first (i - 1) (by omega) (by rw [← q1];exact getD_mem0 (by have:=M.hk;omega))
theorem ringM_len (hi:i < xs.length) (hk:k < ys.length):(ringM xs ys i k).length=1+i+k:=by
  unfold ringM;rw [List.length_cons,List.length_append,List.length_reverse,List.length_take,List.length_take];omega
theorem ringL_len (hi:i < xs.length) (hk:k < ys.length):(ringL l e xs ys i k).length=1+i+k:=by
  unfold ringL;rw [List.length_append,List.length_map,List.length_reverse,List.length_take,List.length_cons,List.length_map,List.length_take];omega
theorem getD_rev {zs:List Nat} {j:Nat} (h:j < zs.length):zs.reverse.getD j 0=zs.getD (zs.length - 1 - j) 0:=by
  rw [List.getD_eq_getElem?_getD,List.getElem?_reverse h,← List.getD_eq_getElem?_getD]
theorem getD_take {zs:List Nat} {n j:Nat} (h:j < n):(zs.take n).getD j 0=zs.getD j 0:=by
  rw [List.getD_eq_getElem?_getD,List.getElem?_take,if_pos h,← List.getD_eq_getElem?_getD]
theorem getD_appL {zs ws:List Nat} {j:Nat} (h:j < zs.length):(zs++ws).getD j 0=zs.getD j 0:=by
  rw [List.getD_eq_getElem?_getD,List.getElem?_append_left h,← List.getD_eq_getElem?_getD]
theorem getD_appR {zs ws:List Nat} {j:Nat} (h:zs.length≤j):(zs++ws).getD j 0=ws.getD (j - zs.length) 0:=by
  rw [List.getD_eq_getElem?_getD,List.getElem?_append_right h,← List.getD_eq_getElem?_getD]
theorem getD_mapN {f:Nat→Nat} {zs:List Nat} {j:Nat} (h:j < zs.length):(zs.map f).getD j 0=f (zs.getD j 0):=by
  simp [List.getD,h]
theorem ringM_x (hi:i < xs.length) {j:Nat} (h:j≤i):(ringM xs ys i k).getD j 0=xs.getD (i - j) 0:=by
  unfold ringM
  cases j with
  | zero=>simp
  | succ j =>
    rw [List.getD_cons_succ]
    have hl:(xs.take i).length=i:=by rw [List.length_take];omega
    rw [getD_appL (by rw [List.length_reverse];omega),getD_rev (by omega),hl,getD_take (by omega)]
    congr 1
    omega
theorem ringM_y (hi:i < xs.length) (hk:k < ys.length) {j:Nat} (h:j < k):(ringM xs ys i k).getD (1+i+j) 0=ys.getD j 0:=by
  unfold ringM
  rw [show 1+i+j=(i+j)+1 by omega,List.getD_cons_succ]
  have hl:(xs.take i).length=i:=by rw [List.length_take];omega
  rw [getD_appR (by rw [List.length_reverse];omega),List.length_reverse,hl,show i+j - i=j by omega,getD_take h]
theorem ringL_x (hi:i < xs.length) {j:Nat} (h:j < i):(ringL l e xs ys i k).getD j 0=(l.byE (xs.getD (i - 1 - j) 0)).getD 0:=by
  unfold ringL
  have hl:(xs.take i).length=i:=by rw [List.length_take];omega
  rw [getD_appL (by rw [List.length_map,List.length_reverse];omega),getD_mapN (by rw [List.length_reverse];omega),getD_rev (by omega),hl,getD_take (by omega)]
theorem ringL_e (hi:i < xs.length):(ringL l e xs ys i k).getD i 0=e:=by
  unfold ringL
  have hl:(xs.take i).length=i:=by rw [List.length_take];omega
  rw [getD_appR (by rw [List.length_map,List.length_reverse];omega),List.length_map,List.length_reverse,hl,Nat.sub_self]
  rfl
theorem ringL_y (hi:i < xs.length) (hk:k < ys.length) {j:Nat} (h:j < k):(ringL l e xs ys i k).getD (1+i+j) 0=(l.byE (ys.getD j 0)).getD 0:=by
  unfold ringL
  have hl:(xs.take i).length=i:=by rw [List.length_take];omega
  rw [getD_appR (by rw [List.length_map,List.length_reverse];omega),List.length_map,List.length_reverse,hl,show 1+i+j - i=j+1 by omega,List.getD_cons_succ,getD_mapN (by rw [List.length_take];omega),getD_take h]
theorem ahead_edge (F:Fo es s l rk) (K:Ok es s) (h0:l.lab t≠0) (h:l.ahead t=some o):Jn es s ((l.byE t).getD 0) o t∧Tight es s ((l.byE t).getD 0):=by
  have h2:=F.two t
  by_cases q:l.lab t=1
  · obtain ⟨_,_,f,i3,_,i5,i6⟩:=F.even t o q h
    rw [i5];exact ⟨i6,(K.mate t f (F.top t h0) i3).1⟩
  · obtain ⟨a,e,_,_,i1,_,_,i4,i5,i6,_⟩:=F.odd t (by omega)
    rw [h] at i1;cases i1;rw [i4];exact ⟨i5,i6⟩
theorem Meet.links (M:Meet es s l rk e xs ys i k) (K:Ok es s):∀ j,j < 1+i+k→Jn es s ((ringL l e xs ys i k).getD j 0) ((ringM xs ys i k).getD j 0) ((ringM xs ys i k).getD ((j+1)%(1+i+k)) 0)∧Tight es s ((ringL l e xs ys i k).getD j 0):=by
  intro j hj;have hi:=M.hi;have hk:=M.hk;rcases Nat.lt_trichotomy j i with q | q | q
  · rw [ringL_x hi q,ringM_x hi (by omega),Nat.mod_eq_of_lt (by omega),ringM_x hi (by omega)]
    have hn:=way_next (j:=i - 1 - j) M.wx (by omega)
    have hl:=way_lab M.F M.wx M.x0 (i - 1 - j) (by omega)
    rw [show i - 1 - j+1=i - j by omega] at hn
    rw [show i - (j+1)=i - 1 - j by omega]
    exact ahead_edge M.F K (by omega) hn
  · subst q
    rw [ringL_e hi,ringM_x hi (Nat.le_refl _),Nat.sub_self];refine ⟨?_,M.tight⟩
    by_cases k0:k=0
    · subst k0
      rw [show (j+1)%(1+j+0)=0 by rw [show 1+j+0=j+1 by omega];exact Nat.mod_self _,ringM_x hi (Nat.zero_le _),Nat.sub_zero,M.joint]
      exact M.cn
    · rw [Nat.mod_eq_of_lt (by omega),show j+1=1+j+0 by omega,ringM_y hi hk (by omega)]
      exact M.cn
  · obtain ⟨t,rfl⟩:∃ t,j=1+i+t:=⟨j - (1+i),by omega⟩
    have ht:t < k:=by omega
    rw [ringL_y hi hk ht,ringM_y hi hk ht]
    have hn:=way_next (j:=t) M.wy (by omega)
    have hl:=way_lab M.F M.wy M.y0 t (by omega)
    obtain ⟨h1,h2⟩:=ahead_edge M.F K (by omega) hn
    refine ⟨?_,h2⟩
    by_cases tk:t+1=k
    · rw [show 1+i+t+1=1+i+k by omega,Nat.mod_self,ringM_x hi (Nat.zero_le _),Nat.sub_zero,M.joint,← tk]
      exact h1.symm
    · rw [Nat.mod_eq_of_lt (by omega),show 1+i+t+1=1+i+(t+1) by omega,ringM_y hi hk (by omega)]
      exact h1.symm
theorem Meet.inM (M:Meet es s l rk e xs ys i k) {m:Nat}:m∈ringM xs ys i k↔(∃ j,j≤i∧m=xs.getD j 0)∨∃ j,j < k∧m=ys.getD j 0:=by
  have hi:=M.hi;have hk:=M.hk;constructor
  · intro h
    obtain ⟨j,hj,rfl⟩:=mem_getD (d:=0) h;rw [ringM_len hi hk] at hj
    by_cases q:j≤i
    · exact .inl ⟨i - j,by omega,ringM_x hi q⟩
    · obtain ⟨t,rfl⟩:∃ t,j=1+i+t:=⟨j - (1+i),by omega⟩
      exact .inr ⟨t,by omega,ringM_y hi hk (by omega)⟩
  · rintro (⟨j,hj,rfl⟩ | ⟨j,hj,rfl⟩)
    · have:=ringM_x (ys:=ys) (k:=k) hi (j:=i - j) (by omega)
      rw [show i - (i - j)=j by omega] at this
      rw [← this]
      exact getD_mem0 (by rw [ringM_len hi hk];omega)
    · rw [← ringM_y hi hk hj]
      exact getD_mem0 (by rw [ringM_len hi hk];omega)
theorem Meet.member (M:Meet es s l rk e xs ys i k) {m:Nat} (h:m∈ringM xs ys i k):IsTop s m∧l.lab m≠0∧rk (xs.getD i 0)≤rk m:=by
  have hi:=M.hi;have hk:=M.hk;rcases M.inM.1 h with ⟨j,hj,rfl⟩ | ⟨j,hj,rfl⟩
  · have hl:=way_lab M.F M.wx M.x0 j (by omega)
    refine ⟨M.F.top _ (by omega),by omega,?_⟩
    by_cases q:j=i
    · rw [q];exact Nat.le_refl _
    · exact Nat.le_of_lt (way_rk M.F M.wx M.x0 (by omega) hi)
  · have hl:=way_lab M.F M.wy M.y0 j (by omega)
    refine ⟨M.F.top _ (by omega),by omega,?_⟩
    rw [M.joint];exact Nat.le_of_lt (way_rk M.F M.wy M.y0 hj hk)
theorem Meet.nodup (M:Meet es s l rk e xs ys i k):(ringM xs ys i k).Nodup:=by
  have hi:=M.hi;have hk:=M.hk;rw [List.nodup_iff_pairwise_ne,List.pairwise_iff_getElem];intro p q hp hq hpq he;rw [ringM_len hi hk] at hp hq
  have e':(ringM xs ys i k).getD p 0=(ringM xs ys i k).getD q 0:=by simpa [List.getD,ringM_len hi hk,hp,hq] using he
  by_cases q1:q≤i
  · rw [ringM_x hi (by omega),ringM_x hi q1] at e'
    have:=way_inj M.F M.wx M.x0 (by omega) (by omega) e'
    omega
  · obtain ⟨t,rfl⟩:∃ t,q=1+i+t:=⟨q - (1+i),by omega⟩
    rw [ringM_y hi hk (by omega)] at e'
    by_cases p1:p≤i
    · rw [ringM_x hi p1] at e'
      by_cases p0:p=0
      · subst p0
        rw [Nat.sub_zero,M.joint] at e'
        have:=way_inj M.F M.wy M.y0 hk (by omega) e'
        omega
      · exact M.first (i - p) (by omega) (by rw [e'];exact getD_mem0 (by omega))
    · obtain ⟨u,rfl⟩:∃ u,p=1+i+u:=⟨p - (1+i),by omega⟩
      rw [ringM_y hi hk (by omega)] at e'
      have:=way_inj M.F M.wy M.y0 (by omega) (by omega) e'
      omega
theorem Meet.mates (M:Meet es s l rk e xs ys i k) (K:Ok es s) {m f c:Nat} (h:m∈ringM xs ys i k) (hj:m≠xs.getD i 0) (hm:s.mate m=some f) (hc:IsTop s c) (hmc:s.mate c=some f):c∈ringM xs ys i k:=by
  have hi:=M.hi;have hk:=M.hk;obtain ⟨e1,e2⟩:=M.even K
  have key:∀ zs:List Nat,∀ n,IsWay l zs→l.lab (zs.getD 0 0)=1→n < zs.length→n%2=0→∀ j,j < n→m=zs.getD j 0→∃ j',j' < n∧c=zs.getD j' 0:=fun zs n wz z0 hn n2 j hj' em=>by
    have hl:=way_lab M.F wz z0
    by_cases p:j%2=0
    · -- an even one: its mate is the next
      have l1:=hl j (by omega)
      have nx:=way_next (j:=j) wz (by omega)
      obtain ⟨_,_,f1,a1,a2,_,_⟩:=M.F.even _ _ (show l.lab (zs.getD j 0)=1 by omega) nx
      rw [← em,hm] at a1;cases a1
      have l2:=hl (j+1) (by omega)
      have t2:IsTop s (zs.getD (j+1) 0):=M.F.top _ (by omega)
      rcases K.mate2 (M.member h).1 t2 hc hm a2 hmc (fun q=>by rw [q,em] at l2;omega) with q | q
      · exact ⟨j,hj',by rw [q,em]⟩
      · exact ⟨j+1,by omega,q⟩
    · -- an odd one: its mate is the one before
      have l1:=hl (j - 1) (by omega)
      have l2:=hl j (by omega)
      have nx:=way_next (j:=j - 1) wz (by omega)
      rw [show j - 1+1=j by omega] at nx
      obtain ⟨_,_,f1,a1,a2,_,_⟩:=M.F.even _ _ (show l.lab (zs.getD (j - 1) 0)=1 by omega) nx
      rw [← em,hm] at a2;cases a2
      have t2:IsTop s (zs.getD (j - 1) 0):=M.F.top _ (by omega)
      rcases K.mate2 (M.member h).1 t2 hc hm a1 hmc (fun q=>by rw [q,em] at l1;omega) with q | q
      · exact ⟨j,hj',by rw [q,em]⟩
      · exact ⟨j - 1,by omega,q⟩
  rcases M.inM.1 h with ⟨j,hji,em⟩ | ⟨j,hjk,em⟩
  · have hji':j < i:=by
      rcases Nat.lt_or_ge j i with q | q
      · exact q
      · exfalso;exact hj (by rw [em,show j=i by omega])
    obtain ⟨j',h1,h2⟩:=key xs i M.wx M.x0 hi e1 j hji' em
    exact M.inM.2 (.inl ⟨j',by omega,h2⟩)
  · obtain ⟨j',h1,h2⟩:=key ys k M.wy M.y0 hk e2 j hjk em
    exact M.inM.2 (.inr ⟨j',h1,h2⟩)
end
end Go.Proofs.Ytafhipglhnfgnaa.Ab
set_option linter.unusedSimpArgs false
set_option linter.unusedVariables false
set_option linter.unnecessarySimpa false
set_option maxHeartbeats 4000000
namespace Go.Proofs.Ytafhipglhnfgnaa.Ab
open Go.RowKit
def addR (s:Sv) (ms ls:List Nat) (j:Nat):Sv where
  n:=s.n
  N:=s.N+1
  y:=s.y
  up:=fun v=>if v∈ms then some s.N else if v=s.N then none else s.up v
  mem:=fun p=>if p=s.N then ms else s.mem p
  lnk:=fun p=>if p=s.N then ls else s.lnk p
  mate:=fun t=>if t=s.N then s.mate j else if t∈ms then none else s.mate t
  base:=fun t=>if t=s.N then s.base j else s.base t
  z:=fun p=>if p=s.N then 0 else s.z p
  gone:=fun p=>if p=s.N then false else s.gone p
structure RingOk (es:List E) (s:Sv) (ms ls:List Nat) (j:Nat):Prop where
  top:∀ m∈ms,IsTop s m
  jm:j∈ms
  len:3≤ms.length∧ms.length%2=1
  nd:ms.Nodup
  ll:ls.length=ms.length
  lnk:∀ i,i < ms.length→Jn es s (ls.getD i 0) (ms.getD i 0) (ms.getD ((i+1)%ms.length) 0)∧Tight es s (ls.getD i 0)
  mates:∀ m f c,m∈ms→m≠j→s.mate m=some f→IsTop s c→s.mate c=some f→c∈ms
  full:∀ m∈ms,m≠j→(s.mate m).isSome=true
  out:∀ f c,s.mate j=some f→IsTop s c→c≠j→s.mate c=some f→¬ c∈ms
section
variable {es:List E} {s:Sv} {ms ls:List Nat} {j u v t e p:Nat}
theorem wi_add (K:Ok es s) (R:RingOk es s ms ls j) (hu:u < s.N):Wi (addR s ms ls j) u v↔Wi s u v∨(v=s.N∧∃ m∈ms,Wi s u m):=by
  constructor
  · intro h
    induction h with
    | refl=>exact .inl (.refl _)
    | step e k ih =>
      rename_i a b c
      simp only [addR] at e
      by_cases hm:a∈ms
      · rw [if_pos hm] at e
        cases e
        cases k with
        | refl=>exact .inr ⟨rfl,a,hm,.refl _⟩
        | step e2 _ =>
          simp only [addR] at e2
          rw [if_neg (fun q=>by have:=(R.top _ q).1;omega),if_pos trivial] at e2
          cases e2
      · rw [if_neg hm,if_neg (by omega)] at e
        have hb:=(K.upOk _ _ e).2;rcases ih hb with q | ⟨q,m,hm2,q2⟩
        · exact .inl (.step e q)
        · exact .inr ⟨q,m,hm2,.step e q2⟩
  · have lift:∀ {u v},Wi s u v→u < s.N→Wi (addR s ms ls j) u v:=fun h hu=>by
      induction h with
      | refl=>exact .refl _
      | step e k ih =>
        rename_i a b c
        have hb:=(K.upOk _ _ e).2;refine .step ?_ (ih hb);simp only [addR]
        rw [if_neg (fun q=>by have:=(R.top _ q).2.1;rw [e] at this;cases this),if_neg (by omega)]
        exact e
    rintro (h | ⟨rfl,m,hm,h⟩)
    · exact lift h hu
    · exact (lift h hu).trans (.one (by simp only [addR];rw [if_pos hm]))
theorem wi_add_old (K:Ok es s) (R:RingOk es s ms ls j) (hu:u < s.N) (hv:v < s.N):Wi (addR s ms ls j) u v↔Wi s u v:=by
  rw [wi_add K R hu]
  exact ⟨fun h=>h.elim id fun q=>absurd q.1 (by omega),.inl⟩
theorem wi_addR (K:Ok es s) (R:RingOk es s ms ls j) (hu:u < s.N):Wi (addR s ms ls j) u s.N↔∃ m∈ms,Wi s u m:=by
  rw [wi_add K R hu];constructor
  · rintro (h | ⟨_,h⟩)
    · have:=h.lt K.upOk hu;omega
    · exact h
  · exact fun h=>.inr ⟨rfl,h⟩
theorem slk_add (K:Ok es s) (R:RingOk es s ms ls j) (he:e < es.length):slk es (addR s ms ls j) e=slk es s e:=by
  have h1:=K.ed e he;have hN:=K.nN;unfold slk
  have hz:zSum (addR s ms ls j) (vA es e) (vB es e) (s.N+1)=zSum s (vA es e) (vB es e) s.N:=by
    have e2:zSum (addR s ms ls j) (vA es e) (vB es e) (s.N+1)=zSum (addR s ms ls j) (vA es e) (vB es e) s.N:=by
      show zSum _ _ _ s.N+_=_
      have:(addR s ms ls j).z s.N=0:=by simp [addR]
      rw [this];simp
    rw [e2]
    refine zSum_congr _ (fun p hp _=>⟨?_,fun _ _=>?_⟩) rfl
    · rw [wi_add_old K R (by omega) hp,wi_add_old K R (by omega) hp]
    · simp only [addR];rw [if_neg (by omega)]
  show s.y _+s.y _ - _+zSum _ _ _ (s.N+1)=_;rw [hz]
theorem tight_add (K:Ok es s) (R:RingOk es s ms ls j) (h:Jn es s e u v) (ht:Tight es s e):Tight es (addR s ms ls j) e:=by
  unfold Tight at *;rw [slk_add K R h.1];exact ht
theorem cn_add (K:Ok es s) (R:RingOk es s ms ls j) (h:Jn es s e u v):Jn es (addR s ms ls j) e u v:=by
  have h1:=K.ed e h.1;have hN:=K.nN;refine ⟨h.1,?_⟩;rcases h.2 with ⟨a,b⟩ | ⟨a,b⟩
  · exact .inl ⟨(wi_add K R (by omega)).2 (.inl a),(wi_add K R (by omega)).2 (.inl b)⟩
  · exact .inr ⟨(wi_add K R (by omega)).2 (.inl a),(wi_add K R (by omega)).2 (.inl b)⟩
theorem in_ring (K:Ok es s) (R:RingOk es s ms ls j) {m:Nat} (hm:m∈ms):Wi (addR s ms ls j) m s.N:=.one (by simp only [addR];rw [if_pos hm])
theorem top_add (K:Ok es s) (R:RingOk es s ms ls j):IsTop (addR s ms ls j) t↔t=s.N∨(IsTop s t∧¬ t∈ms):=by
  have hN:¬ s.N∈ms:=fun q=>by have:=(R.top _ q).1;omega
  constructor
  · rintro ⟨h1,h2,h3⟩
    by_cases q:t=s.N
    · exact .inl q
    · simp only [addR] at h1 h2 h3
      by_cases hm:t∈ms
      · rw [if_pos hm] at h2;cases h2
      · rw [if_neg hm,if_neg q] at h2
        rw [if_neg q] at h3
        exact .inr ⟨⟨by omega,h2,h3⟩,hm⟩
  · rintro (rfl | ⟨⟨h1,h2,h3⟩,hm⟩)
    · refine ⟨Nat.lt_succ_self _,?_,?_⟩
      · simp only [addR];rw [if_neg hN,if_pos trivial]
      · simp only [addR];rw [if_pos trivial]
    · refine ⟨Nat.lt_succ_of_lt h1,?_,?_⟩
      · simp only [addR];rw [if_neg hm,if_neg (by omega)];exact h2
      · simp only [addR];rw [if_neg (by omega)];exact h3
theorem ring_add:IsRing (addR s ms ls j) p↔(p=s.N∧s.n≤s.N)∨IsRing s p:=by
  unfold IsRing;simp only [addR]
  by_cases q:p=s.N
  · subst q
    rw [if_pos rfl];constructor
    · exact fun h=>.inl ⟨rfl,h.1⟩
    · rintro (h | h)
      · exact ⟨h.2,by omega,rfl⟩
      · omega
  · rw [if_neg q]
    constructor
    · exact fun h=>.inr ⟨h.1,by omega,h.2.2⟩
    · rintro (h | h)
      · exact absurd h.1 q
      · exact ⟨h.1,by omega,h.2.2⟩
theorem Ok.par1 (K:Ok es s) (ht:t < s.N) (hg:s.gone t=false) {u v:Nat} (hu:u < s.n) (hv:v < s.n) (h1:Wi s u t) (h2:Wi s v t):s.y u%2=s.y v%2:=by
  rcases Nat.lt_or_ge t s.n with q | q
  · -- a vertex
    have key:∀ {x},Wi s x t→x=t:=fun h=>by
      rcases h.last with e | ⟨m,e,_⟩
      · exact e
      · have:=(K.up _ _ e).2.1.1;omega
    rw [key h1,key h2]
  · exact K.par t u v ⟨q,ht,hg⟩ hu hv h1 h2
theorem tight_par (K:Ok es s) {a b x w:Nat} (hc:Jn es s e a b) (ht:Tight es s e) (ha:IsTop s a) (hb:IsTop s b) (hab:a≠b) (hx:x < s.n) (hw:w < s.n) (h1:Wi s x a) (h2:Wi s w b):s.y x%2=s.y w%2:=by
  have hed:=K.ed e hc.1
  have hne:top s (vA es e)≠top s (vB es e):=by
    rcases hc.tops K ha hb with ⟨q1,q2⟩ | ⟨q1,q2⟩
    · rw [q1,q2];exact hab
    · rw [q1,q2];exact Ne.symm hab
  have hs:=slk_apart (es:=es) (s:=s) (e:=e) K hne;unfold Tight at ht;rw [ht] at hs;rcases hc.2 with ⟨q1,q2⟩ | ⟨q1,q2⟩
  · have p1:=K.par1 ha.1 ha.2.2 hx hed.1 h1 q1
    have p2:=K.par1 hb.1 hb.2.2 hw hed.2.1 h2 q2;omega
  · have p1:=K.par1 ha.1 ha.2.2 hx hed.2.1 h1 q1
    have p2:=K.par1 hb.1 hb.2.2 hw hed.1 h2 q2;omega
theorem node_vertex (K:Ok es s):∀ (t:Nat),t < s.N→s.gone t=false→∃ v,v < s.n∧Wi s v t:=by
  intro t
  induction t using Nat.strongRecOn with
  | _ t ih =>
    intro ht hg;rcases Nat.lt_or_ge t s.n with q | q
    · exact ⟨t,q,.refl _⟩
    · obtain ⟨r1,_,_,r4⟩:=K.ring t ⟨q,ht,hg⟩
      have hm:(s.mem t).getD 0 0∈s.mem t:=getD_mem0 (by omega)
      have hup:=r4 _ hm;obtain ⟨u1,_,u3,_⟩:=K.up _ _ hup
      obtain ⟨v,h1,h2⟩:=ih _ u1 (by omega) u3
      exact ⟨v,h1,h2.trans (.one hup)⟩
theorem ring_par (K:Ok es s) (R:RingOk es s ms ls j) {x w:Nat} (hx:x < s.n) (hw:w < s.n) {a b:Nat} (ha:a∈ms) (hb:b∈ms) (h1:Wi s x a) (h2:Wi s w b):s.y x%2=s.y w%2:=by
  have hlen:=R.len.1
  have key:∀ i,i < ms.length→∀ x w,x < s.n→w < s.n→Wi s x (ms.getD 0 0)→Wi s w (ms.getD i 0)→s.y x%2=s.y w%2:=by
    intro i
    induction i with
    | zero =>
      intro hi x w hx hw h1 h2;have ht:=R.top _ (getD_mem0 hi);exact K.par1 ht.1 ht.2.2 hx hw h1 h2
    | succ i ih =>
      intro hi x w hx hw h1 h2
      have t1:=R.top _ (getD_mem0 (show i < ms.length by omega))
      have t2:=R.top _ (getD_mem0 hi);obtain ⟨v,hv,h3⟩:=node_vertex K _ t1.1 t1.2.2
      obtain ⟨l1,l2⟩:=R.lnk i (by omega)
      rw [Nat.mod_eq_of_lt hi] at l1
      have hne:ms.getD i 0≠ms.getD (i+1) 0:=fun q=>by
        have hp:=(List.pairwise_iff_getElem.1 (List.nodup_iff_pairwise_ne.1 R.nd)) i (i+1) (by omega) hi (by omega)
        exact hp (by simpa [List.getD,hi,show i < ms.length by omega] using q)
      rw [ih (by omega) x v hx hv h1 h3]
      exact tight_par K l1 l2 t1 t2 hne hv hw h3 h2
  obtain ⟨p,hp,rfl⟩:=mem_getD (d:=0) ha;obtain ⟨q,hq,rfl⟩:=mem_getD (d:=0) hb
  have t0:=R.top _ (getD_mem0 (show 0 < ms.length by omega))
  obtain ⟨v,hv,h3⟩:=node_vertex K _ t0.1 t0.2.2;rw [← key p hp v x hv hx h3 h1,← key q hq v w hv hw h3 h2]
theorem add_ok (K:Ok es s) (R:RingOk es s ms ls j):Ok es (addR s ms ls j):=by
  have hNm:¬ s.N∈ms:=fun q=>by have:=(R.top _ q).1;omega
  have hN:=K.nN
  refine ⟨by simp only [addR];omega,K.ed,fun v p h=>?_,fun p hp=>?_,fun p hp=>?_,fun p hp=>?_,fun t e ht hm=>?_,fun t ht hm=>?_,fun p hp=>?_,fun e he=>by rw [slk_add K R he];exact K.feas e he,fun p hp=>?_,fun p u v hp hu hv h1 h2=>?_⟩
  · simp only [addR] at h
    by_cases hm:v∈ms
    · rw [if_pos hm] at h
      cases h;have ht:=R.top _ hm;refine ⟨ht.1,ring_add.2 (.inl ⟨rfl,hN⟩),?_,?_⟩
      · simp only [addR];rw [if_neg (by have:=ht.1;omega)];exact ht.2.2
      · simp only [addR];rw [if_pos trivial];exact hm
    · rw [if_neg hm] at h
      by_cases q:v=s.N
      · rw [if_pos q] at h;cases h
      · rw [if_neg q] at h
        obtain ⟨h1,h2,h3,h4⟩:=K.up v p h
        have hpN:p≠s.N:=by have:=h2.2.1;omega
        refine ⟨h1,ring_add.2 (.inr h2),?_,?_⟩
        · simp only [addR];rw [if_neg q];exact h3
        · simp only [addR];rw [if_neg hpN];exact h4
  · rcases ring_add.1 hp with ⟨rfl,_⟩ | hp
    · simp only [addR,if_true]
      exact ⟨R.len.1,R.len.2,R.nd,fun v hv=>if_pos hv⟩
    · have hpN:p≠s.N:=by have:=hp.2.1;omega
      obtain ⟨h1,h2,h3,h4⟩:=K.ring p hp;simp only [addR];rw [if_neg hpN]
      refine ⟨h1,h2,h3,fun v hv=>?_⟩
      have hu:=h4 v hv
      rw [if_neg (fun q=>by have:=(R.top _ q).2.1;rw [hu] at this;cases this),if_neg (fun q=>by have:=(K.up v p hu).1;have:=hp.2.1;omega)]
      exact hu
  · rcases ring_add.1 hp with ⟨rfl,_⟩ | hp
    · have e1:(addR s ms ls j).lnk s.N=ls:=by simp [addR]
      have e2:(addR s ms ls j).mem s.N=ms:=by simp [addR]
      rw [e1,e2]
      exact ⟨R.ll,fun i hi=>⟨cn_add K R (R.lnk i hi).1,tight_add K R (R.lnk i hi).1 (R.lnk i hi).2⟩⟩
    · have hpN:p≠s.N:=by have:=hp.2.1;omega
      have e1:(addR s ms ls j).lnk p=s.lnk p:=by simp [addR,hpN]
      have e2:(addR s ms ls j).mem p=s.mem p:=by simp [addR,hpN]
      rw [e1,e2];obtain ⟨h1,h2⟩:=K.lnk p hp
      exact ⟨h1,fun i hi=>⟨cn_add K R (h2 i hi).1,tight_add K R (h2 i hi).1 (h2 i hi).2⟩⟩
  · simp only [addR] at hp ⊢
    by_cases q:p=s.N
    · rw [if_pos q] at hp;cases hp
    · rw [if_neg q] at hp
      obtain ⟨h1,h2⟩:=K.gone p hp;refine ⟨h1,?_⟩
      rw [if_neg (fun k=>by have:=(R.top _ k).2.2;rw [hp] at this;cases this),if_neg q]
      exact h2
  · -- mates
    rcases (top_add K R).1 ht with rfl | ⟨ht,hn⟩
    · have hm':s.mate j=some e:=by simpa [addR] using hm
      have hjt:=R.top _ R.jm;obtain ⟨h1,o,h2,h3,h4,h5⟩:=K.mate j e hjt hm';have hout:=R.out e o hm' h2 h3 h4
      refine ⟨tight_add K R h5 h1,o,(top_add K R).2 (.inr ⟨h2,hout⟩),by have:=h2.1;omega,?_,?_⟩
      · simp only [addR];rw [if_neg (by have:=h2.1;omega),if_neg hout];exact h4
      · exact (cn_add K R h5).wide (in_ring K R R.jm) (.refl _)
    · have htN:t≠s.N:=by have:=ht.1;omega
      have hm':s.mate t=some e:=by
        simp only [addR] at hm;rw [if_neg htN,if_neg hn] at hm;exact hm
      obtain ⟨h1,o,h2,h3,h4,h5⟩:=K.mate t e ht hm'
      by_cases ho:o∈ms
      · have hoj:o=j:=by
          apply Classical.byContradiction
          intro q;exact hn (R.mates o e t ho q h4 ht hm')
        subst hoj
        refine ⟨tight_add K R h5 h1,s.N,(top_add K R).2 (.inl rfl),Ne.symm htN,by simpa [addR] using h4,(cn_add K R h5).wide (.refl _) (in_ring K R ho)⟩
      · have hoN:o≠s.N:=by have:=h2.1;omega
        refine ⟨tight_add K R h5 h1,o,(top_add K R).2 (.inr ⟨h2,ho⟩),h3,?_,cn_add K R h5⟩;simp only [addR];rw [if_neg hoN,if_neg ho];exact h4
  · by_cases q:t=s.N
    · subst q
      have hjt:=R.top _ R.jm;obtain ⟨h1,h2⟩:=K.base j hjt.1 hjt.2.2
      have e1:(addR s ms ls j).base s.N=s.base j:=by simp [addR]
      rw [e1]
      exact ⟨h1,((wi_add K R (by omega)).2 (.inl h2)).trans (in_ring K R R.jm)⟩
    · have htN:t < s.N:=by simp only [addR] at ht;omega
      have hg:s.gone t=false:=by simpa [addR,q] using hm
      obtain ⟨h1,h2⟩:=K.base t htN hg
      have e1:(addR s ms ls j).base t=s.base t:=by simp [addR,q]
      rw [e1]
      exact ⟨h1,(wi_add K R (by omega)).2 (.inl h2)⟩
  · rcases ring_add.1 hp with ⟨rfl,_⟩ | hp
    · have e1:(addR s ms ls j).mem s.N=ms:=by simp [addR]
      have e2:(addR s ms ls j).base s.N=s.base j:=by simp [addR]
      have e3:(addR s ms ls j).base j=s.base j:=by
        have:=(R.top _ R.jm).1
        simp only [addR];rw [if_neg (by omega)]
      rw [e1,e2];exact ⟨j,R.jm,e3.symm⟩
    · have hpN:p≠s.N:=by have:=hp.2.1;omega
      obtain ⟨q,h1,h2⟩:=K.baseM p hp
      have e1:(addR s ms ls j).mem p=s.mem p:=by simp [addR,hpN]
      have e2:(addR s ms ls j).base p=s.base p:=by simp [addR,hpN]
      have hq:=(K.ring p hp).2.2.2 q h1
      have hqN:q≠s.N:=by have:=(K.up q p hq).1;have:=hp.2.1;omega
      have e3:(addR s ms ls j).base q=s.base q:=by simp [addR,hqN]
      rw [e1,e2]
      exact ⟨q,h1,by rw [e3];exact h2⟩
  · rcases ring_add.1 hp with ⟨rfl,_⟩ | hp
    · simp [addR]
    · have hpN:p≠s.N:=by have:=hp.2.1;omega
      simp only [addR];rw [if_neg hpN];exact K.z0 p hp
  · rcases ring_add.1 hp with ⟨rfl,_⟩ | hp
    · obtain ⟨a,ha,h3⟩:=(wi_addR K R (by have:u < s.n:=hu;omega)).1 h1
      obtain ⟨b,hb,h4⟩:=(wi_addR K R (by have:v < s.n:=hv;omega)).1 h2
      exact ring_par K R hu hv ha hb h3 h4
    · have hpN:=hp.2.1
      exact K.par p u v hp hu hv ((wi_add_old K R (by have:u < s.n:=hu;omega) hpN).1 h1) ((wi_add_old K R (by have:v < s.n:=hv;omega) hpN).1 h2)
end
end Go.Proofs.Ytafhipglhnfgnaa.Ab
