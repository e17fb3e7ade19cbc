/- Joined: K115, K20, Op, Op3, K116, LFnSwaps. No conditions. -/
import Derived.Test.YtafhipglhnfgnaaM18
import Derived.Test.YtafhipglhnfgnaaM13
import Derived.Test.YtafhipglhnfgnaaM4
import Derived.ChangeArms
import Derived.Deep.Slices
import Derived.Test.YtafhipglhnfgnaaFT
import Derived.OpenShut
import Derived.Below
import Derived.Carry
import Derived.ChangeShapes
import Derived.WideShapes
import Derived.Test.YtafhipglhnfgnaaM11
set_option linter.unusedSimpArgs false
set_option linter.unusedVariables false
set_option linter.unnecessarySimpa false
set_option maxHeartbeats 4000000
namespace Go.Proofs.Ytafhipglhnfgnaa.Ab
open Go.RowKit
section
variable {X:CallF} {h:Heap} {cv ev mv:Value} {l:List Int} {n:Nat} {es:List E} {m:List Cp}
theorem mok_nil {size:Int} (g:GOk size es):MOk size es []:=⟨g,fun i hi=>by simp at hi⟩
open Classical in
theorem k_DrawRightMatch (hc:Rows h 1 cv (bys l)) (hl:l.length≤1048576):∃ (n:Nat) (es:List E) (ev:Value) (m:List Cp) (mv:Value) (hh:Heap),C T X n_spec_DrawRightMatch [cv] h=some (.tuple ⟨[graphV n ev,mv]⟩,hh)∧GOk n es∧h <+: hh∧Own hh h.length hh.length 5 y_Edge ev (edges es)∧Own hh h.length hh.length 2 y_Couple mv (cps m)∧MOk n es m:=by
  suffices hx:∃ w hh,C T X n_spec_DrawRightMatch [cv] h=some (w,hh)∧∃ (n:Nat) (es:List E) (ev:Value) (m:List Cp) (mv:Value),w=.tuple ⟨[graphV n ev,mv]⟩∧GOk n es∧h <+: hh∧Own hh h.length hh.length 5 y_Edge ev (edges es)∧Own hh h.length hh.length 2 y_Couple mv (cps m)∧MOk n es m by
    obtain ⟨w,hh,c,n,es,ev,m,mv,rfl,r⟩:=hx;exact ⟨n,es,ev,m,mv,hh,c,r⟩
  refine C_ex t_spec_DrawRightMatch rfl ?_;unfold F_spec_DrawRightMatch;obtain ⟨x0,c1⟩:=k_l01New (X:=X) hc hl;have d1:=dr_new hc hl (x:=x0);obtain ⟨h1,hh1⟩:∃ h1:Heap,h1=h++[curB cv 0 x0]:=⟨_,rfl⟩;rw [← hh1] at c1 d1
  have f1:Fr' h.length h h1:=by rw [hh1];exact Fr'.pre (List.prefix_append _ _)
  have hl1:h1.length=h.length+1:=by rw [hh1];simp
  obtain ⟨n,es,ev,h2,c2,g,o,d2,f2⟩:=k_l08Graph (X:=X) d1;have hel:=gok_len g
  obtain ⟨mv,m,h3,c3,om,hml,d3,f3⟩:=k_l09Match (X:=X) (n:=n) d2 o (by omega) (Nat.le_refl _) (by omega)
  have oe3:Own h3 h1.length h2.length 5 y_Edge ev (edges es):=o.fr f3 (by omega) (Nat.le_refl _)
  have f13:=(f1.trans f2).trans f3;have l2:=f2.len;have l3:=f3.len
  have cm:=k_spec_MatchOk (X:=X) (size:=(n:Int)) oe3.rows om.rows (by unfold lim;omega) (by omega)
  unfold graphV at c2 c3 cm
  by_cases q:MOk n es m
  · rw [decide_eq_true q] at cm
    simp only [c1,c2,c3,cm,zeros,fillAt,List.prefix_refl,go_sem];obtain ⟨hh,e,p,hcs⟩:=finish_cases (v:=.tuple ⟨[.agg ⟨[.int .i64 (n:Nat),ev]⟩,mv]⟩) (dr_pre f13);rw [e];refine ⟨om.live,n,es,ev,m,mv,rfl,g,p,?_⟩;rcases hcs with rfl | ⟨hf,rfl⟩
    · exact ⟨oe3.wide (by omega) (by omega),om.wide (by omega) (Nat.le_refl _),q⟩
    · have hf':prim ev=true∧prim mv=true:=by
        rcases oe3.is with ⟨q1,_⟩ | ⟨c1,_,_,q1,_⟩<;>rcases om.is with ⟨q2,_⟩ | ⟨c2,_,_,q2,_⟩<;>rw [q1,q2] at hf<;>rw [q1,q2]<;>simp [flat,flat1,prim] at hf ⊢
      exact ⟨oe3.flatP hf'.1,om.flatP hf'.2,q⟩
  · rw [decide_eq_false q] at cm
    have p4:h3 <+: h3++([⟨[],2,y_Couple,true⟩]:Heap):=List.prefix_append _ _;simp only [c1,c2,c3,cm,zeros,fillAt,List.prefix_refl,go_sem]
    have hd:∀ hx:Heap,finish h (.tuple ⟨[.agg ⟨[.int .i64 (n:Nat),ev]⟩,.slice (some ⟨h3.length,0,none⟩) 0 0]⟩,hx)=(.tuple ⟨[.agg ⟨[.int .i64 (n:Nat),ev]⟩,.slice (some ⟨h3.length,0,none⟩) 0 0]⟩,hx):=fun hx=>finish_deep (by simp [flat,flat1,prim])
    rw [hd]
    exact ⟨n,es,ev,[],_,rfl,g,(dr_pre f13).trans p4,(oe3.up p4).wide (by omega) (Nat.le_trans l3 (pre_len p4)),(Acc.new (h:=h3) (sz:=2) (ty:=y_Couple)).own.wide (by omega) (Nat.le_refl _),mok_nil g⟩
end
end Go.Proofs.Ytafhipglhnfgnaa.Ab
set_option linter.unusedSimpArgs false
set_option linter.unusedVariables false
set_option linter.unnecessarySimpa false
set_option maxHeartbeats 4000000
namespace Go.Proofs.Ytafhipglhnfgnaa.Ab
open Go.RowKit
def swapE (es:List E) (m n:List Cp):List E:=es.filter fun e=>decide ((⟨e.a,e.b⟩:Cp)∈m) != decide ((⟨e.a,e.b⟩:Cp)∈n)
theorem swapE_take {es:List E} {m n:List Cp} {i:Nat} (hi:i < es.length):swapE (es.take (i+1)) m n=if (decide ((⟨(es.getD i e0).a,(es.getD i e0).b⟩:Cp)∈m) != decide ((⟨(es.getD i e0).a,(es.getD i e0).b⟩:Cp)∈n))=true then swapE (es.take i) m n++[es.getD i e0] else swapE (es.take i) m n:=by
  unfold swapE;rw [take_getD (d:=e0) hi,List.filter_append];split
  · rename_i h;simp only [List.filter_cons,h,if_true,List.filter_nil]
  · rename_i h;simp only [List.filter_cons,h,List.filter_nil,List.append_nil];simp
theorem swapE_len {es:List E} {m n:List Cp}:(swapE es m n).length≤es.length:=List.length_filter_le _ _
theorem swapE_mem {es:List E} {m n:List Cp} {e:E} (h:e∈swapE es m n):e∈es:=(List.mem_filter.1 h).1
theorem edges_snoc {l:List E} {e:E}:edges (l++[e])=edges l++[edgeR e]:=by simp [edges]
def longL (ll:List (List Int)):List (List Int):=ll.filter fun l=>decide (1 < l.length)
theorem longL_take {ll:List (List Int)} {i:Nat} (hi:i < ll.length):longL (ll.take (i+1))=if 1 < (ll.getD i []).length then longL (ll.take i)++[ll.getD i []] else longL (ll.take i):=by
  unfold longL;rw [take_getD (d:=[]) hi,List.filter_append];split
  · rename_i h;simp only [List.filter_cons,h,decide_true,if_true,List.filter_nil]
  · rename_i h;simp only [List.filter_cons,h,decide_false,List.filter_nil,List.append_nil];simp
theorem longL_len {ll:List (List Int)}:(longL ll).length≤ll.length:=List.length_filter_le _ _
open Classical in
noncomputable def swapL (es:List E) (m n:List Cp) (size:Int):List (List Int):=if MOk size es m∧MOk size es n then longL (comps (swapE es m n) [] size.toNat) else []
theorem swapL_bnd {es:List E} {m n:List Cp} {size:Int}:(swapL es m n size).length≤lim∧(∀ l∈swapL es m n size,l.length≤lim)∧(swapL es m n size).length≤1048576∧totLL (swapL es m n size)≤1152921504606846976:=by
  unfold swapL;split
  · rename_i g
    have gs:=g.1.1.1;have h0:=longL_len (ll:=comps (swapE es m n) [] size.toNat);have h1:=compsTo_len (es:=swapE es m n) (out:=[]) (n:=size.toNat) (k:=size.toNat)
    have h2:∀ l∈longL (comps (swapE es m n) [] size.toNat),l.length≤9:=fun l hl=>by have:=comps_mem_len (List.mem_filter.1 hl).1;omega
    have h3:=totLL_bnd h2;unfold comps at *
    refine ⟨by unfold lim;omega,fun l hl=>by have:=h2 l hl;unfold lim;omega,by omega,by omega⟩
  · exact ⟨Nat.zero_le _,(fun l hl=>by cases hl),Nat.zero_le _,Nat.zero_le _⟩
section
variable {X:CallF} {h:Heap} {ev mv nv:Value} {es:List E} {m n:List Cp} {size:Int} {c:Cp}
theorem eq_cp {a b x y:Int}:eqSV [0,0] false (.agg ⟨[.int .i64 a,.int .i64 b]⟩) (.agg ⟨[.int .i64 x,.int .i64 y]⟩)=some (.bool (decide ((⟨a,b⟩:Cp)=⟨x,y⟩))):=by
  simp only [eqSV,eqCells,eqCell,if_true]
  by_cases h1:a=x
  · by_cases h2:b=y
    · subst h1;subst h2;simp
    · have hb:(b==y)=false:=by rw [beq_eq_false_iff_ne];exact h2
      subst h1;simp [hb,h2]
  · have ha:(a==x)=false:=by rw [beq_eq_false_iff_ne];exact h1
    simp [ha,h1]
theorem k_impl_hasCouple (hm:Rows h 2 mv (cps m)) (hl:m.length≤lim):C T X n_impl_hasCouple [mv,.agg ⟨[.int .i64 c.a,.int .i64 c.b]⟩] h=some (.bool (decide (c∈m)),h):=by
  unfold lim at hl;refine C_go t_impl_hasCouple rfl ?_;unfold F_impl_hasCouple;simp only [hm.lnm,go_sem]
  refine w_for m.length (fun i t loc h'=>h'=h∧loc 3=some [.int .i64 c.a,.int .i64 c.b]∧t 7=mv∧t 8=.int .i64 m.length∧t 9=.int .i64 i∧∀ j,j < i→¬ m.getD j c0=c) ⟨rfl,rfl,rfl,rfl,rfl,fun j hj=>by omega⟩ ?_
  rintro i t loc h' hi ⟨rfl,l3,t7,t8,t9,hall⟩;simp only [t8,t9,go_sem]
  refine w_open (by simp only [go_sem];rfl) ?_ ?_<;>intro hc
  · have hi1:i < m.length:=by omega
    have hw:IntKind.i64.wrap ((i:Int)+1)=((i+1:Nat):Int):=w64 (by omega) (by omega)
    have hel:=cp_el hm hi1
    by_cases e:m.getD i c0=c
    · have hm:c∈m:=e ▸ getD_mem hi1
      have e2:(⟨(m.getD i c0).a,(m.getD i c0).b⟩:Cp)=⟨c.a,c.b⟩:=by rw [e]
      simp only [l3,t7,t8,t9,hel.1,hel.2.2.1,eq_cp,e2,hm,go_sem]
    · have e2:¬ (⟨(m.getD i c0).a,(m.getD i c0).b⟩:Cp)=⟨c.a,c.b⟩:=e
      simp only [l3,t7,t8,t9,hel.1,hel.2.2.1,eq_cp,e2,hw,go_sem];exact ⟨hi1,below_succ hall e⟩
  · have hm:¬ c∈m:=not_mem_getD (d:=c0) fun j hj=>hall j (by omega)
    simp only [hm,go_sem]
theorem k_spec_l17Has (hm:Rows h 2 mv (cps m)) (hl:m.length≤lim):C T X n_spec_l17Has [mv,.agg ⟨[.int .i64 c.a,.int .i64 c.b]⟩] h=some (.bool (decide (c∈m)),h):=by
  unfold lim at hl;refine C_go t_spec_l17Has rfl ?_;unfold F_spec_l17Has;simp only [go_sem]
  refine w_for m.length (fun i t loc h'=>h'=h∧loc 3=some [.int .i64 c.a,.int .i64 c.b]∧t 0=mv∧t 5=.int .i64 i∧∀ j,j < i→¬ m.getD j c0=c) ⟨rfl,rfl,rfl,rfl,fun j hj=>by omega⟩ ?_
  rintro i t loc h' hi ⟨rfl,l3,t0,t5,hall⟩;simp only [t0,t5,hm.lnm,go_sem]
  refine w_open (by simp only [go_sem];rfl) ?_ ?_<;>intro hc
  · have hi1:i < m.length:=by omega
    have hw:IntKind.i64.wrap ((i:Int)+1)=((i+1:Nat):Int):=w64 (by omega) (by omega)
    have hel:=cp_el hm hi1
    by_cases e:m.getD i c0=c
    · have hm:c∈m:=e ▸ getD_mem hi1
      have e2:(⟨(m.getD i c0).a,(m.getD i c0).b⟩:Cp)=⟨c.a,c.b⟩:=by rw [e]
      simp only [l3,t0,t5,hel.1,hel.2.2.1,eq_cp,e2,hm,go_sem]
    · have e2:¬ (⟨(m.getD i c0).a,(m.getD i c0).b⟩:Cp)=⟨c.a,c.b⟩:=e
      simp only [l3,t0,t5,hel.1,hel.2.2.1,eq_cp,e2,hw,go_sem];exact ⟨hi1,below_succ hall e⟩
  · have hm:¬ c∈m:=not_mem_getD (d:=c0) fun j hj=>hall j (by omega)
    simp only [hm,go_sem]
theorem pick_push {h : Heap} {lo hi lo2 hi2 : Nat} {v w : Value} {ll kk : List (List Int)} {vs ws : List Value} (o : OwnLLs h lo hi y_ints y_int v ll vs) (q : OwnLLs h lo2 hi2 y_ints y_int w kk ws) (hlo : lo ≤ h.length) (hhi : hi ≤ h.length) (hhi2 : hi2 ≤ h.length) {i : Nat} (hi1 : i < kk.length)
    (hsv:Sep v (ws.getD i nilV)) (hss:∀ j,j < ll.length→Sep (vs.getD j nilV) (ws.getD i nilV)) (hl:ll.length < lim) :
    ∃ v' h',appLW h 1 y_ints 1 v (some [ws.getD i nilV])=some (v',h')∧h.length≤h'.length∧(∀ b,b < h.length→(b < tlo v∨thi v≤b)→h'[b]?=h[b]?)∧(v≠nilV→h'.length=h.length∧tlo v'=tlo v∧thi v'=thi v) ∧
      (v'≠nilV∧(v=nilV→tlo v'=h.length))∧OwnLLs h' (min lo lo2) h'.length y_ints y_int v' (ll++[kk.getD i []]) (vs++[ws.getD i nilV]) :=
  o.pushG hlo hhi (q.ins i hi1) hsv hss hhi2 hl
theorem OwnLLs.any {h:Heap} {lo hi:Nat} {tyO tyI:TypeId} {ll:List (List Int)} {vs:List Value} {v:Value} (o:OwnLLs h lo hi tyO tyI v ll vs) {i:Nat} (hi1:i < ll.length):vs.getD i nilV=nilV∨(lo≤tlo (vs.getD i nilV)∧thi (vs.getD i nilV)≤hi):=by
  rcases (o.ins i hi1).within with h | ⟨h1,h2,_⟩
  · exact .inl h
  · exact .inr ⟨h1,h2⟩
open Classical in
theorem k_impl_Swapped (he : Rows h 5 ev (edges es)) (hm : Rows h 2 mv (cps m)) (hn : Rows h 2 nv (cps n)) (hl : es.length ≤ lim) (hml : m.length ≤ 1048576) (hnl : n.length ≤ 1048576) :
    ∃ x hh,C T X n_impl_Swapped [graphV size ev,mv,nv] h=some (x,hh)∧h <+: hh∧OwnLL hh h.length hh.length y_ints y_int x (swapL es m n size):=by
  have k1:=k_impl_MatchOk (X:=X) (size:=size) he hm hl hml;have k2:=k_impl_MatchOk (X:=X) (size:=size) he hn hl hnl;refine C_ex t_impl_Swapped rfl ?_;unfold F_impl_Swapped swapL
  by_cases g1:MOk size es m
  rotate_left
  · unfold graphV at k1 k2 ⊢
    simp only [k1,g1,go_sem];exact ⟨List.prefix_refl _,OwnLL.nil⟩
  by_cases g2:MOk size es n
  rotate_left
  · unfold graphV at k1 k2 ⊢
    simp only [k1,k2,g1,g2,go_sem];exact ⟨List.prefix_refl _,OwnLL.nil⟩
  have gs:=g1.1.1;unfold graphV at k1 k2 ⊢;simp only [k1,k2,g1,g2,he.lnm,go_sem];have hes:=gok_len g1.1
  refine w_for es.length (fun i t loc h'=>loc 3=some [.int .i64 size,ev]∧t 1=mv∧t 2=nv∧t 25=ev∧t 26=.int .i64 es.length∧t 27=.int .i64 i∧h <+: h'∧∃ v,t 7=v∧Acc h 5 y_Edge v (edges (swapE (es.take i) m n)) h') ⟨rfl,rfl,rfl,rfl,rfl,rfl,List.prefix_refl _,_,rfl,Acc.nil⟩ ?_
  rintro i t loc h' hi ⟨l3,t1,t2,t25,t26,t27,hp,v,t7,ha⟩;simp only [t26,t27,go_sem]
  refine w_open (by simp only [go_sem];rfl) ?_ ?_<;>intro hc
  · have hi1:i < es.length:=by omega
    have hw:IntKind.i64.wrap ((i:Int)+1)=((i+1:Nat):Int):=w64 (by omega) (by omega)
    have hel:=edge_el (he.up hp) hi1;have hst:=swapE_take (m:=m) (n:=n) hi1
    have c1:=k_impl_hasCouple (X:=X) (c:=⟨(es.getD i e0).a,(es.getD i e0).b⟩) (hm.up hp) (by unfold lim;omega)
    have c2:=k_impl_hasCouple (X:=X) (c:=⟨(es.getD i e0).a,(es.getD i e0).b⟩) (hn.up hp) (by unfold lim;omega)
    have hsl:=swapE_len (es:=es.take i) (m:=m) (n:=n)
    have hsl2:(es.take i).length≤es.length:=by simp;omega
    cases hb:(decide ((⟨(es.getD i e0).a,(es.getD i e0).b⟩:Cp)∈m)==decide ((⟨(es.getD i e0).a,(es.getD i e0).b⟩:Cp)∈n)) with
    | true =>
      rw [if_neg (by simp only [bne,hb];simp)] at hst
      simp only [l3,t1,t2,t7,t25,t26,t27,hel.1,hel.2.2.1,c1,c2,hb,hw,List.prefix_refl,go_sem]
      exact ⟨hi1,hp,v,rfl,by rw [hst];exact ha⟩
    | false =>
      rw [if_pos (by simp only [bne,hb];simp)] at hst
      obtain ⟨v',h2,c,ha'⟩:=ha.push1 (edgeR (es.getD i e0)) (edgeR_len _) (by rw [List.length_map];unfold lim;omega)
      unfold edgeR at c;simp only [l3,t1,t2,t7,t25,t26,t27,hel.1,hel.2.2.1,c1,c2,hb,c,hw,List.prefix_refl,go_sem];refine ⟨hi1,ha'.up,v',rfl,?_⟩;rw [hst,edges_snoc];exact ha'
  have hil:i=es.length:=by omega
  subst hil;rw [List.take_length] at ha
  have hE:∀ e∈swapE es m n,EOk size e:=fun e he=>gok_mem g1.1 (swapE_mem he)
  have hsl:=swapE_len (es:=es) (m:=m) (n:=n)
  obtain ⟨x,h2,c,p2,o2⟩:=k_impl_pieces (X:=X) (out:=[]) ha.rows (Rows.nil:Rows h' 1 (.slice none 0 0) (ints [])) (by unfold lim;omega) (Nat.zero_le _) gs hE
  have hcl:=compsTo_len (es:=swapE es m n) (out:=[]) (n:=size.toNat) (k:=size.toNat);obtain ⟨K,hK⟩:∃ K,K=comps (swapE es m n) [] size.toNat:=⟨_,rfl⟩;rw [← hK] at o2
  have hKl:K.length≤9:=by rw [hK];unfold comps;omega
  obtain ⟨ws,o2⟩:=o2;have lnK:=(OwnLL.rows ⟨ws,o2⟩).ln;simp only [l3,t7,c,lnK,go_sem];have hpp:h <+: h2:=hp.trans p2
  refine w_for K.length (fun k t loc h'=>t 51=x∧t 52=.int .i64 K.length∧t 53=.int .i64 k∧h2.length≤h'.length∧(∀ b,b < h2.length→h'[b]?=h2[b]?)∧∃ (y:Value) (vs:List Value),t 11=y∧OwnLLs h' (min h2.length h.length) h'.length y_ints y_int y (longL (K.take k)) vs∧(y=nilV∨h2.length≤tlo y)∧∀ j,j < vs.length→∃ r,r < k∧vs.getD j nilV=ws.getD r nilV)
    ⟨rfl,rfl,rfl,Nat.le_refl _,fun _ _=>rfl,_,[],rfl,⟨rfl,Own.nil,fun i hi=>(by simp [longL] at hi),fun i hi=>(by simp [longL] at hi),fun i j _ hi=>(by simp [longL] at hi)⟩,.inl rfl,fun j hj=>(by simp at hj)⟩ ?_
  rintro k t loc h3 hk ⟨t51,t52,t53,hg,hb,y,vs,t11,oo,hy,hvs⟩;have hpre:h2 <+: h3:=pre_of_get hg hb
  have o3:OwnLLs h3 h'.length h2.length y_ints y_int x K ws:=⟨o2.len,o2.out.up hpre,fun i hi=>(o2.ins i hi).up hpre,o2.so,o2.si⟩
  simp only [t52,t53,go_sem]
  refine w_open (by simp only [go_sem];rfl) ?_ ?_<;>intro hc
  · have hk1:k < K.length:=by omega
    have hw:IntKind.i64.wrap ((k:Int)+1)=((k+1:Nat):Int):=w64 (by omega) (by omega)
    obtain ⟨z,e1,e2,e3⟩:=(OwnLL.rows ⟨ws,o3⟩).el hk1
    have hz:z=ws.getD k nilV:=by
      have:=o3.out.rows.el (f:=fun x=>[x]) nilV (i:=k) (by rw [o3.len];exact hk1)
      rw [this.2.2] at e2;simpa using e2.symm
    subst hz;have hlt:=longL_take hk1
    by_cases s1:1 < (K.getD k []).length
    · rw [if_pos s1] at hlt
      have s1':(1:Int) < ((K.getD k []).length:Int):=by omega
      have hll:=longL_len (ll:=K.take k)
      have hkl:(K.take k).length=k:=by simp;omega
      have sv:Sep y (ws.getD k nilV):=by
        rcases hy with rfl | hy
        · exact sep_nil.symm
        · rcases o3.any hk1 with q | ⟨_,q⟩
          · rw [q];exact sep_nil
          · exact .inr (by omega)
      have ss:∀ j,j < (longL (K.take k)).length→Sep (vs.getD j nilV) (ws.getD k nilV):=fun j hj=>by
        obtain ⟨r,hr,e⟩:=hvs j (by rw [oo.len];exact hj)
        rw [e];exact o3.si r k hr hk1
      obtain ⟨y',h4,c4,g4,b4,d4,f4,oo4⟩:=pick_push oo o3 (by have:=pre_len hpp;omega) (Nat.le_refl _) hg hk1 sv ss (by unfold lim;omega)
      have hyn:y'≠nilV:=f4.1;have hcell:=e3.cells;simp only [t11,t51,t52,t53,e1,e2,ints_ln e3,s1',hcell,c4,hw,go_sem]
      have hty:y'=nilV∨h2.length≤tlo y':=by
        rcases hy with rfl | hy'
        · exact .inr (by rw [f4.2 rfl];exact hg)
        · by_cases hyz:y=nilV
          · exact .inr (by rw [f4.2 hyz];exact hg)
          · exact .inr (by rw [(d4 hyz).2.1];exact hy')
      refine ⟨hk1,by omega,fun b hb'=>?_,y',vs++[ws.getD k nilV],rfl,?_,hty,fun j hj=>?_⟩
      · rw [b4 b (by omega) ?_,hb b hb']
        rcases hy with rfl | hy
        · exact .inr (Nat.zero_le _)
        · exact .inl (by omega)
      · rw [hlt]
        have:=pre_len hp
        rw [show min (min h2.length h.length) h'.length=min h2.length h.length by omega] at oo4
        exact oo4
      · by_cases e:j < vs.length
        · have:(vs++[ws.getD k nilV]).getD j nilV=vs.getD j nilV:=by simp [List.getElem?_append_left e]
          rw [this];obtain ⟨r,hr,e5⟩:=hvs j e
          exact ⟨r,by omega,e5⟩
        · have e2:j=vs.length:=by simp at hj;omega
          subst e2
          exact ⟨k,by omega,by simp⟩
    · rw [if_neg s1] at hlt
      have s1':¬ (1:Int) < ((K.getD k []).length:Int):=by omega
      simp only [t11,t51,t52,t53,e1,e2,ints_ln e3,s1',hw,go_sem]
      exact ⟨hk1,hg,hb,y,vs,rfl,by rw [hlt];exact oo,hy,fun j hj=>by obtain ⟨r,hr,e⟩:=hvs j hj;exact ⟨r,by omega,e⟩⟩
  · have hkK:k=K.length:=by omega
    subst hkK;rw [List.take_length,hK] at oo;simp only [t11,go_sem];have:=pre_len hpp
    exact ⟨oo.out.live,OwnLL.fin (hpp.trans hpre) (OwnLL.wide ⟨vs,oo⟩ (by omega) (Nat.le_refl _))⟩
open Classical in
theorem k_spec_Swapped (he : Rows h 5 ev (edges es)) (hm : Rows h 2 mv (cps m)) (hn : Rows h 2 nv (cps n)) (hl : es.length ≤ lim) (hml : m.length ≤ 1048576) (hnl : n.length ≤ 1048576) :
    ∃ x hh,C T X n_spec_Swapped [graphV size ev,mv,nv] h=some (x,hh)∧h <+: hh∧OwnLL hh h.length hh.length y_ints y_int x (swapL es m n size):=by
  obtain ⟨h1,hh1⟩:∃ h1:Heap,h1=h++[⟨[],1,y_ints,true⟩]:=⟨_,rfl⟩
  have p1:h <+: h1:=by rw [hh1];exact List.prefix_append _ _
  have l1:h1.length=h.length+1:=by rw [hh1];simp
  have o7:Own h1 h.length (h.length+1) 1 y_ints (.slice (some ⟨h.length,0,none⟩) 0 0) []:=by
    have:=(Acc.new (h:=h) (sz:=1) (ty:=y_ints)).own;rw [← hh1,l1] at this;exact this
  have k1:=k_spec_MatchOk (X:=X) (size:=size) (he.up p1) (hm.up p1) hl hml;have k2:=k_spec_MatchOk (X:=X) (size:=size) (he.up p1) (hn.up p1) hl hnl;refine C_ex t_spec_Swapped rfl ?_;unfold F_spec_Swapped swapL
  by_cases g1:MOk size es m
  rotate_left
  · unfold graphV at k1 k2 ⊢
    simp only [k1,g1,← hh1,zeros,fillAt,go_sem]
    exact OwnLL.fin p1 (OwnLL.zero (by rw [l1];exact o7))
  by_cases g2:MOk size es n
  rotate_left
  · unfold graphV at k1 k2 ⊢
    simp only [k1,k2,g1,g2,← hh1,zeros,fillAt,go_sem]
    exact OwnLL.fin p1 (OwnLL.zero (by rw [l1];exact o7))
  have gs:=g1.1.1;have hes:=gok_len g1.1;obtain ⟨nn,hnn⟩:=Int.eq_ofNat_of_zero_le gs.1;unfold graphV at k1 k2 ⊢;simp only [k1,k2,g1,g2,← hh1,zeros,fillAt,go_sem]
  refine w_for es.length (fun i t loc h'=>loc 3=some [.int .i64 size,ev]∧t 1=mv∧t 2=nv∧t 7=.slice (some ⟨h.length,0,none⟩) 0 0∧t 9=.int .i64 i∧h1 <+: h'∧∃ v,loc 8=some [.int .i64 size,v]∧Acc h1 5 y_Edge v (edges (swapE (es.take i) m n)) h') ⟨rfl,rfl,rfl,rfl,rfl,List.prefix_refl _,_,rfl,Acc.nil⟩ ?_
  rintro i t loc h' hi ⟨l3,t1,t2,t7,t9,hp,v,l8,ha⟩;simp only [l3,t9,(he.up (p1.trans hp)).lnm,go_sem]
  refine w_open (by simp only [go_sem];rfl) ?_ ?_<;>intro hc
  · have hi1:i < es.length:=by omega
    have hw:IntKind.i64.wrap ((i:Int)+1)=((i+1:Nat):Int):=w64 (by omega) (by omega)
    have hel:=edge_el (he.up (p1.trans hp)) hi1;have hst:=swapE_take (m:=m) (n:=n) hi1
    have c1:=k_spec_l17Has (X:=X) (c:=⟨(es.getD i e0).a,(es.getD i e0).b⟩) (hm.up (p1.trans hp)) (by unfold lim;omega)
    have c2:=k_spec_l17Has (X:=X) (c:=⟨(es.getD i e0).a,(es.getD i e0).b⟩) (hn.up (p1.trans hp)) (by unfold lim;omega)
    have hsl:=swapE_len (es:=es.take i) (m:=m) (n:=n)
    have hsl2:(es.take i).length≤es.length:=by simp;omega
    cases hb:(decide ((⟨(es.getD i e0).a,(es.getD i e0).b⟩:Cp)∈m)==decide ((⟨(es.getD i e0).a,(es.getD i e0).b⟩:Cp)∈n)) with
    | true =>
      rw [if_neg (by simp only [bne,hb];simp)] at hst
      simp only [l3,l8,t1,t2,t7,t9,hel,c1,c2,hb,hw,List.prefix_refl,go_sem]
      exact ⟨hi1,hp,v,rfl,by rw [hst];exact ha⟩
    | false =>
      rw [if_pos (by simp only [bne,hb];simp)] at hst
      obtain ⟨v',h2,c,ha'⟩:=ha.push1 (edgeR (es.getD i e0)) (edgeR_len _) (by rw [List.length_map];unfold lim;omega)
      unfold edgeR at c;simp only [l3,l8,t1,t2,t7,t9,hel,c1,c2,hb,c,ha'.own.cells,hw,List.prefix_refl,go_sem];refine ⟨hi1,ha'.up,v',rfl,?_⟩;rw [hst,edges_snoc];exact ha'
  have hil:i=es.length:=by omega
  subst hil;rw [List.take_length] at ha
  have hE:∀ e∈swapE es m n,EOk nn e:=fun e he=>by have:=gok_mem g1.1 (swapE_mem he);rw [hnn] at this;exact this
  have hsl:=swapE_len (es:=es) (m:=m) (n:=n);obtain ⟨h2,hh2⟩:∃ h2:Heap,h2=h'++[⟨[],1,y_int,true⟩]:=⟨_,rfl⟩
  have p2:h' <+: h2:=by rw [hh2];exact List.prefix_append _ _
  have hnl:Rows h2 1 (.slice (some ⟨h'.length,0,none⟩) 0 0) (ints []):=by rw [hh2];exact (Acc.new (h:=h') (sz:=1) (ty:=y_int)).own.rows
  obtain ⟨x,h3,c,p3,o3⟩:=k_spec_l17Parts (X:=X) (ha.rows.up p2) hnl (by unfold lim;omega) (Nat.zero_le _) (n:=nn) (by omega) hE
  have hcl:=compsTo_len (es:=swapE es m n) (out:=[]) (n:=size.toNat) (k:=size.toNat)
  have hsn:size.toNat=nn:=by omega
  obtain ⟨K,hK⟩:∃ K,K=comps (swapE es m n) [] size.toNat:=⟨_,rfl⟩;rw [← hsn,← hK] at o3
  have hKl:K.length≤9:=by rw [hK];unfold comps;omega
  obtain ⟨ws,o3⟩:=o3;unfold graphV at c;rw [← hnn] at c;simp only [l8,t7,zeros,fillAt,← hh2,c,List.prefix_refl,p2,p3,go_sem];have hpp:h <+: h3:=p1.trans (hp.trans (p2.trans p3));have lo3:=pre_len (hp.trans p2);have lo4:=pre_len p3;have o73:Own h3 h.length (h.length+1) 1 y_ints (.slice (some ⟨h.length,0,none⟩) 0 0) []:=o7.up (hp.trans (p2.trans p3))
  refine w_for K.length (fun k t loc h'=>t 11=x∧t 12=.int .i64 k∧h'.length=h3.length∧(∀ b,b < h3.length→b≠h.length→h'[b]?=h3[b]?)∧∃ (y:Value) (vs:List Value),t 7=y∧OwnLLs h' h.length h'.length y_ints y_int y (longL (K.take k)) vs∧y≠nilV∧tlo y=h.length∧thi y=h.length+1∧∀ j,j < vs.length→∃ r,r < k∧vs.getD j nilV=ws.getD r nilV)
    ⟨rfl,rfl,rfl,fun _ _ _=>rfl,_,[],rfl,⟨rfl,o73.wide (Nat.le_refl _) (by omega),fun i hi=>(by simp [longL] at hi),fun i hi=>(by simp [longL] at hi),fun i j _ hi=>(by simp [longL] at hi)⟩,slice_nz,rfl,rfl,fun j hj=>(by simp at hj)⟩ ?_
  rintro k t loc h4 hk ⟨t11,t12,hg,hb,y,vs,t7,oo,hy0,hy1,hy2,hvs⟩
  have tr:∀ {z:Value} {ty:TypeId} {rr:List (List Value)},Own h3 h2.length h3.length 1 ty z rr→Own h4 h2.length h3.length 1 ty z rr:=by
    intro z ty rr oz;refine ⟨oz.len,?_⟩;rcases oz.is with hn | ⟨b,q1,q2,q3,q4⟩
    · exact .inl hn
    · exact .inr ⟨b,q1,q2,q3,by rw [hb b q2 (by omega)];exact q4⟩
  have o4:OwnLLs h4 h2.length h3.length y_ints y_int x K ws:=⟨o3.len,tr o3.out,fun i hi=>tr (o3.ins i hi),o3.so,o3.si⟩
  have lnK:=(OwnLL.rows ⟨ws,o4⟩).ln;simp only [t11,t12,lnK,go_sem]
  refine w_open (by simp only [go_sem];rfl) ?_ ?_<;>intro hc
  · have hk1:k < K.length:=by omega
    have hw:IntKind.i64.wrap ((k:Int)+1)=((k+1:Nat):Int):=w64 (by omega) (by omega)
    obtain ⟨z,e1,e2,e3⟩:=(OwnLL.rows ⟨ws,o4⟩).el hk1
    have hz:z=ws.getD k nilV:=by
      have:=o4.out.rows.el (f:=fun x=>[x]) nilV (i:=k) (by rw [o4.len];exact hk1)
      rw [this.2.2] at e2;simpa using e2.symm
    subst hz;have hlt:=longL_take hk1
    by_cases s1:1 < (K.getD k []).length
    · rw [if_pos s1] at hlt
      have s1':(1:Int) < ((K.getD k []).length:Int):=by omega
      have hll:=longL_len (ll:=K.take k)
      have hkl:(K.take k).length=k:=by simp;omega
      have sv:Sep y (ws.getD k nilV):=by
        rcases o4.any hk1 with q | ⟨q,_⟩
        · rw [q];exact sep_nil
        · exact .inl (by omega)
      have ss:∀ j,j < (longL (K.take k)).length→Sep (vs.getD j nilV) (ws.getD k nilV):=fun j hj=>by
        obtain ⟨r,hr,e⟩:=hvs j (by rw [oo.len];exact hj)
        rw [e];exact o4.si r k hr hk1
      obtain ⟨y',h5,c5,g5,b5,d5,f5,oo5⟩:=pick_push oo o4 (by omega) (Nat.le_refl _) (by omega) hk1 sv ss (by unfold lim;omega)
      have hcell:=e3.cells;obtain ⟨d1,d2,d3⟩:=d5 hy0;simp only [t7,t11,t12,e1,e2,ints_ln e3,s1',hcell,c5,hw,go_sem]
      refine ⟨hk1,by omega,fun b hb1 hb2=>?_,y',vs++[ws.getD k nilV],rfl,?_,f5.1,by omega,by omega,fun j hj=>?_⟩
      · rw [b5 b (by omega) (by omega),hb b hb1 hb2]
      · rw [hlt]
        rw [show min h.length h2.length=h.length by omega] at oo5
        exact oo5
      · by_cases e:j < vs.length
        · have:(vs++[ws.getD k nilV]).getD j nilV=vs.getD j nilV:=by simp [List.getElem?_append_left e]
          rw [this];obtain ⟨r,hr,e5⟩:=hvs j e
          exact ⟨r,by omega,e5⟩
        · have e2:j=vs.length:=by simp at hj;omega
          subst e2
          exact ⟨k,by omega,by simp⟩
    · rw [if_neg s1] at hlt
      have s1':¬ (1:Int) < ((K.getD k []).length:Int):=by omega
      simp only [t7,t11,t12,e1,e2,ints_ln e3,s1',hw,go_sem]
      exact ⟨hk1,hg,hb,y,vs,rfl,by rw [hlt];exact oo,hy0,hy1,hy2,fun j hj=>by obtain ⟨r,hr,e⟩:=hvs j hj;exact ⟨r,by omega,e⟩⟩
  · have hkK:k=K.length:=by omega
    subst hkK;rw [List.take_length,hK] at oo;simp only [t7,go_sem]
    have hpre:h <+: h4:=pre_of_get (by have:=pre_len hpp;omega) fun b hb'=>by rw [hb b (by have:=pre_len hpp;omega) (by omega),get_of_pre hpp hb']
    exact ⟨oo.out.live,OwnLL.fin hpre ⟨vs,oo⟩⟩
end
end Go.Proofs.Ytafhipglhnfgnaa.Ab
set_option linter.unusedSimpArgs false
set_option linter.unusedVariables false
set_option linter.unnecessarySimpa false
set_option maxHeartbeats 4000000
/- Arguments: what a reading of numbers, texts, bools, structs and slices of them tells, as an abstract memory of which nothing is one's own. No conditions. -/
namespace Go.Proofs.Ytafhipglhnfgnaa.Ab
open Go.RowKit
inductive CK where
  | int (k:IntKind)
  | bool
  | str
  | sl (e:List CK)
inductive Shape (h:Heap):CK→Value→Prop
  | int (k:IntKind) (n:Int) (hw:(Lit.int k n).wf=true):Shape h (.int k) (.int k n)
  | bool (b:Bool):Shape h .bool (.bool b)
  | str (s:ByteArray) (hs:s.size≤maxLen):Shape h .str (.string s)
  | sl (e:List CK) (v:Value) (rows:List (List Value)) (hr:Rows h e.length v rows) (hm:rows.length≤maxLen)
      (hk:∀ r∈rows,∀ (i:Nat) (k:CK) (x:Value),e[i]?=some k→r[i]?=some x→Shape h k x):Shape h (.sl e) v
theorem Shape.up {h h':Heap} (hp:h <+: h') {k:CK} {v:Value} (s:Shape h k v):Shape h' k v:=by
  induction s with
  | int k n hw=>exact .int k n hw
  | bool b=>exact .bool b
  | str s hs=>exact .str s hs
  | sl e v rows hr hm hk ih=>exact .sl e v rows (hr.up hp) hm ih
def fieldsK (P:Program) (g:TypeId→Option (List CK)):Nat→List Field→Option (List CK)
  | _,[]=>some []
  | off,f::fs=>match g f.type with
    | some ks=>if f.offset=off∧ks.length=P.cellsOf f.type then (fieldsK P g (off+ks.length) fs).map (ks++·) else none
    | none=>none
def kindsOf (P:Program):Nat→TypeId→Option (List CK)
  | 0,_=>none
  | n+1,t=>match P.underlying t with
    | some (.int k)=>some [.int k]
    | some .bool=>some [.bool]
    | some .string=>some [.str]
    | some (.slice e)=>match kindsOf P n e with
      | some ks=>if ks.length=P.cellsOf e∧0 < ks.length then some [.sl ks] else none
      | none=>none
    | some (.struct fs)=>match fieldsK P (kindsOf P n) 0 fs.toList with
      | some ks=>if ks.length=P.cellsOf t then some ks else none
      | none=>none
    | _=>none
def NoOwn (h:Heap):Prop:=∀ (b:Nat) (blk:Blk),h[b]?=some blk→blk.own=false
theorem HRel.show {μ : Map} {h : Heap} {w : World} (k : HRel μ h w) (hn : NoOwn h) {blk : Blk} (ho : blk.own = false) (hp : 0 < blk.sz) {l : Loc} (hl : l.g < w.heap.size)
    (hc:∀ (i:Nat) (v:Value),blk.cells[i]?=some v→∃ v',w.cell? ⟨l.g,l.o+i,none⟩=some v'∧VR1 μ h v v') :
    HRel (μ.to h.length l) (h++[blk]) w∧Up μ h (μ.to h.length l) (h++[blk])∧NoOwn (h++[blk]):=by
  have up:=Up.push μ h l blk
  have no:NoOwn (h++[blk]):=fun b b' hb=>by
    rcases push_get hb with ⟨_,rfl⟩ | ⟨_,hb⟩
    · exact ho
    · exact hn _ _ hb
  refine ⟨⟨fun b' blk' hb' i v hv=>?_,fun b' blk' hb'=>?_,fun b' blk' hb'=>?_,fun b' blk' hb' ho'=>?_,fun b1 b2 blk1 blk2 h1 h2 h3 h4=>?_⟩,up,no⟩
  · rcases push_get hb' with ⟨rfl,rfl⟩ | ⟨hlt,hb'⟩
    · obtain ⟨v',h1,h2⟩:=hc i v hv
      exact ⟨v',by rw [Map.to_same];exact h1,h2.up up⟩
    · obtain ⟨v',h1,h2⟩:=k.cell b' blk' hb' i v hv
      exact ⟨v',by rw [Map.to_ne _ _ (by omega)];exact h1,h2.up up⟩
  · rcases push_get hb' with ⟨rfl,rfl⟩ | ⟨hlt,hb'⟩
    · exact hp
    · exact k.pos _ _ hb'
  · rcases push_get hb' with ⟨rfl,rfl⟩ | ⟨hlt,hb'⟩
    · rw [Map.to_same];exact hl
    · rw [Map.to_ne _ _ (by omega)];exact k.lt _ _ hb'
  · rw [no _ _ hb'] at ho';cases ho'
  · rw [no _ _ h1] at h3;cases h3
def Opens (w:World) (ks:List CK) (cs:List Value):Prop:=∀ (h:Heap) (μ:Map),HRel μ h w→NoOwn h→∃ h' μ' acs,h <+: h'∧Up μ h μ' h'∧HRel μ' h' w∧NoOwn h'∧All2 (VR0 μ' h') acs cs∧All2 (Shape h') ks acs
theorem Opens.nil {w:World}:Opens w [] []:=fun h μ H N=>⟨h,μ,[],List.prefix_refl _,Up.refl _ _,H,N,All2.nil,All2.nil⟩
theorem Opens.append {w:World} {ks1 ks2:List CK} {cs1 cs2:List Value} (o1:Opens w ks1 cs1) (o2:Opens w ks2 cs2):Opens w (ks1++ks2) (cs1++cs2):=by
  intro h μ H N;obtain ⟨h1,μ1,a1,p1,u1,H1,N1,v1,s1⟩:=o1 h μ H N;obtain ⟨h2,μ2,a2,p2,u2,H2,N2,v2,s2⟩:=o2 h1 μ1 H1 N1
  exact ⟨h2,μ2,a1++a2,p1.trans p2,u1.trans u2,H2,N2,(v1.imp fun _ _ k=>k.up u2).append v2,(s1.imp fun _ _ k=>k.up p2).append s2⟩
theorem Opens.one {w:World} {k:CK} {v:Value} (hp:prim v=true) (hs:∀ h,Shape h k v):Opens w [k] [v]:=fun h μ H N =>
  ⟨h,μ,[v],List.prefix_refl _,Up.refl _ _,H,N,All2.cons (.prim _ hp) All2.nil,All2.cons (hs h) All2.nil⟩
theorem opens_fields {P : Program} {w : World} {g : TypeId → Option (List CK)} {cs : List Value} : ∀ (fs : List Field) (off : Nat) (ks : List CK), fieldsK P g off fs = some ks → off + ks.length ≤ cs.length →
    (∀ f∈fs,∀ k,g f.type=some k→Opens w k ((cs.drop f.offset).take (P.cellsOf f.type)))→Opens w ks ((cs.drop off).take ks.length)
  | [],off,ks,h,_,_=>by simp [fieldsK] at h;subst h;simpa using Opens.nil
  | f::fs,off,ks,h,hl,ho=>by
    simp only [fieldsK] at h;split at h
    · rename_i k hk
      split at h
      · rename_i hc
        obtain ⟨h1,h2⟩:=hc;simp only [Option.map_eq_some_iff] at h;obtain ⟨ks',h3,rfl⟩:=h;simp only [List.length_append] at hl;have o1:=ho f List.mem_cons_self k hk;rw [h1,← h2] at o1
        have o2:=opens_fields fs (off+k.length) ks' h3 (by omega) fun f hf=>ho f (List.mem_cons_of_mem _ hf)
        have e:(cs.drop off).take (k++ks').length=(cs.drop off).take k.length++(cs.drop (off+k.length)).take ks'.length:=by
          rw [List.length_append,List.take_add,List.drop_drop]
        rw [e];exact o1.append o2
      · cases h
    · cases h
theorem add_block (a:Addr) (n:Nat):(a.add n).block=a.block:=by unfold Addr.add;split<;>rfl
theorem opens_rows {w : World} {a : Addr} {e : List CK} {n : Nat} (hr : ∀ i, i < n → ∃ cs, cs.length = e.length ∧ (∀ j, j < e.length → w.cell? (a.add (i * e.length + j)) = cs[j]?) ∧ Opens w e cs) :
    ∀ (h:Heap) (μ:Map),HRel μ h w→NoOwn h→∃ (h':Heap) (μ':Map) (rows:List (List Value)) (flat:List Value),h <+: h'∧Up μ h μ' h'∧HRel μ' h' w∧NoOwn h'∧rows.length=n∧(∀ r∈rows,All2 (Shape h') e r)∧All2 (VR0 μ' h') rows.flatten flat∧flat.length=n*e.length∧∀ q,q < n*e.length→w.cell? (a.add q)=flat[q]?:=by
  induction n with
  | zero=>exact fun h μ H N=>⟨h,μ,[],[],List.prefix_refl _,Up.refl _ _,H,N,rfl,fun _ h=>(by cases h),All2.nil,by simp,fun q hq=>by omega⟩
  | succ n ih =>
    intro h μ H N
    obtain ⟨h1,μ1,rows,flat,p1,u1,H1,N1,l1,s1,v1,f1,g1⟩:=ih (fun i hi=>hr i (by omega)) h μ H N
    obtain ⟨cs,c1,c2,c3⟩:=hr n (by omega)
    obtain ⟨h2,μ2,acs,p2,u2,H2,N2,v2,s2⟩:=c3 h1 μ1 H1 N1
    refine ⟨h2,μ2,rows++[acs],flat++cs,p1.trans p2,u1.trans u2,H2,N2,by simp [l1],fun r hr=>?_,?_,?_,fun q hq=>?_⟩
    · rcases List.mem_append.1 hr with hr | hr
      · exact (s1 r hr).imp fun _ _ k=>k.up p2
      · rw [List.mem_singleton.1 hr];exact s2
    · rw [List.flatten_append]
      simpa using (v1.imp fun _ _ k=>k.up u2).append v2
    · rw [List.length_append,f1,c1,Nat.add_mul,Nat.one_mul]
    · rw [Nat.add_mul,Nat.one_mul] at hq
      by_cases hlt:q < n*e.length
      · rw [g1 q hlt,List.getElem?_append_left (by omega)]
      · have:=c2 (q - n*e.length) (by omega)
        rw [show n*e.length+(q - n*e.length)=q by omega] at this
        rw [this,List.getElem?_append_right (by omega),f1]
theorem mem_index {fs:List Field} {f:Field} (h:f∈fs):∃ i:Nat,fs[i]?=some f:=by
  obtain ⟨i,hi,e⟩:=List.mem_iff_getElem.1 h
  exact ⟨i,by rw [List.getElem?_eq_getElem hi,e]⟩
theorem row_of_flat {rows:List (List Value)} {sz:Nat} (hl:∀ r∈rows,r.length=sz) {flat:List Value} {μ:Map} {h:Heap} (v:All2 (VR0 μ h) rows.flatten flat) {q:Nat} {x:Value} (hx:rows.flatten[q]?=some x):∃ y,flat[q]?=some y∧VR1 μ h x y:=by
  obtain ⟨y,hy,k⟩:=v.get hx;exact ⟨y,hy,.base _ _ k⟩
theorem opens_kinds {H : Type} {enc : TypeId × Value → H} {P : Program} {w : World} {spare : Nat → Bool} {held : Bool} (hsp : ∀ b, spare b = true) : ∀ (n : Nat) (t : TypeId) (ks : List CK), kindsOf P n t = some ks →
    ∀ (fuel:Nat) (cs:List Value) (x:DataW H × List MemPlace),DataW.trod enc P w 0 spare held fuel t cs=some x→Opens w ks cs
  | 0,t,ks,h=>by cases h
  | n+1,t,ks,h=>by
    intro fuel cs x hx;simp only [kindsOf] at h;split at h
    · rename_i k ht
      cases h;obtain ⟨m,rfl,_,hw⟩:=DataW.trod_int ht hx
      exact Opens.one rfl fun _=>.int k m hw
    · rename_i ht
      cases h;obtain ⟨b,rfl,_⟩:=DataW.trod_bool ht hx
      exact Opens.one rfl fun _=>.bool b
    · rename_i ht
      cases h;obtain ⟨b,rfl,_,hw⟩:=DataW.trod_string ht hx
      exact Opens.one rfl fun _=>.str b hw
    · rename_i e ht
      split at h
      · rename_i ke hke
        split at h
        · rename_i hc
          obtain ⟨hc1,hc2⟩:=hc;cases h;rcases Go.Deep.open_slice ht hx with ⟨rfl,_⟩ | ⟨a,len,cap,m,k,D,Pl,rfl,_,hlc,hcm,hm,_,hi⟩
          · exact Opens.one rfl fun _=>.sl ke _ [] Rows.nil (Nat.zero_le _) (fun _ h=>by cases h)
          · rw [hsp,if_pos rfl] at hm
            subst hm
            have hrow:∀ i,i < m→∃ cs,cs.length=ke.length∧(∀ j,j < ke.length→w.cell? (a.add (i*ke.length+j))=cs[j]?)∧Opens w ke cs:=fun i him=>by
              obtain ⟨cs',hc',ht'⟩:=hi i him;obtain ⟨_,hcl,hat⟩:=World.cells?_some hc';rw [← hc1] at hcl hat
              refine ⟨cs',hcl,fun j hj=>?_,opens_kinds hsp n e ke hke k cs' _ ht'⟩
              rw [← Go.Deep.add_add];exact hat j hj
            by_cases hz:m=0
            · subst hz
              obtain rfl:len=0:=by omega
              exact fun h μ H N=>⟨h,μ,[.slice none 0 0],List.prefix_refl _,Up.refl _ _,H,N,All2.cons (.hollow a) All2.nil,All2.cons (.sl ke _ [] Rows.nil (Nat.zero_le _) (fun _ h=>by cases h)) All2.nil⟩
            · intro h μ H N
              obtain ⟨h1,μ1,rows,flat,p1,u1,H1,N1,l1,s1,v1,f1,g1⟩:=opens_rows (n:=len) (fun i hi=>hrow i (by omega)) h μ H N
              have hsz:∀ r∈rows,r.length=ke.length:=fun r hr=>(s1 r hr).1.symm
              obtain ⟨c0,q1,q2,_⟩:=hrow 0 (by omega)
              have hcell:w.cell? a=c0[0]?:=by
                have:=q2 0 hc2;simpa [Addr.add] using this
              rw [List.getElem?_eq_getElem (by omega)] at hcell
              have hblk:∃ cur et fr,w.heap[a.block]?=some (.cells cur et fr)∧a.spot=none:=by
                unfold World.cell? at hcell;split at hcell
                · rename_i cur et fr hb
                  split at hcell
                  · cases hcell
                  · rename_i hs
                    exact ⟨cur,et,fr,hb,by simpa using hs⟩
                · cases hcell
              obtain ⟨cur,et,fr,hb,hs⟩:=hblk;have hlt:a.block < w.heap.size:=(Array.getElem?_eq_some_iff.1 hb).1
              have ha:a=⟨a.block,a.off,none⟩:=by cases a;simp_all
              have hadd:∀ q,a.add q=⟨a.block,a.off+q,none⟩:=fun q=>by
                unfold Addr.add;split
                · rename_i h0;subst h0;rw [Nat.add_zero];exact ha
                · rfl
              obtain ⟨H2,u2,N2⟩:=H1.show N1 (blk:=⟨rows.flatten,ke.length,0,false⟩) rfl hc2 (l:=⟨a.block,a.off,0⟩) hlt (fun i v hv=>by
                obtain ⟨y,hy,k⟩:=row_of_flat hsz v1 hv;refine ⟨y,?_,k⟩
                have hq:i < len*ke.length:=by
                  have:=(List.getElem?_eq_some_iff.1 hy).1;omega
                have:=g1 i hq;rw [hadd] at this;rw [this]
                exact hy)
              have hfl:rows.flatten.length=len*ke.length:=by rw [flatten_len hsz,l1]
              refine ⟨_,_,[.slice (some ⟨h1.length,0,none⟩) len len],p1.trans (List.prefix_append _ _),u1.trans u2,H2,N2,All2.cons (.sl h1.length 0 len len _ ⟨rows.flatten,ke.length,0,false⟩ (by simp) (Nat.le_refl _) (by simp only [Nat.zero_add,hfl];exact Nat.le_refl _) (fun _=>?_) rfl) All2.nil,All2.cons (.sl ke _ rows ?_ (by omega) (fun r hr i k x hk hx=>?_)) All2.nil⟩
              · refine ⟨a,m,rfl,hlc,hcm,.inr ?_,fun h=>by cases h⟩
                rw [Map.to_same];exact ha
              · refine ⟨hsz,.inr ⟨h1.length,0,len,⟨rows.flatten,ke.length,0,false⟩,by rw [l1],by simp,rfl,by simp [hfl],by omega,?_⟩⟩
                rw [l1,← hfl,List.drop_zero];exact List.take_length
              · exact ((s1 r hr).2 i k x hk hx).up (List.prefix_append _ _)
        · cases h
      · cases h
    · rename_i fs ht
      split at h
      · rename_i ks' hf
        split at h
        · rename_i hl
          cases h;obtain ⟨xs,k,_,_,hlen,hxl,hfs⟩:=DataW.trod_struct ht hx
          have:=opens_fields (w:=w) (cs:=cs) fs.toList 0 ks hf (by omega) (fun f hmem kf hkf=>by
            obtain ⟨i,hi⟩:=mem_index hmem
            have hi':fs[i]?=some f:=by simpa using hi
            have h1:=hfs i f hi'
            have hil:i < xs.length:=by rw [hxl];exact (Array.getElem?_eq_some_iff.1 hi').1
            rw [List.getElem?_eq_getElem hil] at h1
            exact opens_kinds hsp n f.type kf hkf k _ _ h1)
          rw [List.drop_zero,List.take_of_length_le (by omega)] at this
          exact this
        · cases h
      · cases h
    · cases h
end Go.Proofs.Ytafhipglhnfgnaa.Ab
/- A law's call, from the arguments as they are read to the answer. No conditions. -/
namespace Go.Proofs.Ytafhipglhnfgnaa.Ab
open Go.RowKit
def isRow (P:Program) (t:TypeId):Bool:=match P.underlying t with
  | some (.struct _)=>true
  | _=>false
def paramsK (P:Program):List TypeId→Option (List (Bool × List CK))
  | []=>some []
  | t::ts=>match kindsOf P 12 t,paramsK P ts with
    | some ks,some ps=>some ((isRow P t,ks)::ps)
    | _,_=>none
def ArgOk (h:Heap) (p:Bool × List CK) (v:Value):Prop:=∃ acs,All2 (Shape h) p.2 acs∧if p.1=true then v=.agg ⟨acs⟩ else acs=[v]
theorem ArgOk.up {h h':Heap} (hp:h <+: h') {p:Bool × List CK} {v:Value} (a:ArgOk h p v):ArgOk h' p v:=by
  obtain ⟨acs,h1,h2⟩:=a
  exact ⟨acs,h1.imp fun _ _ k=>k.up hp,h2⟩
theorem HRel.empty {μ:Map} {w:World}:HRel μ [] w:=⟨fun b _ h=>by simp at h,fun b _ h=>by simp at h,fun b _ h=>by simp at h,fun b _ h=>by simp at h,fun b _ _ _ h=>by simp at h⟩
theorem NoOwn.empty:NoOwn []:=fun b _ h=>by simp at h
section
variable {H:Type} {enc:TypeId × Value→H} {P:Program} {W:World} {base:Nat}
theorem okWide_one {t:TypeId} {v:Value} {ks:List CK} {n:Nat} (hk:kindsOf P (n+1) t=some ks) (hs:isRow P t=false) (h:Value.okWide P W .any base t v):v.cells.toList=[v]:=by
  unfold isRow at hs;simp only [kindsOf] at hk;unfold Value.okWide Cell.okWide Cell.ok at h
  cases hu:P.underlying t with
  | none=>rw [hu] at hk;cases hk
  | some d =>
    rw [hu] at hk h hs
    cases d<;>simp only [Bool.true_eq_false] at hs<;>(try (cases hk;done))<;>cases v<;>first | rfl | exact h.elim
theorem opens_args : ∀ (ts : List TypeId) (ps : List (Bool × List CK)) (vs : List Value) (ds : List (DataW H)) (pl : List MemPlace), paramsK P ts = some ps → DataW.TrodAll enc P W 0 (fun _ => true) true ts vs ds pl →
    (∀ (j:Nat) (t:TypeId) (v:Value),ts[j]?=some t→vs[j]?=some v→Value.okWide P W .any base t v) →
    ∀ (h:Heap) (μ:Map),HRel μ h W→NoOwn h→∃ (h':Heap) (μ':Map) (avs:List Value),h <+: h'∧Up μ h μ' h'∧HRel μ' h' W∧NoOwn h'∧All2 (VR μ' h') avs vs∧All2 (ArgOk h') ps avs
  | [],ps,vs,ds,pl,hp,ht,_,h,μ,R,N=>by
    simp [paramsK] at hp;subst hp;obtain ⟨rfl,_,_⟩:=Go.ChangeShapes.trodAll_nil ht;exact ⟨h,μ,[],List.prefix_refl _,Up.refl _ _,R,N,All2.nil,All2.nil⟩
  | t::ts,ps,vs,ds,pl,hp,ht,hw,h,μ,R,N=>by
    simp only [paramsK] at hp;split at hp
    · rename_i ks ps' hk hps
      cases hp;obtain ⟨v,vs',d,ds',p,q,rfl,rfl,rfl,⟨fuel,hf⟩,htr⟩:=Go.ChangeShapes.trodAll_cons ht
      obtain ⟨h1,μ1,acs,p1,u1,R1,N1,v1,s1⟩:=opens_kinds (fun _=>rfl) 12 t ks hk fuel _ _ hf h μ R N
      obtain ⟨h2,μ2,avs,p2,u2,R2,N2,v2,s2⟩:=opens_args ts ps' vs' ds' q hps htr (fun j t v h1 h2=>hw (j+1) t v (by simpa using h1) (by simpa using h2)) h1 μ1 R1 N1
      have hv:=hw 0 t v rfl rfl
      have vv:All2 (VR1 μ2 h2) acs v.cells.toList:=v1.imp fun _ _ k=>.base _ _ (k.up u2)
      cases hr:isRow P t with
      | true =>
        have hst:∃ cs:Array Value,v=.agg cs:=by
          unfold isRow at hr;split at hr
          · rename_i fs hu
            obtain ⟨cs,hcs,_⟩:=Go.WideShapes.okWide_struct hu hv;exact ⟨cs,hcs⟩
          · cases hr
        obtain ⟨⟨cs⟩,rfl⟩:=hst
        exact ⟨h2,μ2,.agg ⟨acs⟩::avs,p1.trans p2,u1.trans u2,R2,N2,All2.cons (.val _ _ (.agg _ _ vv)) v2,All2.cons ⟨acs,s1.imp fun _ _ k=>k.up p2,by simp⟩ s2⟩
      | false =>
        have h1c:=okWide_one hk hr hv;rw [h1c] at vv;have hal:acs.length=1:=vv.1
        match acs,hal with
        | [av],_ =>
          exact ⟨h2,μ2,av::avs,p1.trans p2,u1.trans u2,R2,N2,All2.cons (.val _ _ (.one _ _ (vv.2 0 av v rfl rfl))) v2,All2.cons ⟨[av],s1.imp fun _ _ k=>k.up p2,by simp⟩ s2⟩
    · cases hp
theorem trodAll_below {W' : World} (hl : laidOutB P = true) : ∀ {ts : List TypeId} {vs : List Value} {ds : List (DataW H)} {pl : List MemPlace}, (ts.all fun t => P.readableRec t && decide (t < P.types.size)) = true → DataW.TrodAll enc P W 0 (fun _ => true) true ts vs ds pl →
    Below W.heap.size W W'→(∀ x∈pl,x.block < W.heap.size)→DataW.TrodAll enc P W' 0 (fun b=>decide (b < W.heap.size)) true ts vs ds pl
  | [],vs,ds,pl,_,h,_,_=>by
    obtain ⟨rfl,rfl,rfl⟩:=Go.ChangeShapes.trodAll_nil h;rfl
  | t::ts,vs,ds,pl,hr,h,hb,hlt=>by
    obtain ⟨v,vs',d,ds',p,q,rfl,rfl,rfl,h1,h2⟩:=Go.ChangeShapes.trodAll_cons h;simp only [List.all_cons,Bool.and_eq_true,decide_eq_true_eq] at hr
    exact ⟨p,q,Below.trod hl hr.1.1 hr.1.2 h1 hb (fun x hx=>hlt x (List.mem_append_left _ hx)),trodAll_below hl (by simpa using hr.2) h2 hb (fun x hx=>hlt x (List.mem_append_right _ hx)),rfl⟩
end
def noX:CallF:=fun _ _ _=>none
theorem law_calls {H : Type} {enc : TypeId × Value → H} {P : Program} {W : World} {f : FuncId} {ts : List TypeId} {ps : List (Bool × List CK)} {X : CallF} (sound : ∀ n, SoundC P W (call T X n)) (hp : paramsK P ts = some ps)
    (law:∀ (h:Heap) (avs:List Value),All2 (ArgOk h) ps avs→C T X f avs h=some (.bool true,h))
    {base:Nat} {args:Array Value} {ds:List (DataW H)} {pl:List MemPlace} (ht:DataW.TrodAll enc P W 0 (fun _=>true) true ts args.toList ds pl)
    (hw:∀ (j:Nat) (t:TypeId) (v:Value),ts[j]?=some t→args.toList[j]?=some v→Value.okWide P W .any base t v) :
    Calls P f args W fun e W'=>e=.returned (.bool true)∧Below W.heap.size W W':=by
  obtain ⟨h,μ,avs,_,_,R,N,va,sa⟩:=opens_args ts ps args.toList ds pl hp ht hw [] (fun _=>⟨0,0,0⟩) HRel.empty NoOwn.empty
  obtain ⟨n,hn⟩:=C_to T X (law h avs sa);obtain ⟨_,hc⟩:=sound n f avs h _ _ hn
  have hG:Gd W μ h W:=⟨Nat.le_refl _,fun g _=>⟨rfl,fun ⟨b,blk,hb,ho,_⟩=>by rw [N b blk hb] at ho;cases ho⟩⟩
  have:=hc μ W args.toList R hG va
  refine this.mono fun e W' hq=>?_
  obtain ⟨v',μ',rfl,h1,h2,h3⟩:=hq
  refine ⟨by rw [h1.bool],h3.frame.os,h3.frame.tape,h3.frame.output,h3.frame.size,fun k hk=>h3.frame.block k hk ?_⟩
  rintro ⟨b,blk,hb,ho,_⟩;rw [N b blk hb] at ho;cases ho
end Go.Proofs.Ytafhipglhnfgnaa.Ab
/- Arguments taken apart: what a shown argument is, kind by kind. No conditions. -/
namespace Go.Proofs.Ytafhipglhnfgnaa.Ab
open Go.RowKit
theorem All2.nil_inv {α β:Type} {R:α→β→Prop} {ys:List β} (h:All2 R [] ys):ys=[]:=by
  have:=h.1
  cases ys with
  | nil=>rfl
  | cons y ys=>simp at this
theorem All2.cons_inv {α β:Type} {R:α→β→Prop} {x:α} {xs:List α} {ys:List β} (h:All2 R (x::xs) ys):∃ y ys',ys=y::ys'∧R x y∧All2 R xs ys':=by
  have:=h.1
  cases ys with
  | nil=>simp at this
  | cons y ys =>
    refine ⟨y,ys,rfl,h.2 0 x y rfl rfl,by simpa using this,fun i a b ha hb=>h.2 (i+1) a b (by simpa using ha) (by simpa using hb)⟩
section
variable {h:Heap} {v:Value}
theorem wf64 {n:Int} (hw:(Lit.int .i64 n).wf=true):I64 n:=by
  have h:IntKind.i64.min≤n∧n≤IntKind.i64.max:=by simpa [Lit.wf] using hw
  exact ⟨h.1,h.2⟩
theorem Shape.int_inv (s:Shape h (.int .i64) v):∃ n,v=.int .i64 n∧I64 n:=by
  cases s with
  | int k n hw=>exact ⟨n,rfl,wf64 hw⟩
theorem Shape.bool_inv (s:Shape h .bool v):∃ b,v=.bool b:=by
  cases s with
  | bool b=>exact ⟨b,rfl⟩
theorem Shape.str_inv (s:Shape h .str v):∃ b,v=.string b∧b.size≤maxLen:=by
  cases s with
  | str b hs=>exact ⟨b,rfl,hs⟩
theorem Shape.sl_inv {e:List CK} (s:Shape h (.sl e) v):∃ rows,Rows h e.length v rows∧rows.length≤maxLen∧∀ r∈rows,All2 (Shape h) e r:=by
  cases s with
  | sl e v rows hr hm hk=>exact ⟨rows,hr,hm,fun r hrm=>⟨(hr.len r hrm).symm,fun i k x h1 h2=>hk r hrm i k x h1 h2⟩⟩
theorem rows_map {α:Type} {f:α→List Value} {Q:α→Prop}:∀ {rows:List (List Value)},(∀ r∈rows,∃ a,r=f a∧Q a)→∃ l:List α,rows=l.map f∧∀ a∈l,Q a
  | [],_=>⟨[],rfl,fun _ h=>by cases h⟩
  | r::rows,hr=>by
    obtain ⟨a,ha,qa⟩:=hr r List.mem_cons_self
    obtain ⟨l,hl,ql⟩:=rows_map (fun r h=>hr r (List.mem_cons_of_mem _ h))
    exact ⟨a::l,by simp [ha,hl],fun b hb=>by
      rcases List.mem_cons.1 hb with rfl | hb
      · exact qa
      · exact ql b hb⟩
theorem Shape.ints_inv (s:Shape h (.sl [.int .i64]) v):∃ l:List Int,Rows h 1 v (ints l)∧l.length≤maxLen∧∀ n∈l,I64 n:=by
  obtain ⟨rows,hr,hm,hk⟩:=s.sl_inv
  obtain ⟨l,rfl,hl⟩:=rows_map (f:=fun n:Int=>[Value.int .i64 n]) (Q:=I64) (rows:=rows) (fun r hrm=>by
    obtain ⟨x,r',rfl,hx,h2⟩:=(hk r hrm).cons_inv;obtain rfl:=h2.nil_inv;obtain ⟨n,rfl,hn⟩:=hx.int_inv
    exact ⟨n,rfl,hn⟩)
  exact ⟨l,hr,by simpa using hm,hl⟩
end
theorem ArgOk.row {h:Heap} {ks:List CK} {v:Value} (a:ArgOk h (true,ks) v):∃ acs,All2 (Shape h) ks acs∧v=.agg ⟨acs⟩:=by
  obtain ⟨acs,h1,h2⟩:=a
  exact ⟨acs,h1,by simpa using h2⟩
theorem ArgOk.cell {h:Heap} {k:CK} {v:Value} (a:ArgOk h (false,[k]) v):Shape h k v:=by
  obtain ⟨acs,h1,h2⟩:=a;obtain ⟨x,r,rfl,hx,h3⟩:=h1.cons_inv;obtain rfl:=h3.nil_inv
  obtain rfl:x=v:=by simpa using h2
  exact hx
theorem trodAll_len {H:Type} {enc:TypeId × Value→H} {P:Program} {W:World} {spare:Nat→Bool} {held:Bool}:∀ {ts:List TypeId} {vs:List Value} {ds:List (DataW H)} {pl:List MemPlace},DataW.TrodAll enc P W 0 spare held ts vs ds pl→ds.length=ts.length
  | [],vs,ds,pl,h=>by
    obtain ⟨_,rfl,_⟩:=Go.ChangeShapes.trodAll_nil h;rfl
  | t::ts,vs,ds,pl,h=>by
    obtain ⟨v,vs',d,ds',p,q,rfl,rfl,rfl,_,h2⟩:=Go.ChangeShapes.trodAll_cons h;simp [trodAll_len h2]
theorem len1 {α:Type} {l:List α} (h:l.length=1):∃ a,l=[a]:=List.length_eq_one_iff.1 h
theorem len2 {α:Type} {l:List α} (h:l.length=2):∃ a b,l=[a,b]:=by
  match l,h with
  | [a,b],_=>exact ⟨a,b,rfl⟩
theorem len3 {α:Type} {l:List α} (h:l.length=3):∃ a b c,l=[a,b,c]:=by
  match l,h with
  | [a,b,c],_=>exact ⟨a,b,c,rfl⟩
theorem len4 {α:Type} {l:List α} (h:l.length=4):∃ a b c d,l=[a,b,c,d]:=by
  match l,h with
  | [a,b,c,d],_=>exact ⟨a,b,c,d,rfl⟩
end Go.Proofs.Ytafhipglhnfgnaa.Ab
set_option linter.unusedSimpArgs false
set_option linter.unusedVariables false
set_option linter.unnecessarySimpa false
set_option maxHeartbeats 4000000
namespace Go.Proofs.Ytafhipglhnfgnaa.Ab
open Go.RowKit
section
variable {h:Heap} {v:Value}
theorem Shape.edges_inv (s:Shape h (.sl [.int .i64,.int .i64,.int .i64,.int .i64,.int .i64]) v):∃ l:List E,Rows h 5 v (edges l)∧l.length≤maxLen∧∀ e∈l,I64 e.a∧I64 e.b∧I64 e.w1∧I64 e.w2∧I64 e.w3:=by
  obtain ⟨rows,hr,hm,hk⟩:=s.sl_inv
  obtain ⟨l,rfl,hl⟩:=rows_map (f:=edgeR) (Q:=fun e=>I64 e.a∧I64 e.b∧I64 e.w1∧I64 e.w2∧I64 e.w3) (rows:=rows) (fun r hrm=>by
    obtain ⟨x,r',rfl,hx,h2⟩:=(hk r hrm).cons_inv;obtain ⟨y,r',rfl,hy,h2⟩:=h2.cons_inv;obtain ⟨z,r',rfl,hz,h2⟩:=h2.cons_inv;obtain ⟨u,r',rfl,hu,h2⟩:=h2.cons_inv;obtain ⟨w,r',rfl,hw,h2⟩:=h2.cons_inv;obtain rfl:=h2.nil_inv;obtain ⟨a,rfl,ha⟩:=hx.int_inv;obtain ⟨b,rfl,hb⟩:=hy.int_inv;obtain ⟨c,rfl,hc⟩:=hz.int_inv;obtain ⟨d,rfl,hd⟩:=hu.int_inv;obtain ⟨e,rfl,he⟩:=hw.int_inv
    exact ⟨⟨a,b,c,d,e⟩,rfl,ha,hb,hc,hd,he⟩)
  exact ⟨l,hr,by simpa using hm,hl⟩
theorem ArgOk.graph (a:ArgOk h (true,[.int .i64,.sl [.int .i64,.int .i64,.int .i64,.int .i64,.int .i64]]) v):∃ size ev es,v=graphV size ev∧I64 size∧Rows h 5 ev (edges es)∧es.length≤maxLen:=by
  obtain ⟨acs,k,rfl⟩:=a.row;obtain ⟨v0,r,rfl,k0,k⟩:=k.cons_inv;obtain ⟨v1,r,rfl,k1,k⟩:=k.cons_inv;obtain rfl:=k.nil_inv;obtain ⟨n,rfl,hn⟩:=k0.int_inv;obtain ⟨es,he,hm,_⟩:=k1.edges_inv;exact ⟨n,v1,es,rfl,hn,he,hm⟩
def AqOk (x:Aq):Prop:=I64 x.op∧I64 x.a∧I64 x.b∧I64 x.w1∧I64 x.w2∧I64 x.w3
theorem ArgOk.ask (a:ArgOk h (true,[.int .i64,.int .i64,.int .i64,.int .i64,.int .i64,.int .i64]) v):∃ x:Aq,v=.agg ⟨aqR x⟩∧AqOk x:=by
  obtain ⟨acs,k,rfl⟩:=a.row;obtain ⟨v0,r,rfl,k0,k⟩:=k.cons_inv;obtain ⟨v1,r,rfl,k1,k⟩:=k.cons_inv;obtain ⟨v2,r,rfl,k2,k⟩:=k.cons_inv;obtain ⟨v3,r,rfl,k3,k⟩:=k.cons_inv;obtain ⟨v4,r,rfl,k4,k⟩:=k.cons_inv;obtain ⟨v5,r,rfl,k5,k⟩:=k.cons_inv;obtain rfl:=k.nil_inv;obtain ⟨n0,rfl,h0⟩:=k0.int_inv;obtain ⟨n1,rfl,h1⟩:=k1.int_inv;obtain ⟨n2,rfl,h2⟩:=k2.int_inv;obtain ⟨n3,rfl,h3⟩:=k3.int_inv;obtain ⟨n4,rfl,h4⟩:=k4.int_inv;obtain ⟨n5,rfl,h5⟩:=k5.int_inv;exact ⟨⟨n0,n1,n2,n3,n4,n5⟩,rfl,h0,h1,h2,h3,h4,h5⟩
end
end Go.Proofs.Ytafhipglhnfgnaa.Ab
set_option linter.unusedSimpArgs false
set_option linter.unusedVariables false
set_option linter.unnecessarySimpa false
set_option maxHeartbeats 4000000
namespace Go.Proofs.Ytafhipglhnfgnaa.Ab
open Go.RowKit
section
variable {X:CallF} {h:Heap} {cv:Value} {l:List Int}
theorem k_big (hc:Rows h 1 cv (bys l)):C T X n_laws_big [cv] h=some (.bool (decide ((l.length:Int) > 1048576)),h):=by
  refine C_go t_laws_big rfl ?_;unfold F_laws_big
  have hln:lnV h cv=some (.int .i64 (l.length:Int)):=by rw [hc.ln,bys_len]
  simp only [hln,go_sem]
theorem Shape.bytes_inv {v:Value} (s:Shape h (.sl [.int .u8]) v):∃ l:List Int,Rows h 1 v (bys l):=by
  obtain ⟨rows,hr,hm,hk⟩:=s.sl_inv
  obtain ⟨l,rfl,hl⟩:=rows_map (f:=fun n:Int=>[Value.int .u8 n]) (Q:=fun _=>True) (rows:=rows) (fun r hrm=>by
    obtain ⟨x,r',rfl,hx,h2⟩:=(hk r hrm).cons_inv;obtain rfl:=h2.nil_inv
    cases hx with
    | int k n hw=>exact ⟨n,rfl,trivial⟩)
  exact ⟨l,hr⟩
theorem k_sameInts {va vb:Value} {a:List Int} (ra:Rows h 1 va (ints a)) (rb:Rows h 1 vb (ints a)) (hl:a.length≤lim):C T X n_laws_sameInts [va,vb] h=some (.bool true,h):=by
  unfold lim at hl;refine C_go t_laws_sameInts rfl ?_;unfold F_laws_sameInts;simp only [ints_ln ra,ints_ln rb,go_sem]
  refine w_for a.length (fun i t loc h'=>h'=h∧t 0=va∧t 1=vb∧t 5=.int .i64 i) ⟨rfl,rfl,rfl,rfl⟩ ?_
  rintro i t loc h' hi ⟨rfl,t0,t1,t5⟩;simp only [t0,t5,ints_ln ra,go_sem]
  refine w_open (by simp only [go_sem];rfl) ?_ ?_<;>intro hc
  · have hi1:i < a.length:=by omega
    have hw:IntKind.i64.wrap ((i:Int)+1)=((i+1:Nat):Int):=w64 (by omega) (by omega)
    have ea:=int_el ra hi1;have eb:=int_el rb hi1;simp only [t0,t1,t5,ea.1,ea.2,eb.1,eb.2,hw,go_sem];exact hi1
  · simp only [go_sem]
theorem lonely_count {n:Nat} {es:List E} {m:List Cp} (g:MOk (n:Int) es m):(lonelyL (n:Int) es m).length+2*m.length=n:=by
  obtain ⟨h1,h2⟩:=mok_met g m.length (Nat.le_refl _);rw [List.take_length] at h1 h2;unfold lonelyL;rw [if_pos g,Int.toNat_natCast]
  have hp:((upTo n).filter fun u=>decide (u∈metL m)).Perm (metL m):=by
    refine (List.perm_ext_iff_of_nodup (List.Pairwise.filter _ upTo_nodup) h1).2 fun u=>?_
    rw [List.mem_filter,decide_eq_true_eq]
    exact ⟨fun q=>q.2,fun q=>⟨upTo_mem.2 (by have:=h2 u q;omega),q⟩⟩
  have h3:=hp.length_eq;rw [metL_len] at h3
  have h4:∀ l:List Int,(l.filter fun u=>decide (¬ u∈metL m)).length+(l.filter fun u=>decide (u∈metL m)).length=l.length:=by
    intro l
    induction l with
    | nil=>rfl
    | cons a l ih =>
      rw [List.filter_cons,List.filter_cons]
      by_cases hp:a∈metL m
      · rw [if_neg (by simp [hp]),if_pos (by simp [hp]),List.length_cons,List.length_cons];omega
      · rw [if_pos (by simp [hp]),if_neg (by simp [hp]),List.length_cons,List.length_cons];omega
  have h5:=h4 (upTo n);rw [upTo_len] at h5
  have e:lonelyTo m n=(upTo n).filter fun u=>decide (¬ u∈metL m):=rfl
  rw [e];omega
theorem swap_self {n:Nat} {es:List E} {m:List Cp}:swapL es m m (n:Int)=[]:=by
  unfold swapL;split
  · have e:swapE es m m=[]:=by
      unfold swapE;rw [List.filter_eq_nil_iff];intro x _;simp
    rw [e];unfold longL;rw [List.filter_eq_nil_iff];intro l hl;rw [decide_eq_true_eq];unfold comps compsTo at hl;obtain ⟨v,_,hv⟩:=List.mem_filterMap.1 hl;split at hv
    · have hv':compL [] [] (n:Int).toNat v=l:=Option.some.inj hv
      have hall:∀ x∈l,x=v:=fun x hx=>by
        rw [← hv'] at hx;have:=(compL_mem.1 hx).2
        rcases this.ends (S:=Adj [] []) (fun h=>h) with q | ⟨x,y,⟨⟨e,he,_⟩,_⟩,_⟩
        · exact q.symm
        · cases he
      have hnd:l.Nodup:=by rw [← hv'];exact compL_nodup
      have:=nsubI_len hnd (b:=[v]) fun x hx=>by rw [hall x hx];exact List.mem_singleton.2 rfl
      simpa using this
    · cases hv
  · rfl
end
end Go.Proofs.Ytafhipglhnfgnaa.Ab
set_option linter.unusedSimpArgs false
set_option linter.unusedVariables false
set_option linter.unnecessarySimpa false
set_option maxHeartbeats 4000000
namespace Go.Proofs.Ytafhipglhnfgnaa.Ab
open Go.RowKit
section
variable {X:CallF} {h:Heap} {cv:Value} {l:List Int}
open Classical in
theorem l_Swaps (hc:Rows h 1 cv (bys l)):C T X n_laws_FnSwaps [cv] h=some (.bool true,h):=by
  refine C_go t_laws_FnSwaps rfl ?_;unfold F_laws_FnSwaps;have cb:=k_big (X:=X) hc
  by_cases hz:(l.length:Int) > 1048576
  · simp only [cb,hz,go_sem]
  obtain ⟨n,es,ev,m',mv',h1,c1,g,p1,oe,om',mk'⟩:=k_DrawRightMatch (X:=X) hc (by omega)
  have hn:n≤9:=by have:=g.1;omega
  have hel:=gok_len g
  have hell:es.length≤lim:=by unfold lim;omega
  obtain ⟨h2,mv,yv,gv,m,ys,gs,c2,p2,om,oy,og,ct⟩:=k_spec_Solve (X:=X) oe.rows g hn (by omega)
  have hml:m.length≤9:=by have:=mok_len ct.2.1;omega
  have hml':m'.length≤9:=by have:=mok_len mk';omega
  have he2:=oe.rows.up p2;have hm2':=om'.rows.up p2
  obtain ⟨x1,h3,c3,p3,o3⟩:=k_impl_Swapped (X:=X) (size:=(n:Int)) he2 om hm2' hell (by omega) (by omega)
  obtain ⟨x2,h4,c4,p4,o4⟩:=k_spec_Swapped (X:=X) (size:=(n:Int)) (he2.up p3) (om.up p3) (hm2'.up p3) hell (by omega) (by omega)
  obtain ⟨x3,h5,c5,p5,o5⟩:=k_impl_Swapped (X:=X) (size:=(n:Int)) (he2.up (p3.trans p4)) (om.up (p3.trans p4)) (om.up (p3.trans p4)) hell (by omega) (by omega)
  rw [swap_self] at o5;have q5:=(p3.trans p4).trans p5
  obtain ⟨x4,h6,c6,p6,o6⟩:=k_impl_Lonely (X:=X) (size:=(n:Int)) (he2.up q5) (om.up q5) hell (by omega)
  obtain ⟨x5,h7,c7,p7,o7⟩:=k_impl_Lonely (X:=X) (size:=(n:Int)) (he2.up (q5.trans p6)) (hm2'.up (q5.trans p6)) hell (by omega)
  have lc:=lonely_count ct.2.1;have lc':=lonely_count mk';obtain ⟨SL,hSL⟩:∃ SL,SL=swapL es m m' (n:Int):=⟨_,rfl⟩;rw [← hSL] at o3 o4
  have hlong:∀ s∈SL,2≤s.length∧s.length≤lim:=fun s hs=>by
    have hb:=(swapL_bnd (es:=es) (m:=m) (n:=m') (size:=(n:Int))).2.1 s (by rw [← hSL];exact hs)
    refine ⟨?_,hb⟩;rw [hSL] at hs;unfold swapL at hs;split at hs
    · have:=(List.mem_filter.1 hs).2
      rw [decide_eq_true_eq] at this;omega
    · cases hs
  have slb:SL.length≤1048576:=by rw [hSL];exact (swapL_bnd (es:=es) (m:=m) (n:=m') (size:=(n:Int))).2.2.1
  have r3:=o3.rows.up p4;have r4:=o4.rows;unfold graphV proofV at *;simp only [cb,hz,c1,c2,c3,c4,r3.ln,r4.ln,zeros,fillAt,List.prefix_refl,go_sem]
  refine w_for SL.length (fun i t loc hh=>hh=h4∧loc 3=some [.int .i64 (n:Nat),ev]∧t 4=mv'∧t 5=mv∧t 8=x1∧t 9=x2∧t 10=.int .i64 (i:Nat)) ⟨rfl,rfl,rfl,rfl,rfl,rfl,rfl⟩ ?_
  rintro i t loc hh hi ⟨rfl,l3,t4,t5,t8,t9,t10⟩;simp only [t8,t10,r3.ln,go_sem]
  refine w_open (by simp only [go_sem];rfl) ?_ ?_<;>intro hc
  · have hi1:i < SL.length:=by omega
    have hw:IntKind.i64.wrap ((i:Int)+1)=((i+1:Nat):Int):=w64 (by omega) (by omega)
    obtain ⟨y1,e1,e2,e3⟩:=r3.el hi1;obtain ⟨y2,f1,f2,f3⟩:=r4.el hi1;obtain ⟨s1,s2⟩:=hlong _ (getD_mem (d:=[]) hi1);have cs:=k_sameInts (X:=X) e3 f3 s2
    have hlt:¬ (((SL.getD i []).length:Int) < 2):=by omega
    simp only [l3,t4,t5,t8,t9,t10,e1,e2,f1,f2,ints_ln e3,hlt,cs,hw,List.prefix_refl,go_sem];exact hi1
  · have ln5:lnV h5 x3=some (.int .i64 0):=o5.rows.ln
    have ln6:=ints_ln o6.rows;have ln7:=ints_ln o7.rows;have lnm:=(om.up q5).lnm;have lnm6:=(om.up (q5.trans p6)).lnm;have lnm':=(hm2'.up (q5.trans p6)).lnm;have lnm7':=(hm2'.up (q5.trans (p6.trans p7))).lnm
    have w1:IntKind.i64.wrap (2*(m.length:Int))=2*(m.length:Int):=w64 (by omega) (by omega)
    have w2:IntKind.i64.wrap (((lonelyL (n:Int) es m).length:Int)+2*(m.length:Int))=(n:Nat):=by rw [w64 (by omega) (by omega)];omega
    have w3:IntKind.i64.wrap (2*(m'.length:Int))=2*(m'.length:Int):=w64 (by omega) (by omega)
    have w4:IntKind.i64.wrap (((lonelyL (n:Int) es m').length:Int)+2*(m'.length:Int))=(n:Nat):=by rw [w64 (by omega) (by omega)];omega
    simp only [l3,t4,t5,t8,t9,t10,c5,ln5,c6,c7,ln6,ln7,lnm,lnm6,lnm',lnm7',w1,w2,w3,w4,go_sem];exact finish_flat rfl ((p1.trans p2).trans (q5.trans (p6.trans p7)))
end
def ps_FnSwaps:List (Bool × List CK):=[(false,[.sl [.int .u8]])]
theorem law_FnSwaps (h:Heap) (avs:List Value) (ha:All2 (ArgOk h) ps_FnSwaps avs):C T noX n_laws_FnSwaps avs h=some (.bool true,h):=by
  obtain ⟨v0,r,rfl,k0,ha⟩:=ha.cons_inv;obtain rfl:=ha.nil_inv;obtain ⟨l,hl⟩:=k0.cell.bytes_inv;exact l_Swaps hl
end Go.Proofs.Ytafhipglhnfgnaa.Ab
