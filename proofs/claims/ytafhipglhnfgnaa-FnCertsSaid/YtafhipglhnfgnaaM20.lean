/- Joined. No conditions. -/
import Derived.Test.YtafhipglhnfgnaaM19
import Derived.Test.YtafhipglhnfgnaaM14
import Derived.Test.YtafhipglhnfgnaaM11
import Derived.Test.YtafhipglhnfgnaaM18
import Derived.Test.YtafhipglhnfgnaaM4
import Derived.ChangeArms
import Derived.Deep.Slices
import Derived.Test.YtafhipglhnfgnaaFT
import Derived.OpenShut
import Derived.Below
import Derived.Carry
import Derived.ChangeShapes
import Derived.WideShapes
set_option linter.unusedSimpArgs false
set_option linter.unusedVariables false
set_option linter.unnecessarySimpa false
set_option maxHeartbeats 4000000
namespace Go.Proofs.Ytafhipglhnfgnaa.Ab
open Go.RowKit
structure GTo (n a b:Nat)(es:List E):Prop where
  ok:∀i,i<es.length→EOk n (es.getD i e0)∧(0<i→ELt (es.getD (i-1) e0) (es.getD i e0))
  lt:∀e∈es,e.a<a∨(e.a=a∧e.b<b)
  few:es.length≤10*a+b
theorem GTo.push {n a b:Nat}{es:List E}{e:E}(g:GTo n a b es)(he:EOk n e)(ha:e.a=a)(hb:e.b=b):GTo n a (b+1) (es++[e]):=by
  refine⟨fun i hi=>?_,fun x hx=>?_,by have:=g.few;simp;omega⟩
  · by_cases hl:i<es.length
    · have e1:(es++[e]).getD i e0=es.getD i e0:=by simp[List.getElem?_append_left hl]
      have e2:(es++[e]).getD (i-1) e0=es.getD (i-1) e0:=by simp[List.getElem?_append_left (show i-1<es.length by omega)]
      rw[e1,e2];exact g.ok i hl
    · have hil:i=es.length:=by simp at hi;omega
      subst hil
      have e1:(es++[e]).getD es.length e0=e:=by simp
      rw[e1]
      refine⟨he,fun h0=>?_⟩
      have e2:(es++[e]).getD (es.length-1) e0=es.getD (es.length-1) e0:=by simp[List.getElem?_append_left (show es.length-1<es.length by omega)]
      rw[e2]
      have:=g.lt _ (zE (d:=e0) (show es.length-1<es.length by omega))
      unfold ELt;omega
  · rcases List.mem_append.1 hx with q | q
    · have:=g.lt x q;omega
    · rw[List.mem_singleton.1 q];omega
theorem GTo.skip {n a b:Nat}{es:List E}(g:GTo n a b es):GTo n a (b+1) es:=⟨g.ok,fun x hx=>by have:=g.lt x hx;omega,by have:=g.few;omega⟩
theorem GTo.row {n a b:Nat}{es:List E}(g:GTo n a b es)(hb:b≤12):GTo n (a+1) (a+2) es:=⟨g.ok,fun x hx=>by have:=g.lt x hx;omega,by have:=g.few;omega⟩
section
variable {X:Zb}{B h:za}{b:Nat}{cv:Value}{l:List Int}
theorem BV (d:Dr B b cv l h):∃(n:Nat) (es:List E) (ev:Value) (hh:za),C T X QT [pk b 0] h=some (zC n ev,hh)∧GOk n es∧Own hh h.length hh.length 5 qD ev (ZF es)∧Dr B b cv l hh∧Fr' b h hh:=by
  suffices hx:∃w hh,C T X QT [pk b 0] h=some (w,hh)∧∃(n:Nat) (es:List E) (ev:Value),w=zC n ev∧GOk n es∧Own hh h.length hh.length 5 qD ev (ZF es)∧Dr B b cv l hh∧Fr' b h hh by
    obtain⟨w,hh,c,n,es,ev,rfl,r⟩:=hx;exact⟨n,es,ev,hh,c,r⟩
  refine wU KC rfl ?_;unfold Wj;obtain⟨z,h1,c1,d1,s1,z0,z1,_⟩:=ZB (X:=X) d 10;obtain⟨n,rfl⟩:=Int.eq_ofNat_of_zero_le z0
  have hn:n≤9:=by have:=z1 (by omega);omega
  obtain⟨ds,h2,c2,d2,s2,ds0,ds1,_⟩:=ZB (X:=X) d1 3
  have hds:=ds1 (by omega)
  have hwd:IntKind.i64.wrap (1+ds)=1+ds:=w64 (by omega) (by omega)
  obtain⟨most,h3,c3,d3,f3,hmost⟩:=za6 (X:=X) d2 [2,4,51] (by simp) (by unfold lim;simp)
  simp only[List.map_cons,List.map_nil,List.length_cons,List.length_nil,Nat.zero_add,Nat.reduceAdd] at c3
  have hm51:0<most∧most≤51:=by
    simp only[List.mem_cons,List.not_mem_nil,or_false] at hmost;omega
  have F3:Fr' b h h3:=((Fr'.same s1).trans (Fr'.same s2)).trans f3;have hbl:=d.lt;simp only[c1,c2,hwd,zj,zi,c3,go_sem]
  refine zT n (fun a t loc h'=>t 0=pk b 0∧loc 2=some [.int .i64 0,zh]∧t 4=.int .i64 (1+ds)∧t 5=.int .i64 most∧t 6=.int .i64 a∧∃es v,loc 3=some [.int .i64 (n:Nat),v]∧GTo n a (a+1) es∧Dr B b cv l h'∧Fr' b h h'∧Own h' h.length h'.length 5 qD v (ZF es))
    ⟨rfl,rfl,rfl,rfl,rfl,[],_,rfl,⟨fun i hi=>by simp at hi,fun e he=>absurd he List.not_mem_nil,Nat.zero_le _⟩,d3,F3,Own.nil⟩ ?_
  rintro a t loc h4 ha ⟨t0,l2,t4,t5,t6,es,v,l3,g,d4,f4,o⟩;simp only[l3,t6,go_sem]
  refine zt (by simp only[go_sem];rfl) ?_ ?_<;>intro hc
  · have ha1:a<n:=by omega
    have hw:IntKind.i64.wrap ((a:Int)+1)=((a+1:Nat):Int):=w64 (by omega) (by omega)
    simp only[t0,l2,l3,t4,t5,t6,hw,go_sem]
    refine WI (n-a) (fun m t loc h'=>t 0=pk b 0∧loc 2=some [.int .i64 0,zh]∧t 4=.int .i64 (1+ds)∧t 5=.int .i64 most∧t 6=.int .i64 a∧∃(c:Nat),∃es v,m+c=n+1∧a<c∧c≤n∧t 7=.int .i64 (c:Nat)∧loc 3=some [.int .i64 (n:Nat),v]∧GTo n a c es∧Dr B b cv l h'∧Fr' b h h'∧Own h' h.length h'.length 5 qD v (ZF es))
      ⟨rfl,rfl,rfl,rfl,rfl,a+1,es,v,by omega,by omega,by omega,rfl,rfl,g,d4,f4,o⟩ ?_
    rintro m t loc h5 ⟨t0,l2,t4,t5,t6,c,es,v,hm,hac,hcn,t7,l3,g,d5,f5,o⟩;simp only[l3,t7,go_sem]
    refine zt (by simp only[go_sem];rfl) ?_ ?_<;>intro hc
    · have hc1:c<n:=by omega
      have hw:IntKind.i64.wrap ((c:Int)+1)=((c+1:Nat):Int):=w64 (by omega) (by omega)
      have hwo:IntKind.i64.wrap (1+ds+1)=1+ds+1:=w64 (by omega) (by omega)
      obtain⟨y,h6,c6,d6,s6⟩:=X1 (X:=X) d5 (1+ds+1);have f6:=f5.trans (Fr'.same s6)
      have o6:Own h6 h.length h6.length 5 qD v (ZF es):=by
        rw[s6.len]
        exact o.same s6 (.inr (by omega))
      have hfew:=g.few
      cases y with
      | false =>
        obtain⟨x1,h7,c7,d7,s7,x10,x11,_⟩:=ZB (X:=X) d6 most;obtain⟨x2,h8,c8,d8,s8,x20,x21,_⟩:=ZB (X:=X) d7 most;obtain⟨x3,h9,c9,d9,s9,x30,x31,_⟩:=ZB (X:=X) d8 most
        have y1:=x11 (by omega)
        have y2:=x21 (by omega)
        have y3:=x31 (by omega)
        have f9:=((f6.trans (Fr'.same s7)).trans (Fr'.same s8)).trans (Fr'.same s9)
        have o9:Own h9 h.length h9.length 5 qD v (ZF es):=by
          rw[s9.len,s8.len,s7.len]
          exact ((o6.same s7 (.inr (by omega))).same s8 (.inr (by omega))).same s9 (.inr (by omega))
        by_cases q4:most=4
        · obtain⟨v2,hx,cx,q1,q2,ox⟩:=o9.push1 f9.len (ZT ⟨(a:Int),(c:Int),x1,0,0⟩) rfl (by rw[List.length_map];unfold lim;omega)
          rw[Nat.max_eq_right q1] at ox
          have fx:=f9.push2 q1 (fun c hc=>q2 c (.inl hc))
          have dx:=d.push2 d9 fx (fun c hc=>q2 c (.inl hc))
          unfold ZT at cx;rw[q4] at c7 c8 c9 t5;simp only[t0,l2,l3,t4,t5,t6,t7,hwo,c6,c7,c8,c9,zj,zi,cx,ox.cells,hw,go_sem]
          refine⟨m-1,by omega,?_,c+1,es++[⟨(a:Int),(c:Int),x1,0,0⟩],v2,by omega,by omega,by omega,rfl,rfl,g.push ⟨by simp only;omega,by simp only;omega,by simp only;omega,by simp only;omega,by simp only;omega,by simp,by simp,by simp,by simp⟩ rfl rfl,dx,fx,by simpa using ox⟩
          rw[q4]
        · obtain⟨v2,hx,cx,q1,q2,ox⟩:=o9.push1 f9.len (ZT ⟨(a:Int),(c:Int),x1,x2,x3⟩) rfl (by rw[List.length_map];unfold lim;omega)
          rw[Nat.max_eq_right q1] at ox
          have fx:=f9.push2 q1 (fun c hc=>q2 c (.inl hc))
          have dx:=d.push2 d9 fx (fun c hc=>q2 c (.inl hc))
          unfold ZT at cx;simp only[q4,t0,l2,l3,t4,t5,t6,t7,hwo,c6,c7,c8,c9,zj,zi,cx,ox.cells,hw,go_sem]
          exact⟨m-1,by omega,c+1,es++[⟨(a:Int),(c:Int),x1,x2,x3⟩],v2,by omega,by omega,by omega,rfl,rfl,g.push ⟨by simp only;omega,by simp only;omega,by simp only;omega,by simp only;omega,by simp only;omega,by simp only;omega,by simp only;omega,by simp only;omega,by simp only;omega⟩ rfl rfl,dx,fx,by simpa using ox⟩
      | true =>
        by_cases q3:1+ds=3
        · rw[q3] at t4 hwo c6
          obtain⟨x1,h7,c7,d7,s7,x10,x11,_⟩:=ZB (X:=X) d6 most;obtain⟨x2,h8,c8,d8,s8,x20,x21,_⟩:=ZB (X:=X) d7 most;obtain⟨x3,h9,c9,d9,s9,x30,x31,_⟩:=ZB (X:=X) d8 most
          have y1:=x11 (by omega)
          have y2:=x21 (by omega)
          have y3:=x31 (by omega)
          have f9:=((f6.trans (Fr'.same s7)).trans (Fr'.same s8)).trans (Fr'.same s9)
          have o9:Own h9 h.length h9.length 5 qD v (ZF es):=by
            rw[s9.len,s8.len,s7.len]
            exact ((o6.same s7 (.inr (by omega))).same s8 (.inr (by omega))).same s9 (.inr (by omega))
          by_cases q4:most=4
          · obtain⟨v2,hx,cx,q1,q2,ox⟩:=o9.push1 f9.len (ZT ⟨(a:Int),(c:Int),x1,0,0⟩) rfl (by rw[List.length_map];unfold lim;omega)
            rw[Nat.max_eq_right q1] at ox
            have fx:=f9.push2 q1 (fun c hc=>q2 c (.inl hc))
            have dx:=d.push2 d9 fx (fun c hc=>q2 c (.inl hc))
            unfold ZT at cx;rw[q4] at c7 c8 c9 t5;simp only[q3,t0,l2,l3,t4,t5,t6,t7,hwo,c6,c7,c8,c9,zj,zi,cx,ox.cells,hw,go_sem]
            refine⟨m-1,by omega,?_,c+1,es++[⟨(a:Int),(c:Int),x1,0,0⟩],v2,by omega,by omega,by omega,rfl,rfl,g.push ⟨by simp only;omega,by simp only;omega,by simp only;omega,by simp only;omega,by simp only;omega,by simp,by simp,by simp,by simp⟩ rfl rfl,dx,fx,by simpa using ox⟩
            rw[q4]
          · obtain⟨v2,hx,cx,q1,q2,ox⟩:=o9.push1 f9.len (ZT ⟨(a:Int),(c:Int),x1,x2,x3⟩) rfl (by rw[List.length_map];unfold lim;omega)
            rw[Nat.max_eq_right q1] at ox
            have fx:=f9.push2 q1 (fun c hc=>q2 c (.inl hc))
            have dx:=d.push2 d9 fx (fun c hc=>q2 c (.inl hc))
            unfold ZT at cx;simp only[q3,q4,t0,l2,l3,t4,t5,t6,t7,hwo,c6,c7,c8,c9,zj,zi,cx,ox.cells,hw,go_sem]
            exact⟨m-1,by omega,c+1,es++[⟨(a:Int),(c:Int),x1,x2,x3⟩],v2,by omega,by omega,by omega,rfl,rfl,g.push ⟨by simp only;omega,by simp only;omega,by simp only;omega,by simp only;omega,by simp only;omega,by simp only;omega,by simp only;omega,by simp only;omega,by simp only;omega⟩ rfl rfl,dx,fx,by simpa using ox⟩
        · simp only[q3,t0,l2,l3,t4,t5,t6,t7,hwo,c6,hw,go_sem]
          exact⟨m-1,by omega,c+1,es,v,by omega,by omega,by omega,rfl,rfl,g.skip,d6,f6,o6⟩
    · have hcn2:c=n:=by omega
      subst hcn2;simp only[t0,l2,l3,t4,t5,t6,hw,go_sem]
      exact⟨ha1,es,v,rfl,g.row (by omega),d5,f5,o⟩
  · have han:a=n:=by omega
    subst han;simp only[l2,l3,o.cells,go_sem]
    refine⟨a,es,v,by rw[WE];rfl,⟨⟨by omega,by omega⟩,g.ok⟩,?_,YW d d4 f4⟩
    unfold zp;split
    · rename_i hc
      have hf:prim v=true:=by simpa[flat,prim] using hc.1
      exact o.flatP hf
    · exact o
end
section
variable {g g':Ql}{h h':za}{b sz:Nat}{τ:Tg}{ty:TypeId}{v:Value}{rws new:List (List Value)}
theorem Has.pushs (a : Has g h τ sz ty v rws) (ok : vi b g h) (hb : b < h.length) (hn : ∀ r ∈ new, r.length = sz) (h1 : new ≠ []) (hl : rws.length + new.length ≤ lim) :
    ∃v' h' g',qS h sz ty new.length v (some new.flatten)=some (v',h')∧Tn b (·=τ) g h g' h'∧h'[b]?=h[b]?∧Has g' h' τ sz ty v' (rws++new)∧∀c τ',g' c=some τ'→g c=some τ'∨c=h.length:=by
  rcases a.own with⟨rfl,rfl⟩ | ⟨c,hc1,h2,o⟩
  · have o:Own h h.length h.length sz ty zh []:=Own.nil
    obtain⟨v',h',e1,e2,e3,e4,e5⟩:=UU o (Nat.le_refl _) new hn h1 (by simpa using hl)
    rcases e4 with⟨_,t1,t2,t3⟩ | ⟨q,_⟩
    · have nb:∀x,x<h.length→h'[x]?=h[x]?:=fun x hx=>e3 x hx (.inr (Nat.zero_le _))
      refine⟨v',h',fun x=>if x=h.length then some τ else g x,e1,⟨e2,fun x hx _ _=>nb x hx,fun x t _ q=>?_,fun x t hx q=>?_,fun x t q=>?_⟩,nb b hb,⟨e5.len,?_⟩,fun x t q=>?_⟩
      · show (if x=h.length then some τ else g x)=some t
        rw[if_neg (by have:=(ok x t q).2;omega)]
        exact q
      · have q':(if x=h.length then some τ else g x)=some t:=q
        rw[if_neg (by omega)] at q'
        exact q'
      · have q':(if x=h.length then some τ else g x)=some t:=q
        by_cases e:x=h.length
        · subst e;exact⟨by omega,by omega⟩
        · rw[if_neg e] at q'
          have:=ok x t q'
          exact⟨this.1,by omega⟩
      · rcases e5.is with⟨_,q⟩ | ⟨c',l1,l2,l3,l4⟩
        · simp at q;exact absurd q h1
        · have:c'=h.length:=by omega
          subst this;exact .inr ⟨h.length,if_pos rfl,l3,l4⟩
      · have q':(if x=h.length then some τ else g x)=some t:=q
        by_cases e:x=h.length
        · exact .inr e
        · rw[if_neg e] at q';exact .inl q'
    · exact absurd rfl q
  · obtain⟨v',h',e1,e2,e3,e4,e5⟩:=UU o (by have:=(ok c τ hc1).2;omega) new hn h1 hl
    have hcb:=ok c τ hc1
    have tv:tlo v=c∧thi v=c+1:=by rw[h2];exact⟨rfl,rfl⟩
    rcases e4 with⟨q,_⟩ | ⟨_,t1,t2,t3⟩
    · rw[h2] at q;cases q
    · have nb:∀x,x<h.length→x≠c→h'[x]?=h[x]?:=fun x hx hne=>e3 x hx (by omega)
      refine⟨v',h',g,e1,⟨e2,fun x hx _ q=>nb x hx fun e=>?_,fun _ _ _ q=>q,fun _ _ _ q=>q,fun x t q=>by rw[t1];exact ok x t q⟩,nb b hb (by omega),⟨e5.len,?_⟩,fun x t q=>.inl q⟩
      · subst e;exact q τ hc1 rfl
      · rcases e5.is with⟨_,q⟩ | ⟨c',l1,l2,l3,l4⟩
        · simp at q;exact absurd q.2 h1
        · have:c'=c:=by omega
          subst this;exact .inr ⟨c',hc1,l3,l4⟩
theorem Has.same (a:Has g h τ sz ty v rws)(ok:vi b g h)(s:Qq b (b+1) h h'):Has g h' τ sz ty v rws∧vi b g h':=by
  refine⟨⟨a.len,?_⟩,fun c t q=>by rw[s.len];exact ok c t q⟩
  rcases a.is with q | ⟨c,h1,h2,h3⟩
  · exact .inl q
  · have:=(ok c τ h1).1
    exact .inr ⟨c,h1,h2,by rw[s.blk c (by omega)];exact h3⟩
end
section
variable {X:Zb}{B h:za}{b:Nat}{cv:Value}{l:List Int}{n:Nat}{es:List E}{ev:Value}
structure Ms (B h:za)(b:Nat)(cv:Value)(l:List Int)(h':za)(g:Ql)(mv uv:Value)(ms:List Cp)(us:List Int):Prop where
  d:Dr B b cv l h'
  f:Fr' b h h'
  ok:vi b g h'
  hi:∀c τ,g c=some τ→h.length≤c
  m:Has g h' (.lk 0) 2 Zl mv (cps ms)
  u:Has g h' (.rg 0) 1 zf uv (zq us)
theorem Ms.same {h' h2:za}{g:Ql}{mv uv:Value}{ms:List Cp}{us:List Int}(M:Ms B h b cv l h' g mv uv ms us)(s:Qq b (b+1) h' h2)(d2:Dr B b cv l h2):Ms B h b cv l h2 g mv uv ms us :=
  ⟨d2,M.f.trans (Fr'.same s),(M.m.same M.ok s).2,M.hi,(M.m.same M.ok s).1,(M.u.same M.ok s).1⟩
theorem Ms.turn {h' h2:za}{g g':Ql}{mv uv mv' uv':Value}{ms ms':List Cp}{us us':List Int}{T:Tg→Prop}(d0:Dr B b cv l h)(M:Ms B h b cv l h' g mv uv ms us)(e:Tn b T g h' g' h2)(hb:h2[b]?=h'[b]?)(hg:∀c τ,g' c=some τ→g c=some τ∨c=h'.length)(hm:Has g' h2 (.lk 0) 2 Zl mv' (cps ms'))(hu:Has g' h2 (.rg 0) 1 zf uv' (zq us')):Ms B h b cv l h2 g' mv' uv' ms' us':=by
  have F2:Fr' b h h2:=⟨Nat.le_trans M.f.len e.len,fun c hc hne=>by
    rw[e.blk c (Nat.lt_of_lt_of_le hc M.f.len) hne fun τ q=>by have:=M.hi c τ q;omega]
    exact M.f.old c hc hne⟩
  obtain⟨i,x,hi,hc⟩:=M.d.cur
  refine⟨d0.same F2 ⟨i,x,hi,by rw[hb];exact hc⟩,F2,e.ok,fun c τ q=>?_,hm,hu⟩
  rcases hg c τ q with q | q
  · exact M.hi c τ q
  · rw[q];exact M.f.len
theorem Ms.pushM {h':za}{g:Ql}{mv uv:Value}{ms:List Cp}{us:List Int}(d0:Dr B b cv l h)(M:Ms B h b cv l h' g mv uv ms us)(a c:Int)(hl:ms.length+1≤lim):∃mv' h2 g',qS h' 2 Zl 1 mv (some [.int .i64 a,.int .i64 c])=some (mv',h2)∧Ms B h b cv l h2 g' mv' uv (ms++[⟨a,c⟩]) us:=by
  obtain⟨mv',h2,g',e1,e2,e3,e4,e5⟩:=M.m.pushs M.ok M.d.lt (new:=[cpR ⟨a,c⟩]) (fun r hr=>by rw[List.mem_singleton.1 hr];rfl) (by simp) (by rw[List.length_map];exact hl)
  have e4':Has g' h2 (.lk 0) 2 Zl mv' (cps (ms++[⟨a,c⟩])):=by simpa[cps] using e4
  exact⟨mv',h2,g',e1,M.turn d0 e2 e3 e5 e4' (M.u.tn M.ok e2 (by simp))⟩
end
section
variable {X:Zb}{h:za}{ev mv nv:Value}{es:List E}{m n:List Cp}{size:Int}{c:Cp}
theorem vV.any {h:za}{lo hi:Nat}{tyO tyI:TypeId}{ll:List (List Int)}{vs:List Value}{v:Value}(o:vV h lo hi tyO tyI v ll vs){i:Nat}(hi1:i<ll.length):vs.getD i zh=zh∨(lo≤tlo (vs.getD i zh)∧thi (vs.getD i zh)≤hi):=by
  rcases (o.ins i hi1).within with h | ⟨h1,h2,_⟩
  · exact .inl h
  · exact .inr ⟨h1,h2⟩
end
end Go.Proofs.Ytafhipglhnfgnaa.Ab
/- Arguments: what a reading of numbers, yi, bools, structs and slices of them tells, as an abstract memory of which nothing is one's own. No conditions. -/
namespace Go.Proofs.Ytafhipglhnfgnaa.Ab
open Go.RowKit
inductive CK where
  | int (k:IntKind)
  | bool
  | str
  | sl (e:List CK)
inductive qZ (h:za):CK→Value→Prop
  | int (k:IntKind) (n:Int) (hw:(Lit.int k n).wf=true):qZ h (.int k) (.int k n)
  | bool (b:Bool):qZ h .bool (.bool b)
  | str (s:ByteArray) (hs:s.size≤maxLen):qZ h .str (.string s)
  | sl (e:List CK) (v:Value) (rows:List (List Value)) (hr:Rows h e.length v rows) (hm:rows.length≤maxLen)
      (hk:∀r∈rows,∀(i:Nat) (k:CK) (x:Value),e[i]?=some k→r[i]?=some x→qZ h k x):qZ h (.sl e) v
theorem qZ.up {h h':za}(hp:h <+: h'){k:CK}{v:Value}(s:qZ h k v):qZ h' k v:=by
  induction s with
  | int k n hw=>exact .int k n hw
  | bool b=>exact .bool b
  | str s hs=>exact .str s hs
  | sl e v rows hr hm hk ih=>exact .sl e v rows (hr.up hp) hm ih
def jD (P:Program)(g:TypeId→Option (List CK)):Nat→List Field→Option (List CK)
  | _,[]=>some []
  | off,f::fs=>match g f.type with
    | some ks=>if f.offset=off∧ks.length=P.cellsOf f.type then (jD P g (off+ks.length) fs).map (ks++·) else none
    | none=>none
def UN (P:Program):Nat→TypeId→Option (List CK)
  | 0,_=>none
  | n+1,t=>match P.underlying t with
    | some (.int k)=>some [.int k]
    | some .bool=>some [.bool]
    | some .string=>some [.str]
    | some (.slice e)=>match UN P n e with
      | some ks=>if ks.length=P.cellsOf e∧0<ks.length then some [.sl ks] else none
      | none=>none
    | some (.struct fs)=>match jD P (UN P n) 0 fs.toList with
      | some ks=>if ks.length=P.cellsOf t then some ks else none
      | none=>none
    | _=>none
def U9 (h:za):Prop:=∀(b:Nat) (blk:Blk),h[b]?=some blk→blk.own=false
theorem Zn.show {μ : Map} {h : za} {w : World} (k : Zn μ h w) (hn : U9 h) {blk : Blk} (ho : blk.own = false) (hp : 0 < blk.sz) {l : Loc} (hl : l.g < w.heap.size)
    (hc:∀(i:Nat) (v:Value),blk.cells[i]?=some v→∃v',w.cell? ⟨l.g,l.o+i,none⟩=some v'∧VR1 μ h v v') :
    Zn (μ.to h.length l) (h++[blk]) w∧Up μ h (μ.to h.length l) (h++[blk])∧U9 (h++[blk]):=by
  have up:=Up.push μ h l blk
  have no:U9 (h++[blk]):=fun b b' hb=>by
    rcases Zd hb with⟨_,rfl⟩ | ⟨_,hb⟩
    · exact ho
    · exact hn _ _ hb
  refine⟨⟨fun b' blk' hb' i v hv=>?_,fun b' blk' hb'=>?_,fun b' blk' hb'=>?_,fun b' blk' hb' ho'=>?_,fun b1 b2 blk1 blk2 h1 h2 h3 h4=>?_⟩,up,no⟩
  · rcases Zd hb' with⟨rfl,rfl⟩ | ⟨hlt,hb'⟩
    · obtain⟨v',h1,h2⟩:=hc i v hv
      exact⟨v',by rw[Map.to_same];exact h1,h2.up up⟩
    · obtain⟨v',h1,h2⟩:=k.cell b' blk' hb' i v hv
      exact⟨v',by rw[Map.to_ne _ _ (by omega)];exact h1,h2.up up⟩
  · rcases Zd hb' with⟨rfl,rfl⟩ | ⟨hlt,hb'⟩
    · exact hp
    · exact k.pos _ _ hb'
  · rcases Zd hb' with⟨rfl,rfl⟩ | ⟨hlt,hb'⟩
    · rw[Map.to_same];exact hl
    · rw[Map.to_ne _ _ (by omega)];exact k.lt _ _ hb'
  · rw[no _ _ hb'] at ho';cases ho'
  · rw[no _ _ h1] at h3;cases h3
def vS (w:World)(ks:List CK)(cs:List Value):Prop:=∀(h:za) (μ:Map),Zn μ h w→U9 h→∃h' μ' acs,h <+: h'∧Up μ h μ' h'∧Zn μ' h' w∧U9 h'∧zP (VR0 μ' h') acs cs∧zP (qZ h') ks acs
theorem vS.nil {w:World}:vS w [] []:=fun h μ H N=>⟨h,μ,[],List.prefix_refl _,Up.refl _ _,H,N,zP.nil,zP.nil⟩
theorem vS.append {w:World}{ks1 ks2:List CK}{cs1 cs2:List Value}(o1:vS w ks1 cs1)(o2:vS w ks2 cs2):vS w (ks1++ks2) (cs1++cs2):=by
  intro h μ H N;obtain⟨h1,μ1,a1,p1,u1,H1,N1,v1,s1⟩:=o1 h μ H N;obtain⟨h2,μ2,a2,p2,u2,H2,N2,v2,s2⟩:=o2 h1 μ1 H1 N1
  exact⟨h2,μ2,a1++a2,p1.trans p2,u1.trans u2,H2,N2,(v1.imp fun _ _ k=>k.up u2).append v2,(s1.imp fun _ _ k=>k.up p2).append s2⟩
theorem vS.one {w:World}{k:CK}{v:Value}(hp:prim v=true)(hs:∀h,qZ h k v):vS w [k] [v]:=fun h μ H N =>
  ⟨h,μ,[v],List.prefix_refl _,Up.refl _ _,H,N,zP.cons (.prim _ hp) zP.nil,zP.cons (hs h) zP.nil⟩
theorem jR {P : Program} {w : World} {g : TypeId → Option (List CK)} {cs : List Value} : ∀ (fs : List Field) (off : Nat) (ks : List CK), jD P g off fs = some ks → off + ks.length ≤ cs.length →
    (∀f∈fs,∀k,g f.type=some k→vS w k ((cs.drop f.offset).take (P.cellsOf f.type)))→vS w ks ((cs.drop off).take ks.length)
  | [],off,ks,h,_,_=>by simp[jD] at h;subst h;simpa using vS.nil
  | f::fs,off,ks,h,hl,ho=>by
    simp only[jD] at h;split at h
    · rename_i k hk
      split at h
      · rename_i hc
        obtain⟨h1,h2⟩:=hc;simp only[Option.map_eq_some_iff] at h;obtain⟨ks',h3,rfl⟩:=h;simp only[List.length_append] at hl;have o1:=ho f List.mem_cons_self k hk;rw[h1,←h2] at o1
        have o2:=jR fs (off+k.length) ks' h3 (by omega) fun f hf=>ho f (List.mem_cons_of_mem _ hf)
        have e:(cs.drop off).take (k++ks').length=(cs.drop off).take k.length++(cs.drop (off+k.length)).take ks'.length:=by
          rw[List.length_append,List.take_add,List.drop_drop]
        rw[e];exact o1.append o2
      · cases h
    · cases h
theorem zfx (a:Addr)(n:Nat):(a.add n).block=a.block:=by unfold Addr.add;split<;>rfl
theorem co {w : World} {a : Addr} {e : List CK} {n : Nat} (hr : ∀ i, i < n → ∃ cs, cs.length = e.length ∧ (∀ j, j < e.length → w.cell? (a.add (i * e.length + j)) = cs[j]?) ∧ vS w e cs) :
    ∀(h:za) (μ:Map),Zn μ h w→U9 h→∃(h':za) (μ':Map) (rows:List (List Value)) (flat:List Value),h <+: h'∧Up μ h μ' h'∧Zn μ' h' w∧U9 h'∧rows.length=n∧(∀r∈rows,zP (qZ h') e r)∧zP (VR0 μ' h') rows.flatten flat∧flat.length=n*e.length∧∀q,q<n*e.length→w.cell? (a.add q)=flat[q]?:=by
  induction n with
  | zero=>exact fun h μ H N=>⟨h,μ,[],[],List.prefix_refl _,Up.refl _ _,H,N,rfl,fun _ h=>(by cases h),zP.nil,by simp,fun q hq=>by omega⟩
  | succ n ih =>
    intro h μ H N
    obtain⟨h1,μ1,rows,flat,p1,u1,H1,N1,l1,s1,v1,f1,g1⟩:=ih (fun i hi=>hr i (by omega)) h μ H N
    obtain⟨cs,c1,c2,c3⟩:=hr n (by omega)
    obtain⟨h2,μ2,acs,p2,u2,H2,N2,v2,s2⟩:=c3 h1 μ1 H1 N1
    refine⟨h2,μ2,rows++[acs],flat++cs,p1.trans p2,u1.trans u2,H2,N2,by simp[l1],fun r hr=>?_,?_,?_,fun q hq=>?_⟩
    · rcases List.mem_append.1 hr with hr | hr
      · exact (s1 r hr).imp fun _ _ k=>k.up p2
      · rw[List.mem_singleton.1 hr];exact s2
    · rw[List.flatten_append]
      simpa using (v1.imp fun _ _ k=>k.up u2).append v2
    · rw[List.length_append,f1,c1,Nat.add_mul,Nat.one_mul]
    · rw[Nat.add_mul,Nat.one_mul] at hq
      by_cases hlt:q<n*e.length
      · rw[g1 q hlt,List.getElem?_append_left (by omega)]
      · have:=c2 (q-n*e.length) (by omega)
        rw[show n*e.length+(q-n*e.length)=q by omega] at this
        rw[this,List.getElem?_append_right (by omega),f1]
theorem dK {fs:List Field}{f:Field}(h:f∈fs):∃i:Nat,fs[i]?=some f:=by
  obtain⟨i,hi,e⟩:=List.mem_iff_getElem.1 h
  exact⟨i,by rw[List.getElem?_eq_getElem hi,e]⟩
theorem Bb {rows:List (List Value)}{sz:Nat}(hl:∀r∈rows,r.length=sz){flat:List Value}{μ:Map}{h:za}(v:zP (VR0 μ h) rows.flatten flat){q:Nat}{x:Value}(hx:rows.flatten[q]?=some x):∃y,flat[q]?=some y∧VR1 μ h x y:=by
  obtain⟨y,hy,k⟩:=v.get hx;exact⟨y,hy,.base _ _ k⟩
theorem yQ {H : Type} {enc : TypeId × Value → H} {P : Program} {w : World} {spare : Nat → Bool} {held : Bool} (hsp : ∀ b, spare b = true) : ∀ (n : Nat) (t : TypeId) (ks : List CK), UN P n t = some ks →
    ∀(fuel:Nat) (cs:List Value) (x:DataW H × List MemPlace),DataW.trod enc P w 0 spare held fuel t cs=some x→vS w ks cs
  | 0,t,ks,h=>by cases h
  | n+1,t,ks,h=>by
    intro fuel cs x hx;simp only[UN] at h;split at h
    · rename_i k ht
      cases h;obtain⟨m,rfl,_,hw⟩:=DataW.trod_int ht hx
      exact vS.one rfl fun _=>.int k m hw
    · rename_i ht
      cases h;obtain⟨b,rfl,_⟩:=DataW.trod_bool ht hx
      exact vS.one rfl fun _=>.bool b
    · rename_i ht
      cases h;obtain⟨b,rfl,_,hw⟩:=DataW.trod_string ht hx
      exact vS.one rfl fun _=>.str b hw
    · rename_i e ht
      split at h
      · rename_i ke hke
        split at h
        · rename_i hc
          obtain⟨hc1,hc2⟩:=hc;cases h;rcases Go.Deep.open_slice ht hx with⟨rfl,_⟩ | ⟨a,len,cap,m,k,D,Pl,rfl,_,hlc,hcm,hm,_,hi⟩
          · exact vS.one rfl fun _=>.sl ke _ [] Rows.nil (Nat.zero_le _) (fun _ h=>by cases h)
          · rw[hsp,if_pos rfl] at hm
            subst hm
            have hrow:∀i,i<m→∃cs,cs.length=ke.length∧(∀j,j<ke.length→w.cell? (a.add (i*ke.length+j))=cs[j]?)∧vS w ke cs:=fun i him=>by
              obtain⟨cs',hc',ht'⟩:=hi i him;obtain⟨_,hcl,hat⟩:=World.cells?_some hc';rw[←hc1] at hcl hat
              refine⟨cs',hcl,fun j hj=>?_,yQ hsp n e ke hke k cs' _ ht'⟩
              rw[←Go.Deep.add_add];exact hat j hj
            by_cases hz:m=0
            · subst hz
              obtain rfl:len=0:=by omega
              exact fun h μ H N=>⟨h,μ,[.slice none 0 0],List.prefix_refl _,Up.refl _ _,H,N,zP.cons (.hollow a) zP.nil,zP.cons (.sl ke _ [] Rows.nil (Nat.zero_le _) (fun _ h=>by cases h)) zP.nil⟩
            · intro h μ H N
              obtain⟨h1,μ1,rows,flat,p1,u1,H1,N1,l1,s1,v1,f1,g1⟩:=co (n:=len) (fun i hi=>hrow i (by omega)) h μ H N
              have hsz:∀r∈rows,r.length=ke.length:=fun r hr=>(s1 r hr).1.symm
              obtain⟨c0,q1,q2,_⟩:=hrow 0 (by omega)
              have hcell:w.cell? a=c0[0]?:=by
                have:=q2 0 hc2;simpa[Addr.add] using this
              rw[List.getElem?_eq_getElem (by omega)] at hcell
              have hblk:∃cur et fr,w.heap[a.block]?=some (.cells cur et fr)∧a.spot=none:=by
                unfold World.cell? at hcell;split at hcell
                · rename_i cur et fr hb
                  split at hcell
                  · cases hcell
                  · rename_i hs
                    exact⟨cur,et,fr,hb,by simpa using hs⟩
                · cases hcell
              obtain⟨cur,et,fr,hb,hs⟩:=hblk;have hlt:a.block<w.heap.size:=(Array.getElem?_eq_some_iff.1 hb).1
              have ha:a=⟨a.block,a.off,none⟩:=by cases a;simp_all
              have hadd:∀q,a.add q=⟨a.block,a.off+q,none⟩:=fun q=>by
                unfold Addr.add;split
                · rename_i h0;subst h0;rw[Nat.add_zero];exact ha
                · rfl
              obtain⟨H2,u2,N2⟩:=H1.show N1 (blk:=⟨rows.flatten,ke.length,0,false⟩) rfl hc2 (l:=⟨a.block,a.off,0⟩) hlt (fun i v hv=>by
                obtain⟨y,hy,k⟩:=Bb hsz v1 hv;refine⟨y,?_,k⟩
                have hq:i<len*ke.length:=by
                  have:=(List.getElem?_eq_some_iff.1 hy).1;omega
                have:=g1 i hq;rw[hadd] at this;rw[this]
                exact hy)
              have hfl:rows.flatten.length=len*ke.length:=by rw[Zu hsz,l1]
              refine⟨_,_,[.slice (some ⟨h1.length,0,none⟩) len len],p1.trans (List.prefix_append _ _),u1.trans u2,H2,N2,zP.cons (.sl h1.length 0 len len _ ⟨rows.flatten,ke.length,0,false⟩ (by simp) (Nat.le_refl _) (by simp only[Nat.zero_add,hfl];exact Nat.le_refl _) (fun _=>?_) rfl) zP.nil,zP.cons (.sl ke _ rows ?_ (by omega) (fun r hr i k x hk hx=>?_)) zP.nil⟩
              · refine⟨a,m,rfl,hlc,hcm,.inr ?_,fun h=>by cases h⟩
                rw[Map.to_same];exact ha
              · refine⟨hsz,.inr ⟨h1.length,0,len,⟨rows.flatten,ke.length,0,false⟩,by rw[l1],by simp,rfl,by simp[hfl],by omega,?_⟩⟩
                rw[l1,←hfl,List.drop_zero];exact List.take_length
              · exact ((s1 r hr).2 i k x hk hx).up (List.prefix_append _ _)
        · cases h
      · cases h
    · rename_i fs ht
      split at h
      · rename_i ks' hf
        split at h
        · rename_i hl
          cases h;obtain⟨xs,k,_,_,hlen,hxl,hfs⟩:=DataW.trod_struct ht hx
          have:=jR (w:=w) (cs:=cs) fs.toList 0 ks hf (by omega) (fun f hmem kf hkf=>by
            obtain⟨i,hi⟩:=dK hmem
            have hi':fs[i]?=some f:=by simpa using hi
            have h1:=hfs i f hi'
            have hil:i<xs.length:=by rw[hxl];exact (Array.getElem?_eq_some_iff.1 hi').1
            rw[List.getElem?_eq_getElem hil] at h1
            exact yQ hsp n f.type kf hkf k _ _ h1)
          rw[List.drop_zero,List.take_of_length_le (by omega)] at this
          exact this
        · cases h
      · cases h
    · cases h
end Go.Proofs.Ytafhipglhnfgnaa.Ab
/- A law's call, from the arguments as they are read to the answer. No conditions. -/
namespace Go.Proofs.Ytafhipglhnfgnaa.Ab
open Go.RowKit
def bm (P:Program)(t:TypeId):Bool:=match P.underlying t with
  | some (.struct _)=>true
  | _=>false
def paramsK (P:Program):List TypeId→Option (List (Bool × List CK))
  | []=>some []
  | t::ts=>match UN P 12 t,paramsK P ts with
    | some ks,some ps=>some ((bm P t,ks)::ps)
    | _,_=>none
def uE (h:za)(p:Bool × List CK)(v:Value):Prop:=∃acs,zP (qZ h) p.2 acs∧if p.1=true then v=.agg ⟨acs⟩ else acs=[v]
theorem uE.up {h h':za}(hp:h <+: h'){p:Bool × List CK}{v:Value}(a:uE h p v):uE h' p v:=by
  obtain⟨acs,h1,h2⟩:=a
  exact⟨acs,h1.imp fun _ _ k=>k.up hp,h2⟩
theorem Zn.empty {μ:Map}{w:World}:Zn μ [] w:=⟨fun b _ h=>by simp at h,fun b _ h=>by simp at h,fun b _ h=>by simp at h,fun b _ h=>by simp at h,fun b _ _ _ h=>by simp at h⟩
theorem U9.empty:U9 []:=fun b _ h=>by simp at h
section
variable {H:Type}{enc:TypeId × Value→H}{P:Program}{W:World}{base:Nat}
theorem B9 {t:TypeId}{v:Value}{ks:List CK}{n:Nat}(hk:UN P (n+1) t=some ks)(hs:bm P t=false)(h:Value.okWide P W .any base t v):v.cells.toList=[v]:=by
  unfold bm at hs;simp only[UN] at hk;unfold Value.okWide Cell.okWide Cell.ok at h
  cases hu:P.underlying t with
  | none=>rw[hu] at hk;cases hk
  | some d =>
    rw[hu] at hk h hs
    cases d<;>simp only[Bool.true_eq_false] at hs<;>(try (cases hk;done))<;>cases v<;>first | rfl | exact h.elim
theorem G5 : ∀ (ts : List TypeId) (ps : List (Bool × List CK)) (vs : List Value) (ds : List (DataW H)) (pl : List MemPlace), paramsK P ts = some ps → DataW.TrodAll enc P W 0 (fun _ => true) true ts vs ds pl →
    (∀(j:Nat) (t:TypeId) (v:Value),ts[j]?=some t→vs[j]?=some v→Value.okWide P W .any base t v) →
    ∀(h:za) (μ:Map),Zn μ h W→U9 h→∃(h':za) (μ':Map) (avs:List Value),h <+: h'∧Up μ h μ' h'∧Zn μ' h' W∧U9 h'∧zP (VR μ' h') avs vs∧zP (uE h') ps avs
  | [],ps,vs,ds,pl,hp,ht,_,h,μ,R,N=>by
    simp[paramsK] at hp;subst hp;obtain⟨rfl,_,_⟩:=Go.ChangeShapes.trodAll_nil ht;exact⟨h,μ,[],List.prefix_refl _,Up.refl _ _,R,N,zP.nil,zP.nil⟩
  | t::ts,ps,vs,ds,pl,hp,ht,hw,h,μ,R,N=>by
    simp only[paramsK] at hp;split at hp
    · rename_i ks ps' hk hps
      cases hp;obtain⟨v,vs',d,ds',p,q,rfl,rfl,rfl,⟨fuel,hf⟩,htr⟩:=Go.ChangeShapes.trodAll_cons ht
      obtain⟨h1,μ1,acs,p1,u1,R1,N1,v1,s1⟩:=yQ (fun _=>rfl) 12 t ks hk fuel _ _ hf h μ R N
      obtain⟨h2,μ2,avs,p2,u2,R2,N2,v2,s2⟩:=G5 ts ps' vs' ds' q hps htr (fun j t v h1 h2=>hw (j+1) t v (by simpa using h1) (by simpa using h2)) h1 μ1 R1 N1
      have hv:=hw 0 t v rfl rfl
      have vv:zP (VR1 μ2 h2) acs v.cells.toList:=v1.imp fun _ _ k=>.base _ _ (k.up u2)
      cases hr:bm P t with
      | true =>
        have hst:∃cs:Array Value,v=.agg cs:=by
          unfold bm at hr;split at hr
          · rename_i fs hu
            obtain⟨cs,hcs,_⟩:=Go.WideShapes.okWide_struct hu hv;exact⟨cs,hcs⟩
          · cases hr
        obtain⟨⟨cs⟩,rfl⟩:=hst
        exact⟨h2,μ2,.agg ⟨acs⟩::avs,p1.trans p2,u1.trans u2,R2,N2,zP.cons (.val _ _ (.agg _ _ vv)) v2,zP.cons ⟨acs,s1.imp fun _ _ k=>k.up p2,by simp⟩ s2⟩
      | false =>
        have h1c:=B9 hk hr hv;rw[h1c] at vv;have hal:acs.length=1:=vv.1
        match acs,hal with
        | [av],_ =>
          exact⟨h2,μ2,av::avs,p1.trans p2,u1.trans u2,R2,N2,zP.cons (.val _ _ (.one _ _ (vv.2 0 av v rfl rfl))) v2,zP.cons ⟨[av],s1.imp fun _ _ k=>k.up p2,by simp⟩ s2⟩
    · cases hp
theorem trodAll_below {W' : World} (hl : laidOutB P = true) : ∀ {ts : List TypeId} {vs : List Value} {ds : List (DataW H)} {pl : List MemPlace}, (ts.all fun t => P.readableRec t && decide (t < P.types.size)) = true → DataW.TrodAll enc P W 0 (fun _ => true) true ts vs ds pl →
    Below W.heap.size W W'→(∀x∈pl,x.block<W.heap.size)→DataW.TrodAll enc P W' 0 (fun b=>decide (b<W.heap.size)) true ts vs ds pl
  | [],vs,ds,pl,_,h,_,_=>by
    obtain⟨rfl,rfl,rfl⟩:=Go.ChangeShapes.trodAll_nil h;rfl
  | t::ts,vs,ds,pl,hr,h,hb,hlt=>by
    obtain⟨v,vs',d,ds',p,q,rfl,rfl,rfl,h1,h2⟩:=Go.ChangeShapes.trodAll_cons h;simp only[List.all_cons,Bool.and_eq_true,decide_eq_true_eq] at hr
    exact⟨p,q,Below.trod hl hr.1.1 hr.1.2 h1 hb (fun x hx=>hlt x (List.mem_append_left _ hx)),trodAll_below hl (by simpa using hr.2) h2 hb (fun x hx=>hlt x (List.mem_append_right _ hx)),rfl⟩
end
def noX:Zb:=fun _ _ _=>none
theorem law_calls {H : Type} {enc : TypeId × Value → H} {P : Program} {W : World} {f : FuncId} {ts : List TypeId} {ps : List (Bool × List CK)} {X : Zb} (sound : ∀ n, SoundC P W (call T X n)) (hp : paramsK P ts = some ps)
    (law:∀(h:za) (avs:List Value),zP (uE h) ps avs→C T X f avs h=some (.bool true,h))
    {base:Nat} {args:Array Value} {ds:List (DataW H)} {pl:List MemPlace} (ht:DataW.TrodAll enc P W 0 (fun _=>true) true ts args.toList ds pl)
    (hw:∀(j:Nat) (t:TypeId) (v:Value),ts[j]?=some t→args.toList[j]?=some v→Value.okWide P W .any base t v) :
    Calls P f args W fun e W'=>e=.returned (.bool true)∧Below W.heap.size W W':=by
  obtain⟨h,μ,avs,_,_,R,N,va,sa⟩:=G5 ts ps args.toList ds pl hp ht hw [] (fun _=>⟨0,0,0⟩) Zn.empty U9.empty
  obtain⟨n,hn⟩:=C2 T X (law h avs sa);obtain⟨_,hc⟩:=sound n f avs h _ _ hn
  have hG:Gd W μ h W:=⟨Nat.le_refl _,fun g _=>⟨rfl,fun⟨b,blk,hb,ho,_⟩=>by rw[N b blk hb] at ho;cases ho⟩⟩
  have:=hc μ W args.toList R hG va
  refine this.mono fun e W' hq=>?_
  obtain⟨v',μ',rfl,h1,h2,h3⟩:=hq
  refine⟨by rw[h1.bool],h3.frame.os,h3.frame.tape,h3.frame.output,h3.frame.size,fun k hk=>h3.frame.block k hk ?_⟩
  rintro⟨b,blk,hb,ho,_⟩;rw[N b blk hb] at ho;cases ho
end Go.Proofs.Ytafhipglhnfgnaa.Ab
/- Arguments taken apart: what a shown argument is, kind by kind. No conditions. -/
namespace Go.Proofs.Ytafhipglhnfgnaa.Ab
open Go.RowKit
theorem zP.nil_inv {α β:Type}{R:α→β→Prop}{ys:List β}(h:zP R [] ys):ys=[]:=by
  have:=h.1
  cases ys with
  | nil=>rfl
  | cons y ys=>simp at this
theorem zP.cons_inv {α β:Type}{R:α→β→Prop}{x:α}{xs:List α}{ys:List β}(h:zP R (x::xs) ys):∃y ys',ys=y::ys'∧R x y∧zP R xs ys':=by
  have:=h.1
  cases ys with
  | nil=>simp at this
  | cons y ys =>
    refine⟨y,ys,rfl,h.2 0 x y rfl rfl,by simpa using this,fun i a b ha hb=>h.2 (i+1) a b (by simpa using ha) (by simpa using hb)⟩
section
variable {h:za}{v:Value}
theorem zhV {n:Int}(hw:(Lit.int .i64 n).wf=true):I64 n:=by
  have h:IntKind.i64.min≤n∧n≤IntKind.i64.max:=by simpa[Lit.wf] using hw
  exact⟨h.1,h.2⟩
theorem qZ.int_inv (s:qZ h (.int .i64) v):∃n,v=.int .i64 n∧I64 n:=by
  cases s with
  | int k n hw=>exact⟨n,rfl,zhV hw⟩
theorem qZ.bool_inv (s:qZ h .bool v):∃b,v=.bool b:=by
  cases s with
  | bool b=>exact⟨b,rfl⟩
theorem qZ.str_inv (s:qZ h .str v):∃b,v=.string b∧b.size≤maxLen:=by
  cases s with
  | str b hs=>exact⟨b,rfl,hs⟩
theorem qZ.sl_inv {e:List CK}(s:qZ h (.sl e) v):∃rows,Rows h e.length v rows∧rows.length≤maxLen∧∀r∈rows,zP (qZ h) e r:=by
  cases s with
  | sl e v rows hr hm hk=>exact⟨rows,hr,hm,fun r hrm=>⟨(hr.len r hrm).symm,fun i k x h1 h2=>hk r hrm i k x h1 h2⟩⟩
theorem jY {α:Type}{f:α→List Value}{Q:α→Prop}:∀ {rows:List (List Value)},(∀r∈rows,∃a,r=f a∧Q a)→∃l:List α,rows=l.map f∧∀a∈l,Q a
  | [],_=>⟨[],rfl,fun _ h=>by cases h⟩
  | r::rows,hr=>by
    obtain⟨a,ha,qa⟩:=hr r List.mem_cons_self
    obtain⟨l,hl,ql⟩:=jY (fun r h=>hr r (List.mem_cons_of_mem _ h))
    exact⟨a::l,by simp[ha,hl],fun b hb=>by
      rcases List.mem_cons.1 hb with rfl | hb
      · exact qa
      · exact ql b hb⟩
theorem qZ.ints_inv (s:qZ h (.sl [.int .i64]) v):∃l:List Int,Rows h 1 v (zq l)∧l.length≤maxLen∧∀n∈l,I64 n:=by
  obtain⟨rows,hr,hm,hk⟩:=s.sl_inv
  obtain⟨l,rfl,hl⟩:=jY (f:=fun n:Int=>[Value.int .i64 n]) (Q:=I64) (rows:=rows) (fun r hrm=>by
    obtain⟨x,r',rfl,hx,h2⟩:=(hk r hrm).cons_inv;obtain rfl:=h2.nil_inv;obtain⟨n,rfl,hn⟩:=hx.int_inv
    exact⟨n,rfl,hn⟩)
  exact⟨l,hr,by simpa using hm,hl⟩
end
theorem uE.row {h:za}{ks:List CK}{v:Value}(a:uE h (true,ks) v):∃acs,zP (qZ h) ks acs∧v=.agg ⟨acs⟩:=by
  obtain⟨acs,h1,h2⟩:=a
  exact⟨acs,h1,by simpa using h2⟩
theorem uE.cell {h:za}{k:CK}{v:Value}(a:uE h (false,[k]) v):qZ h k v:=by
  obtain⟨acs,h1,h2⟩:=a;obtain⟨x,r,rfl,hx,h3⟩:=h1.cons_inv;obtain rfl:=h3.nil_inv
  obtain rfl:x=v:=by simpa using h2
  exact hx
theorem trodAll_len {H:Type}{enc:TypeId × Value→H}{P:Program}{W:World}{spare:Nat→Bool}{held:Bool}:∀ {ts:List TypeId} {vs:List Value} {ds:List (DataW H)} {pl:List MemPlace},DataW.TrodAll enc P W 0 spare held ts vs ds pl→ds.length=ts.length
  | [],vs,ds,pl,h=>by
    obtain⟨_,rfl,_⟩:=Go.ChangeShapes.trodAll_nil h;rfl
  | t::ts,vs,ds,pl,h=>by
    obtain⟨v,vs',d,ds',p,q,rfl,rfl,rfl,_,h2⟩:=Go.ChangeShapes.trodAll_cons h;simp[trodAll_len h2]
theorem len1 {α:Type}{l:List α}(h:l.length=1):∃a,l=[a]:=List.length_eq_one_iff.1 h
theorem zfY {α:Type}{l:List α}(h:l.length=2):∃a b,l=[a,b]:=by
  match l,h with
  | [a,b],_=>exact⟨a,b,rfl⟩
theorem zaK {α:Type}{l:List α}(h:l.length=3):∃a b c,l=[a,b,c]:=by
  match l,h with
  | [a,b,c],_=>exact⟨a,b,c,rfl⟩
theorem zfZ {α:Type}{l:List α}(h:l.length=4):∃a b c d,l=[a,b,c,d]:=by
  match l,h with
  | [a,b,c,d],_=>exact⟨a,b,c,d,rfl⟩
section
variable {h:za}{v:Value}
theorem qZ.edges_inv (s:qZ h (.sl [.int .i64,.int .i64,.int .i64,.int .i64,.int .i64]) v):∃l:List E,Rows h 5 v (ZF l)∧l.length≤maxLen∧∀e∈l,I64 e.a∧I64 e.b∧I64 e.w1∧I64 e.w2∧I64 e.w3:=by
  obtain⟨rows,hr,hm,hk⟩:=s.sl_inv
  obtain⟨l,rfl,hl⟩:=jY (f:=ZT) (Q:=fun e=>I64 e.a∧I64 e.b∧I64 e.w1∧I64 e.w2∧I64 e.w3) (rows:=rows) (fun r hrm=>by
    obtain⟨x,r',rfl,hx,h2⟩:=(hk r hrm).cons_inv;obtain⟨y,r',rfl,hy,h2⟩:=h2.cons_inv;obtain⟨z,r',rfl,hz,h2⟩:=h2.cons_inv;obtain⟨u,r',rfl,hu,h2⟩:=h2.cons_inv;obtain⟨w,r',rfl,hw,h2⟩:=h2.cons_inv;obtain rfl:=h2.nil_inv;obtain⟨a,rfl,ha⟩:=hx.int_inv;obtain⟨b,rfl,hb⟩:=hy.int_inv;obtain⟨c,rfl,hc⟩:=hz.int_inv;obtain⟨d,rfl,hd⟩:=hu.int_inv;obtain⟨e,rfl,he⟩:=hw.int_inv
    exact⟨⟨a,b,c,d,e⟩,rfl,ha,hb,hc,hd,he⟩)
  exact⟨l,hr,by simpa using hm,hl⟩
theorem uE.graph (a:uE h (true,[.int .i64,.sl [.int .i64,.int .i64,.int .i64,.int .i64,.int .i64]]) v):∃size ev es,v=zC size ev∧I64 size∧Rows h 5 ev (ZF es)∧es.length≤maxLen:=by
  obtain⟨acs,k,rfl⟩:=a.row;obtain⟨v0,r,rfl,k0,k⟩:=k.cons_inv;obtain⟨v1,r,rfl,k1,k⟩:=k.cons_inv;obtain rfl:=k.nil_inv;obtain⟨n,rfl,hn⟩:=k0.int_inv;obtain⟨es,he,hm,_⟩:=k1.edges_inv;exact⟨n,v1,es,rfl,hn,he,hm⟩
def zht (x:Aq):Prop:=I64 x.op∧I64 x.a∧I64 x.b∧I64 x.w1∧I64 x.w2∧I64 x.w3
theorem uE.ask (a:uE h (true,[.int .i64,.int .i64,.int .i64,.int .i64,.int .i64,.int .i64]) v):∃x:Aq,v=.agg ⟨aqR x⟩∧zht x:=by
  obtain⟨acs,k,rfl⟩:=a.row;obtain⟨v0,r,rfl,k0,k⟩:=k.cons_inv;obtain⟨v1,r,rfl,k1,k⟩:=k.cons_inv;obtain⟨v2,r,rfl,k2,k⟩:=k.cons_inv;obtain⟨v3,r,rfl,k3,k⟩:=k.cons_inv;obtain⟨v4,r,rfl,k4,k⟩:=k.cons_inv;obtain⟨v5,r,rfl,k5,k⟩:=k.cons_inv;obtain rfl:=k.nil_inv;obtain⟨n0,rfl,h0⟩:=k0.int_inv;obtain⟨n1,rfl,h1⟩:=k1.int_inv;obtain⟨n2,rfl,h2⟩:=k2.int_inv;obtain⟨n3,rfl,h3⟩:=k3.int_inv;obtain⟨n4,rfl,h4⟩:=k4.int_inv;obtain⟨n5,rfl,h5⟩:=k5.int_inv;exact⟨⟨n0,n1,n2,n3,n4,n5⟩,rfl,h0,h1,h2,h3,h4,h5⟩
end
section
variable {X:Zb}{h:za}{cv:Value}{l:List Int}
theorem zfX (hc:Rows h 1 cv (bys l)):C T X UR [cv] h=some (.bool (decide ((l.length:Int)>1048576)),h):=by
  refine qH cP rfl ?_;unfold UC
  have hln:lnV h cv=some (.int .i64 (l.length:Int)):=by rw[hc.ln,V3]
  simp only[hln,go_sem]
theorem qZ.bytes_inv {v:Value}(s:qZ h (.sl [.int .u8]) v):∃l:List Int,Rows h 1 v (bys l):=by
  obtain⟨rows,hr,hm,hk⟩:=s.sl_inv
  obtain⟨l,rfl,hl⟩:=jY (f:=fun n:Int=>[Value.int .u8 n]) (Q:=fun _=>True) (rows:=rows) (fun r hrm=>by
    obtain⟨x,r',rfl,hx,h2⟩:=(hk r hrm).cons_inv;obtain rfl:=h2.nil_inv
    cases hx with
    | int k n hw=>exact⟨n,rfl,trivial⟩)
  exact⟨l,hr⟩
theorem za5 {size:Int}{es:List E}{ys:List Int}{gs:List Gp}(p:ug size es ys gs):uG ys gs:=by
  have f:=xb p
  refine⟨by have:=f.yl;omega,by have:=f.gl;omega,fun g hg=>?_⟩
  obtain⟨i,hi,rfl⟩:=Zv (d:=g0) hg;have:=(f.g i hi).2;omega
theorem GM {va vb:Value}{a:List Int}(ra:Rows h 1 va (zq a))(rb:Rows h 1 vb (zq a))(hl:a.length≤lim):C T X QR [va,vb] h=some (.bool true,h):=by
  unfold lim at hl;refine qH Kx rfl ?_;unfold We;simp only[zI ra,zI rb,go_sem]
  refine zT a.length (fun i t loc h'=>h'=h∧t 0=va∧t 1=vb∧t 5=.int .i64 i) ⟨rfl,rfl,rfl,rfl⟩ ?_
  rintro i t loc h' hi ⟨rfl,t0,t1,t5⟩;simp only[t0,t5,zI ra,go_sem]
  refine zt (by simp only[go_sem];rfl) ?_ ?_<;>intro hc
  · have hi1:i<a.length:=by omega
    have hw:IntKind.i64.wrap ((i:Int)+1)=((i+1:Nat):Int):=w64 (by omega) (by omega)
    have ea:=ZU ra hi1;have eb:=ZU rb hi1;simp only[t0,t1,t5,ea.1,ea.2,eb.1,eb.2,hw,go_sem];exact hi1
  · simp only[go_sem]
end
theorem OG.same {h h':za}{lo lo' hi':Nat}{v:Value}{gs:List Gp}(o:OG h lo v gs)(a:Qq lo' hi' h h')(hd:hi'≤lo):OG h' lo v gs:=by
  obtain⟨vs,h1,h2⟩:=o
  exact⟨vs,by rw[a.len];exact h1.same a (.inr hd),fun i hi=>by rw[a.len];exact (h2 i hi).same a (.inr hd)⟩
theorem Rows.flatP {h h2:za}{sz:Nat}{v:Value}{rws:List (List Value)}(r:Rows h sz v rws)(hf:prim v=true):Rows h2 sz v rws:=by
  refine⟨r.len,?_⟩;rcases r.is with q | ⟨b,off,cap,blk,q,_⟩
  · exact .inl q
  · rw[q] at hf
    simp[prim] at hf
theorem qp.flatP {h h2:za}{v:Value}{gs:List Gp}(r:qp h v gs)(hf:prim v=true):qp h2 v gs:=by
  obtain⟨vs,r1,r2⟩:=r
  refine⟨vs,r1.flatP hf,fun i hi=>?_⟩
  exfalso;rcases r1.is with⟨_,q⟩ | ⟨b,off,cap,blk,q,_⟩
  · have:=congrArg List.length q
    rw[List.length_map,List.length_range] at this;simp only[List.length_nil] at this;omega
  · rw[q] at hf
    simp[prim] at hf
section
variable {X:Zb}{cv:Value}{l:List Int}
end
theorem OG.norm {h:za}{lo:Nat}{v:Value}{gs:List Gp}(o:OG h lo v gs):∃vs:List Value,vs.length=gs.length∧Own h lo h.length 2 zW v (qT vs gs)∧∀i,i<gs.length→Own h lo h.length 1 zf (vs.getD i zh) (zq (gs.getD i g0).ms):=by
  obtain⟨vs,h1,h2⟩:=o
  have e:∀i,i<gs.length→((List.range gs.length).map fun j=>vs.getD j zh).getD i zh=vs.getD i zh:=fun i hi=>by simp[List.getD,hi]
  refine⟨(List.range gs.length).map fun j=>vs.getD j zh,by simp,?_,fun i hi=>by rw[e i hi];exact h2 i hi⟩
  have:qT ((List.range gs.length).map fun j=>vs.getD j zh) gs=qT vs gs:=by
    unfold qT;apply List.map_congr_left
    intro i hi
    have hi':i<gs.length:=by simpa using hi
    unfold Km;rw[e i hi']
  rw[this];exact h1
theorem Fs {h h':za}{lo2 c:Nat}{w:Value}{rws rs:List (List Value)}(hb:h[c]?=some ⟨rws.flatten,2,zW,true⟩)(o:Own h lo2 h.length 1 zf w rs)(hl:h.length≤h'.length)(hk:∀b,b≠c→b<h.length→h'[b]?=h[b]?):Own h' lo2 h'.length 1 zf w rs:=by
  refine⟨o.len,?_⟩;rcases o.is with q | ⟨d,d1,d2,d3,d4⟩
  · exact .inl q
  · have hne:d≠c:=fun q=>by
      subst q;rw[hb] at d4;have:=congrArg Blk.sz (Option.some.inj d4);simp at this
    exact .inr ⟨d,d1,by omega,d3,by rw[hk d hne d2];exact d4⟩
theorem OG.push {h : za} {lo : Nat} {v w : Value} {gs : List Gp} {l : List Int} {z : Int} (o : OG h lo v gs) (hlo : lo ≤ h.length) (q : Own h lo h.length 1 zf w (zq l)) (hl : gs.length < lim) :
    ∃v' h',qS h 2 zW 1 v (some [w,.int .i64 z])=some (v',h')∧h.length≤h'.length∧(∀b,b<lo→h'[b]?=h[b]?)∧OG h' lo v' (gs++[⟨l,z⟩])∧cellsOf v'=some [v']:=by
  obtain⟨vs,hv,h1,h2⟩:=o.norm
  have hrl:(qT vs gs).length=gs.length:=by simp[qT]
  have fin:∀(v':Value) (h':za),h.length≤h'.length→Own h' lo h'.length 2 zW v' (qT vs gs++[[w,.int .i64 z]])→(∀i,i<gs.length→Own h' lo h'.length 1 zf (vs.getD i zh) (zq (gs.getD i g0).ms))→Own h' lo h'.length 1 zf w (zq l)→OG h' lo v' (gs++[⟨l,z⟩]):=by
    intro v' h' _ k1 k2 k3
    refine⟨vs++[w],by rw[Gn hv];exact k1,fun i hi=>?_⟩
    rw[List.length_append,List.length_singleton] at hi
    by_cases e:i=gs.length
    · subst e
      have e1:(vs++[w]).getD gs.length zh=w:=by rw[←hv];simp
      have e2:(gs++[(⟨l,z⟩:Gp)]).getD gs.length g0=⟨l,z⟩:=by simp
      rw[e1,e2];exact k3
    · have hi':i<gs.length:=by omega
      have e1:(vs++[w]).getD i zh=vs.getD i zh:=by simp[List.getElem?_append_left (show i<vs.length by omega)]
      have e2:(gs++[(⟨l,z⟩:Gp)]).getD i g0=gs.getD i g0:=by simp[List.getElem?_append_left hi']
      rw[e1,e2];exact k2 i hi'
  rcases h1.is with⟨rfl,hr⟩ | ⟨c,c1,c2,c3,c4⟩
  · have on:Own h h.length h.length 2 zW zh []:=Own.nil
    obtain⟨v',h',e1,e2,e3,e4⟩:=on.push1 (Nat.le_refl _) [w,.int .i64 z] rfl (by unfold lim;simp)
    rw[Nat.max_eq_right e2] at e4
    have pre:h <+: h':=QM e2 fun b hb=>e3 b (.inl hb)
    refine⟨v',h',e1,e2,fun b hb=>e3 b (.inl (by omega)),fin v' h' e2 ?_ (fun i hi=>((h2 i hi).up pre).wide (Nat.le_refl _) e2) ((q.up pre).wide (Nat.le_refl _) e2),e4.cells⟩
    rw[hr];exact e4.wide hlo (Nat.le_refl _)
  · have ot:Own h c (c+1) 2 zW v (qT vs gs):=⟨h1.len,.inr ⟨c,Nat.le_refl _,Nat.lt_succ_self _,c3,c4⟩⟩
    obtain⟨v',h',e1,e2,e3,e4⟩:=ot.push1 (by omega) [w,.int .i64 z] rfl (by rw[hrl];exact hl)
    have hk:∀b,b≠c→b<h.length→h'[b]?=h[b]?:=fun b hb hlt=>e3 b (by omega)
    refine⟨v',h',e1,e2,fun b hb=>hk b (by omega) (by omega),fin v' h' e2 (e4.wide c1 (by omega)) (fun i hi=>Fs c4 (h2 i hi) e2 hk) (Fs c4 q e2 hk),e4.cells⟩
theorem OG.stz {h:za}{lo:Nat}{v:Value}{gs:List Gp}(o:OG h lo v gs)(hg:0<gs.length)(z:Int):∃h',stC h (zz v 2 0 1) [.int .i64 z]=some h'∧Qq lo h.length h h'∧OG h' lo v (gs.set 0 ⟨(gs.getD 0 g0).ms,z⟩):=by
  obtain⟨vs,hv,h1,h2⟩:=o.norm
  have hrl:(qT vs gs).length=gs.length:=by simp[qT]
  rcases h1.is with⟨rfl,hr⟩ | ⟨c,c1,c2,c3,c4⟩
  · rw[hr] at hrl
    simp at hrl;omega
  · have ot:Own h c (c+1) 2 zW v (qT vs gs):=⟨h1.len,.inr ⟨c,Nat.le_refl _,Nat.lt_succ_self _,c3,c4⟩⟩
    obtain⟨h',e1,e2,e3⟩:=ot.st (i:=0) (by rw[hrl];exact hg) (k:=1) (vs:=[.int .i64 z]) (by simp)
    have hk:∀b,b≠c→b<h.length→h'[b]?=h[b]?:=fun b hb hlt=>e2.blk b (by omega)
    refine⟨h',e1,e2.wide c1 (by omega),vs,?_,fun i hi=>?_⟩
    · have e:(qT vs gs).set 0 (putAt ((qT vs gs)[0]'(by rw[hrl];exact hg)) 1 [.int .i64 z])=qT vs (gs.set 0 ⟨(gs.getD 0 g0).ms,z⟩):=by
        refine List.ext_getElem (by simp[qT]) fun i i1 i2=>?_
        rw[List.getElem_set];split
        · rename_i q
          subst q;simp[qT,Km,putAt,hg]
        · rename_i q
          simp only[qT,List.getElem_map,List.getElem_range,Km]
          have:(gs.set 0 ⟨(gs.getD 0 g0).ms,z⟩).getD i g0=gs.getD i g0:=by simp[List.getElem?_set_ne q]
          rw[this]
      rw[←e]
      exact e3.wide c1 (by rw[e2.len];omega)
    · rw[List.length_set] at hi
      have em:((gs.set 0 ⟨(gs.getD 0 g0).ms,z⟩).getD i g0).ms=(gs.getD i g0).ms:=by
        by_cases q:i=0
        · subst q;simp[hg]
        · simp[List.getElem?_set_ne (Ne.symm q)]
      rw[em]
      exact Fs c4 (h2 i hi) (by rw[e2.len];exact Nat.le_refl _) hk
theorem JL {h h':za}{v:Value}:∃hh,zp h (v,h')=(v,hh)∧(hh=h'∨(flat v=true∧hh=h)):=by
  unfold zp;split
  · rename_i q
    exact⟨h,rfl,.inr ⟨q.1,rfl⟩⟩
  · exact⟨h',rfl,.inl rfl⟩
section
variable {X:Zb}{B h:za}{b:Nat}{cv ev:Value}{l:List Int}{es:List E}{n:Nat}
theorem wZ {h h':za}{l:List Int}(e:h'=h++[⟨l.map fun x=>.int .i64 x,1,zf,true⟩]):Own h' h.length h'.length 1 zf (.slice (some ⟨h.length,0,none⟩) l.length l.length) (zq l):=by
  subst e
  have:=Own.made (h:=h) (sz:=1) (ty:=zf) (rws:=zq l) (by intro r hr;obtain⟨z,_,rfl⟩:=List.mem_map.1 hr;rfl)
  rw[JR,z9] at this;simpa using this
theorem dF (d:Dr B b cv l h):∃(L:List Int) (w:Value) (hh:za),C T X wk [pk b 0] h=some (w,hh)∧Dr B b cv l hh∧Fr' b h hh∧L.length≤5∧Own hh h.length hh.length 1 zf w (zq L):=by
  suffices hx:∃w hh,C T X wk [pk b 0] h=some (w,hh)∧∃L:List Int,Dr B b cv l hh∧Fr' b h hh∧L.length≤5∧Own hh h.length hh.length 1 zf w (zq L) by
    obtain⟨w,hh,c,L,r⟩:=hx;exact⟨L,w,hh,c,r⟩
  refine wU xQ rfl ?_;unfold vf;obtain⟨h1,e1⟩:∃h1:za,h1=h++[⟨[.int .i64 0,.int .i64 2,.int .i64 3],1,zf,true⟩]:=⟨_,rfl⟩;obtain⟨h2,e2⟩:∃h2:za,h2=h1++[⟨[.int .i64 0,.int .i64 1],1,zf,true⟩]:=⟨_,rfl⟩;obtain⟨h3,e3⟩:∃h3:za,h3=h2++[⟨[],1,zf,true⟩]:=⟨_,rfl⟩;obtain⟨h4,e4⟩:∃h4:za,h4=h3++[⟨[.int .i64 2,.int .i64 1,.int .i64 0],1,zf,true⟩]:=⟨_,rfl⟩;obtain⟨h5,e5⟩:∃h5:za,h5=h4++[⟨[.int .i64 0,.int .i64 1,.int .i64 2,.int .i64 3,.int .i64 4],1,zf,true⟩]:=⟨_,rfl⟩
  obtain⟨h6,e6⟩:∃h6:za,h6=h5++[⟨[.int .i64 1,.int .i64 2,.int .i64 9],1,zf,true⟩]:=⟨_,rfl⟩;obtain⟨vs,hvs⟩:∃vs:List Value,vs=[.slice (some ⟨h.length,0,none⟩) 3 3,.slice (some ⟨h1.length,0,none⟩) 2 2,.slice (some ⟨h2.length,0,none⟩) 0 0,.slice (some ⟨h3.length,0,none⟩) 3 3,.slice (some ⟨h4.length,0,none⟩) 5 5,.slice (some ⟨h5.length,0,none⟩) 3 3]:=⟨_,rfl⟩;obtain⟨h7,e7⟩:∃h7:za,h7=h6++[⟨vs,1,jl,true⟩]:=⟨_,rfl⟩
  have p1:h <+: h1:=by rw[e1];exact List.prefix_append _ _
  have p2:h1 <+: h2:=by rw[e2];exact List.prefix_append _ _
  have p3:h2 <+: h3:=by rw[e3];exact List.prefix_append _ _
  have p4:h3 <+: h4:=by rw[e4];exact List.prefix_append _ _
  have p5:h4 <+: h5:=by rw[e5];exact List.prefix_append _ _
  have p6:h5 <+: h6:=by rw[e6];exact List.prefix_append _ _
  have p7:h6 <+: h7:=by rw[e7];exact List.prefix_append _ _
  have o1:=wZ (l:=[0,2,3]) e1;have o2:=wZ (l:=[0,1]) e2;have o3:=wZ (l:=[]) e3;have o4:=wZ (l:=[2,1,0]) e4;have o5:=wZ (l:=[0,1,2,3,4]) e5;have o6:=wZ (l:=[1,2,9]) e6
  have ll:∀ {a c:za},a <+: c→a.length≤c.length:=fun p=>zy p
  have l1:=ll p1;have l2:=ll p2;have l3:=ll p3;have l4:=ll p4;have l5:=ll p5;have l6:=ll p6;have l7:=ll p7;have q6:=p7;have q5:=p6.trans q6;have q4:=p5.trans q5;have q3:=p4.trans q4;have q2:=p3.trans q3;have q1:=p2.trans q2;have bl:=d.lt;have d7:=d.up (p1.trans q1);obtain⟨x,h8,c8,d8,s8,x0,x1,_⟩:=ZB (X:=X) d7 6
  have x6:=x1 (by omega)
  have f8:Fr' b h h8:=(Fr'.pre (p1.trans q1)).trans (Fr'.same s8);have sl:=s8.len
  have up:∀ {lo hi:Nat} {v:Value} {rs:List (List Value)} {g:za},Own g lo hi 1 zf v rs→g <+: h7→hi≤h7.length→h.length≤lo→Own h8 h.length h8.length 1 zf v rs:=fun {lo hi v rs g} o p q1 q2=>((o.up p).same s8 (.inr (by omega))).wide q2 (by omega)
  have ro:Rows h8 1 (.slice (some ⟨h6.length,0,none⟩) 6 6) (vs.map fun v=>[v]):=by
    have o7:Own h7 h6.length h7.length 1 jl (.slice (some ⟨h6.length,0,none⟩) 6 6) (vs.map fun v=>[v]):=by
      rw[e7]
      have:=Own.made (h:=h6) (sz:=1) (ty:=jl) (rws:=vs.map fun v=>[v]) (by intro r hr;obtain⟨z,_,rfl⟩:=List.mem_map.1 hr;rfl)
      have e:(vs.map fun v=>[v]).flatten=vs:=by rw[hvs];rfl
      rw[e] at this;rw[hvs] at this ⊢;simpa using this
    exact (o7.same s8 (.inr (by omega))).rows
  have hvl:(vs.map fun v=>[v]).length=6:=by rw[hvs];rfl
  obtain⟨k,rfl⟩:=Int.eq_ofNat_of_zero_le x0
  have ia:=ro.ia (k:=.i64) (i:=(k:Int)) (by omega) (by rw[hvl];omega)
  have ld:=ro.ld (i:=k) (off:=0) (n:=1) (by rw[hvl];omega) (by omega)
  rw[Int.toNat_natCast] at ia;have ln1:(3:Nat)=3:=rfl
  have key:∃(w:Value) (L:List Int),ldC h8 (zz (.slice (some ⟨h6.length,0,none⟩) 6 6) 1 k 0) 1=some [w]∧L.length≤5∧Own h8 h.length h8.length 1 zf w (zq L)∧live w=true:=by
    have hk:k=0∨k=1∨k=2∨k=3∨k=4∨k=5:=by omega
    have get:∀(w:Value),vs[k]?=some w→ldC h8 (zz (.slice (some ⟨h6.length,0,none⟩) 6 6) 1 k 0) 1=some [w]:=fun w hw=>by
      rw[ld]
      have:(vs.map fun v=>[v])[k]'(by rw[hvl];omega)=[w]:=by
        rw[List.getElem_map];have:=List.getElem?_eq_some_iff.1 hw;rw[this.2]
      rw[this];rfl
    rcases hk with rfl | rfl | rfl | rfl | rfl | rfl
    · exact⟨_,[0,2,3],get _ (by rw[hvs];rfl),by simp,up o1 q1 (by omega) (by omega),rfl⟩
    · exact⟨_,[0,1],get _ (by rw[hvs];rfl),by simp,up o2 q2 (by omega) (by omega),rfl⟩
    · exact⟨_,[],get _ (by rw[hvs];rfl),by simp,up o3 q3 (by omega) (by omega),rfl⟩
    · exact⟨_,[2,1,0],get _ (by rw[hvs];rfl),by simp,up o4 q4 (by omega) (by omega),rfl⟩
    · exact⟨_,[0,1,2,3,4],get _ (by rw[hvs];rfl),by simp,up o5 q5 (by omega) (by omega),rfl⟩
    · exact⟨_,[1,2,9],get _ (by rw[hvs];rfl),by simp,up o6 q6 (by omega) (by omega),rfl⟩
  obtain⟨w,L,k1,k2,k3,k4⟩:=key;simp only[zj,zi,←e1,←e2,←e3,←e4,←e5,←e6,←hvs,←e7,c8,ia,k1,go_sem];obtain⟨hh,ef,hc⟩:=JL (h:=h) (h':=h8) (v:=w);refine⟨k4,?_⟩;rw[ef];rcases hc with rfl | ⟨hf,rfl⟩
  · exact⟨L,d8,f8,k2,k3⟩
  · have hp:prim w=true:=by
      rcases k3.is with⟨q,_⟩ | ⟨c,_,_,q,_⟩
      · rw[q];rfl
      · rw[q] at hf ⊢;exact hf
    exact⟨L,d,Fr'.refl,k2,k3.flatP hp⟩
end
structure Bts (s:ByteArray)(L:List Int):Prop where
  size:s.size=L.length
  at_:∀i,i<L.length→((byt s i:Nat):Int)=L.getD i 0
theorem zd2 {L:List Int}(h:∀x∈L,0≤x∧x<256):Bts (strOfNums L) L:=by
  refine⟨strOfNums_size _,fun i hi=>?_⟩
  unfold byt;rw[strOfNums_data];have hx:=h _ (zE (d:=0) hi)
  have e:(L.map fun n=>UInt8.ofNat n.toNat).getD i 0=UInt8.ofNat (L.getD i 0).toNat:=by simp[hi]
  rw[e]
  generalize L.getD i 0=x at hx
  have e2:(UInt8.ofNat x.toNat).toNat=x.toNat%256:=by simp
  rw[e2];omega
theorem de {l:List Int}:∀x∈Zx l,0≤x∧x<256:=by
  intro x hx;unfold Zx at hx;obtain⟨n,_,hn⟩:=List.mem_flatMap.1 hx;exact Bw _ _ (Nat.lt_succ_self _) x hn
section
variable {s:ByteArray}{L:List Int}
theorem Be (hB:Bts s L){a0:Nat}:∀(k r:Nat),r<k→∀(f:Nat) (pre suf:List Int) (n u:Nat),L=pre++(Z1 r++suf)→(r=0→pre.length=a0)→n+r*u≤1000000000→(Z1 r).length≤f→yo s a0 f pre.length n u=some (n+r*u,pre.length+(Z1 r).length)
  | 0,r,h,_,_,_,_,_,_,_,_,_=>by omega
  | k+1,r,hk,f,pre,suf,n,u,hL,h0,hn,hf=>by
    have hlen:L.length=pre.length+((Z1 r).length+suf.length):=by rw[hL];simp
    have hp:=Bv r
    have hi:pre.length<s.size:=by rw[hB.size];omega
    have hb:=hB.at_ pre.length (by omega)
    cases f with
    | zero=>omega
    | succ f =>
      by_cases hr:127<r
      · have hv:Z1 r=((r%128+128:Nat):Int)::Z1 (r / 128):=by rw[Z1];rw[if_pos hr]
        have hg:L.getD pre.length 0=((r%128+128:Nat):Int):=by
          rw[hL,hv];simp
        rw[hg] at hb
        have hb':byt s pre.length=r%128+128:=by omega
        rw[J9 hi (by omega),hb']
        have hmod:(r%128+128)%128=r%128:=by omega
        rw[hmod]
        have ih:=Be hB (a0:=a0) k (r / 128) (by omega) f (pre++[((r%128+128:Nat):Int)]) suf (n+r%128*u) (u*128) (by rw[hL,hv];simp) (fun h=>by omega) ?_ (by rw[hv] at hf;simp at hf;omega)
        · rw[List.length_append,List.length_singleton] at ih
          rw[ih,hv,List.length_cons]
          have e:n+r%128*u+r / 128*(u*128)=n+r*u:=by
            have:r*u=(r%128)*u+(r / 128)*(u*128):=by
              conv=>lhs;rw[←Nat.mod_add_div r 128,Nat.add_mul]
              congr 1
              rw[Nat.mul_comm 128 (r / 128),Nat.mul_assoc,Nat.mul_comm 128 u]
            omega
          rw[e]
          congr 2
          omega
        · have:r*u=(r%128)*u+(r / 128)*(u*128):=by
            conv=>lhs;rw[←Nat.mod_add_div r 128,Nat.add_mul]
            congr 1
            rw[Nat.mul_comm 128 (r / 128),Nat.mul_assoc,Nat.mul_comm 128 u]
          omega
      · have hv:Z1 r=[(r:Int)]:=by rw[Z1];rw[if_neg hr]
        have hg:L.getD pre.length 0=(r:Int):=by
          rw[hL,hv];simp
        rw[hg] at hb
        have hb':byt s pre.length=r:=by omega
        have hmod:r%128=r:=Nat.mod_eq_of_lt (by omega)
        have hno:¬((byt s pre.length=0∧a0<pre.length)∨1000000000<n+byt s pre.length%128*u):=by
          rw[hb',hmod];rintro (⟨q1,q2⟩ | q)
          · have:=h0 q1
            omega
          · omega
        rw[Jd hi (by omega) hno,hb',hmod,hv]
        rfl
theorem zbp (hB:Bts s L){r:Nat}(hr:r≤1000000000){pre suf:List Int}(hL:L=pre++(Z1 r++suf)):Ja s (pre.length:Int)=some (r,pre.length+(Z1 r).length):=by
  have hlen:L.length=pre.length+((Z1 r).length+suf.length):=by rw[hL];simp
  unfold Ja
  rw[if_pos ⟨by omega,by rw[hB.size];omega⟩,Int.toNat_natCast]
  unfold xf
  have:=Be hB (a0:=pre.length) (r+1) r (Nat.lt_succ_self _) 5 pre suf 0 1 hL (fun _=>rfl) (by omega) (Jp r hr)
  rw[this,Nat.mul_one,Nat.zero_add]
theorem CC (hB:Bts s L){n:Int}(hn:0≤n∧n≤1000000000){pre suf:List Int}(hL:L=pre++(Z1 n.toNat++suf)):ze s (pre.length,false)=(n,(pre.length+(Z1 n.toNat).length,false)):=by
  unfold ze;simp only
  rw[zbp hB (by omega) hL]
  simp only
  congr 1
  omega
theorem G4 (hB:Bts s L){ns:List Int}(hns:∀n∈ns,0≤n∧n≤1000000000){pre suf:List Int}(hL:L=pre++(Zx ns++suf)):∀i,i≤ns.length→sS s (pre.length,false) i=(pre.length+(Zx (ns.take i)).length,false)∧∀j,j<i→sV s (pre.length,false) j=ns.getD j 0
  | 0,_=>⟨by simp[sS,Zx],fun j hj=>by omega⟩
  | i+1,hi=>by
    obtain⟨ih1,ih2⟩:=G4 hB hns hL i (by omega)
    have hlt:i<ns.length:=by omega
    have hn:=hns _ (zE (d:=0) hlt);have e1:ns.take (i+1)=ns.take i++[ns.getD i 0]:=Vi hlt
    have hstep:ze s (pre.length+(Zx (ns.take i)).length,false)=(ns.getD i 0,(pre.length+(Zx (ns.take i)).length+(Z1 (ns.getD i 0).toNat).length,false)):=by
      have hL2:L=(pre++Zx (ns.take i))++(Z1 (ns.getD i 0).toNat++(Zx (ns.drop (i+1))++suf)):=by
        rw[hL]
        have:ns=ns.take i++(ns.getD i 0::ns.drop (i+1)):=by
          rw[List.getD_eq_getElem?_getD,List.getElem?_eq_getElem hlt,Option.getD_some,←List.drop_eq_getElem_cons hlt,List.take_append_drop]
        conv=>lhs;rw[this,Qb]
        simp[Zx]
      have:=CC hB hn hL2;rw[List.length_append] at this;exact this
    have hs1:sS s (pre.length,false) (i+1)=(ze s (sS s (pre.length,false) i)).2:=rfl;have hv:sV s (pre.length,false) i=(ze s (sS s (pre.length,false) i)).1:=rfl;rw[ih1,hstep] at hs1 hv;refine⟨?_,zM ih2 hv⟩;rw[hs1,e1,Qb,List.length_append];simp[Zx,Nat.add_assoc]
end
section
variable {α:Type}{s:ByteArray}{L:List Int}{step:Nat × Bool→α × (Nat × Bool)}{f:α→List Int}
def Fd (s:ByteArray)(L:List Int)(step:Nat × Bool→α × (Nat × Bool))(f:α→List Int)(x:α):Prop:=∀pre suf,L=pre++(Zx (f x)++suf)→step (pre.length,false)=(x,(pre.length+(Zx (f x)).length,false))
theorem Yn:∀(xs:List α) (pre suf:List Int),(∀x∈xs,Fd s L step f x)→L=pre++(Zx (xs.flatMap f)++suf)→rdN step xs.length (pre.length,false)=(xs,(pre.length+(Zx (xs.flatMap f)).length,false))
  | [],pre,suf,_,_=>rfl
  | x::xs,pre,suf,hx,hL=>by
    rw[List.flatMap_cons,Qb,List.append_assoc] at hL;have h1:=hx x List.mem_cons_self pre _ hL
    have h2:=Yn xs (pre++Zx (f x)) suf (fun y hy=>hx y (List.mem_cons_of_mem _ hy)) (by rw[hL,List.append_assoc])
    rw[List.length_append] at h2
    rw[List.length_cons,rdN,if_neg (by simp),h1,h2,List.flatMap_cons,Qb,List.length_append,Nat.add_assoc]
theorem dd {n:Int}:Zx [n]=Z1 n.toNat:=by simp[Zx]
theorem yB (hB:Bts s L){n:Int}(hn:0≤n∧n≤1000000000):Fd s L (ze s) (fun n=>[n]) n:=fun pre suf hL=>by
  rw[dd] at hL ⊢;exact CC hB hn hL
theorem zhE (hB:Bts s L){e:E}(h:∀n∈[e.a,e.b,e.w1,e.w2,e.w3],0≤n∧n≤1000000000):Fd s L (VI s) (fun e=>[e.a,e.b,e.w1,e.w2,e.w3]) e:=fun pre suf hL=>by
  obtain⟨h1,h2⟩:=G4 hB h hL 5 (Nat.le_refl _);unfold VI
  rw[h1,h2 0 (by omega),h2 1 (by omega),h2 2 (by omega),h2 3 (by omega),h2 4 (by omega)]
  rfl
theorem zhD (hB:Bts s L){c:Cp}(h:∀n∈[c.a,c.b],0≤n∧n≤1000000000):Fd s L (VG s) (fun c=>[c.a,c.b]) c:=fun pre suf hL=>by
  obtain⟨h1,h2⟩:=G4 hB h hL 2 (Nat.le_refl _);unfold VG
  rw[h1,h2 0 (by omega),h2 1 (by omega)]
  rfl
theorem zhF (hB:Bts s L){g:Gp}(h1:(g.ms.length:Int)≤1000000000)(h2:∀n∈g.ms,0≤n∧n≤1000000000)(h3:0≤g.z∧g.z≤1000000000):Fd s L (Zp Int.toNat s) (fun g=>(g.ms.length:Int)::(g.ms++[g.z])) g:=fun pre suf hL=>by
  have e:Zx ((g.ms.length:Int)::(g.ms++[g.z]))=Zx [(g.ms.length:Int)]++(Zx g.ms++Zx [g.z]):=by
    rw[←Qb,←Qb];rfl
  simp only[e] at hL ⊢
  have k1:=yB hB (n:=(g.ms.length:Int)) ⟨by omega,h1⟩ pre (Zx g.ms++(Zx [g.z]++suf)) (by rw[hL];simp only[List.append_assoc])
  have fl:g.ms.flatMap (fun n=>[n])=g.ms:=uX
  have k2:=Yn (s:=s) (L:=L) (step:=ze s) (f:=fun n=>[n]) g.ms (pre++Zx [(g.ms.length:Int)]) (Zx [g.z]++suf) (fun n hn=>yB hB (h2 n hn)) (by rw[fl,hL];simp only[List.append_assoc])
  rw[fl,List.length_append] at k2
  have k3:=yB hB h3 (pre++(Zx [(g.ms.length:Int)]++Zx g.ms)) suf (by rw[hL];simp only[List.append_assoc])
  rw[List.length_append,List.length_append] at k3;unfold Zp;rw[k1];simp only[Int.toNat_natCast,k2];rw[Nat.add_assoc,k3,List.length_append,List.length_append];simp only[Nat.add_assoc]
end
theorem dk {size:Int}{es:List E}{m:List Cp}{ys:List Int}{gs:List Gp}(c:ZG size es m ys gs):C3 (wV size es m ys gs)∧(rz (wV size es m ys gs)).1=size∧(re Int.toNat (wV size es m ys gs)).1=es∧(rm Int.toNat (wV size es m ys gs)).1=m∧(ry Int.toNat (wV size es m ys gs)).1=ys∧(rg Int.toNat (wV size es m ys gs)).1=gs:=by
  obtain⟨l1,l2,l3,l4,l5,l6⟩:=vZ c;have c0:=c;obtain⟨⟨⟨g,hy,_⟩,p1,p2,_⟩,mo,_⟩:=c0;have hsz:=g.1;have hE:=XY g
  have bE:∀e∈es,∀n∈[e.a,e.b,e.w1,e.w2,e.w3],0≤n∧n≤1000000000:=fun e he n hn=>by
    have:=hE e he;unfold EOk at this;simp only[List.mem_cons,List.not_mem_nil,or_false] at hn
    rcases hn with rfl | rfl | rfl | rfl | rfl<;>omega
  have bC:∀c∈m,∀n∈[c.a,c.b],0≤n∧n≤1000000000:=fun c hc n hn=>by
    have:=(Cz mo m.length (Nat.le_refl _)).2;rw[List.take_length] at this;have:=this n (List.mem_flatMap.2 ⟨c,hc,hn⟩);omega
  have bY:∀y∈ys,0≤y∧y≤1000000000:=fun y hy'=>by
    obtain⟨j,hj,rfl⟩:=Zv (d:=0) hy';exact p1 j hj
  have bG:∀x∈gs,(x.ms.length:Int)≤1000000000∧(∀n∈x.ms,0≤n∧n≤1000000000)∧0≤x.z∧x.z≤1000000000:=fun x hx=>by
    have h6:=l6 x hx;obtain⟨i,hi,rfl⟩:=Zv (d:=g0) hx;obtain⟨q1,q2⟩:=(p2 i hi).1
    refine⟨by omega,fun n hn=>?_,by omega⟩
    obtain⟨j,hj,rfl⟩:=Zv (d:=0) hn;have:=(q2 j hj).1;omega
  have bAll:∀x∈Uh size es m ys gs,0≤x∧x≤1000000000:=fun x hx=>by
    unfold Uh at hx;rcases List.mem_cons.1 hx with q | hx
    · omega
    rcases List.mem_cons.1 hx with q | hx
    · omega
    rcases List.mem_append.1 hx with hx | hx
    · obtain⟨e,he,hn⟩:=List.mem_flatMap.1 hx
      exact bE e he x hn
    rcases List.mem_cons.1 hx with q | hx
    · omega
    rcases List.mem_append.1 hx with hx | hx
    · obtain⟨e,he,hn⟩:=List.mem_flatMap.1 hx
      exact bC e he x hn
    rcases List.mem_append.1 hx with hx | hx
    · exact bY x hx
    rcases List.mem_cons.1 hx with q | hx
    · omega
    obtain⟨e,he,hn⟩:=List.mem_flatMap.1 hx;obtain⟨b1,b2,b3⟩:=bG e he;rcases List.mem_cons.1 hn with q | hn
    · omega
    rcases List.mem_append.1 hn with hn | hn
    · exact b2 x hn
    · rw[List.mem_singleton.1 hn];exact b3
  obtain⟨s,hs⟩:∃s,s=wV size es m ys gs:=⟨_,rfl⟩;obtain⟨L,hL⟩:∃L,L=Zx (Uh size es m ys gs):=⟨_,rfl⟩
  have hst:s=strOfNums L:=by rw[hs,hL];exact FS bAll
  have hB:Bts s L:=by rw[hst,hL];exact zd2 de
  rw[←hs];obtain⟨A1,hA1⟩:∃A,A=Zx [size]:=⟨_,rfl⟩;obtain⟨A2,hA2⟩:∃A,A=Zx [(es.length:Int)]:=⟨_,rfl⟩;obtain⟨A3,hA3⟩:∃A,A=Zx (VV es):=⟨_,rfl⟩;obtain⟨A4,hA4⟩:∃A,A=Zx [(m.length:Int)]:=⟨_,rfl⟩;obtain⟨A5,hA5⟩:∃A,A=Zx (VU m):=⟨_,rfl⟩;obtain⟨A6,hA6⟩:∃A,A=Zx ys:=⟨_,rfl⟩;obtain⟨A7,hA7⟩:∃A,A=Zx [(gs.length:Int)]:=⟨_,rfl⟩;obtain⟨A8,hA8⟩:∃A,A=Zx (vL gs):=⟨_,rfl⟩
  have hLs:L=A1++(A2++(A3++(A4++(A5++(A6++(A7++A8)))))):=by
    rw[hL,hA1,hA2,hA3,hA4,hA5,hA6,hA7,hA8];simp only[←Qb];rfl
  have fl:ys.flatMap (fun n=>[n])=ys:=uX
  have r1:rz s=(size,(A1.length,false)):=by
    have:=yB hB (n:=size) ⟨by omega,by omega⟩ [] (A2++(A3++(A4++(A5++(A6++(A7++A8)))))) (by rw[hLs,hA1];rfl)
    unfold rz;rw[hA1];simpa using this
  have r2:rne s=((es.length:Int),(A1.length+A2.length,false)):=by
    have:=yB hB (n:=(es.length:Int)) ⟨by omega,by omega⟩ A1 (A3++(A4++(A5++(A6++(A7++A8))))) (by rw[hLs,hA2])
    unfold rne;rw[r1,this,hA2]
  have r3:re Int.toNat s=(es,(A1.length+A2.length+A3.length,false)):=by
    have:=Yn (s:=s) (L:=L) (step:=VI s) (f:=fun e=>[e.a,e.b,e.w1,e.w2,e.w3]) es (A1++A2) (A4++(A5++(A6++(A7++A8)))) (fun e he=>zhE hB (bE e he)) (by rw[hLs,hA3];simp only[List.append_assoc];rfl)
    unfold re;rw[r2];simp only[Int.toNat_natCast];rw[List.length_append] at this;rw[this,hA3];rfl
  have r4:rnm Int.toNat s=((m.length:Int),(A1.length+A2.length+A3.length+A4.length,false)):=by
    have:=yB hB (n:=(m.length:Int)) ⟨by omega,by omega⟩ (A1++(A2++A3)) (A5++(A6++(A7++A8))) (by rw[hLs,hA4];simp only[List.append_assoc])
    unfold rnm;rw[r3];simp only[List.length_append,←Nat.add_assoc] at this;rw[this,hA4]
  have r5:rm Int.toNat s=(m,(A1.length+A2.length+A3.length+A4.length+A5.length,false)):=by
    have:=Yn (s:=s) (L:=L) (step:=VG s) (f:=fun c=>[c.a,c.b]) m (A1++(A2++(A3++A4))) (A6++(A7++A8)) (fun e he=>zhD hB (bC e he)) (by rw[hLs,hA5];simp only[List.append_assoc];rfl)
    unfold rm;rw[r4];simp only[Int.toNat_natCast];simp only[List.length_append,←Nat.add_assoc] at this;rw[this,hA5];rfl
  have r6:ry Int.toNat s=(ys,(A1.length+A2.length+A3.length+A4.length+A5.length+A6.length,false)):=by
    have:=Yn (s:=s) (L:=L) (step:=ze s) (f:=fun n=>[n]) ys (A1++(A2++(A3++(A4++A5)))) (A7++A8) (fun n hn=>yB hB (bY n hn)) (by rw[fl,hLs,hA6];simp only[List.append_assoc])
    unfold ry;rw[r1,r5];simp only;rw[fl] at this;simp only[List.length_append,←Nat.add_assoc] at this
    rw[show size.toNat=ys.length by omega,this,hA6]
  have r7:rgn Int.toNat s=((gs.length:Int),(A1.length+A2.length+A3.length+A4.length+A5.length+A6.length+A7.length,false)):=by
    have:=yB hB (n:=(gs.length:Int)) ⟨by omega,by omega⟩ (A1++(A2++(A3++(A4++(A5++A6))))) A8 (by rw[hLs,hA7];simp only[List.append_assoc])
    unfold rgn;rw[r6];simp only[List.length_append,←Nat.add_assoc] at this;rw[this,hA7]
  have r8:rg Int.toNat s=(gs,(A1.length+A2.length+A3.length+A4.length+A5.length+A6.length+A7.length+A8.length,false)):=by
    have:=Yn (s:=s) (L:=L) (step:=Zp Int.toNat s) (f:=fun g=>(g.ms.length:Int)::(g.ms++[g.z])) gs (A1++(A2++(A3++(A4++(A5++(A6++A7)))))) [] (fun x hx=>zhF hB (bG x hx).1 (bG x hx).2.1 (bG x hx).2.2) (by rw[hLs,hA8,List.append_nil];simp only[List.append_assoc];rfl)
    unfold rg;rw[r7];simp only[Int.toNat_natCast];simp only[List.length_append,←Nat.add_assoc] at this;rw[this,hA8];rfl
  rw[r1,r3,r5,r6,r8]
  refine⟨⟨by rw[r8],?_,by rw[r1,r3,r5,r6,r8];exact c⟩,rfl,rfl,rfl,rfl,rfl⟩
  rw[r8,hB.size,hLs];simp only[List.length_append,←Nat.add_assoc]
end Go.Proofs.Ytafhipglhnfgnaa.Ab
