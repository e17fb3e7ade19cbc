/- Joined. No conditions. -/
import Derived.Test.YtafhipglhnfgnaaM20
import Derived.Test.YtafhipglhnfgnaaM19
set_option linter.unusedSimpArgs false
set_option linter.unusedVariables false
set_option linter.unnecessarySimpa false
set_option maxHeartbeats 4000000
namespace Go.Proofs.Ytafhipglhnfgnaa.Ab
open Go.RowKit
theorem OG.up {h h':za}{lo:Nat}{v:Value}{gs:List Gp}(o:OG h lo v gs)(hp:h <+: h'):OG h' lo v gs:=by
  obtain⟨vs,h1,h2⟩:=o
  exact⟨vs,(h1.up hp).wide (Nat.le_refl _) (zy hp),fun i hi=>((h2 i hi).up hp).wide (Nat.le_refl _) (zy hp)⟩
section
variable {X:Zb}{B h:za}{b:Nat}{cv ev:Value}{l:List Int}{es:List E}{n:Nat}
set_option maxRecDepth 100000 in
theorem B0 (d:Dr B b cv l h)(he:Rows h 5 ev (ZF es))(g:GOk (n:Int) es):∃(ys:List Int) (gs:List Gp) (yv gv:Value) (hh:za),C T X QX [pk b 0,zC n ev] h=some (Zg yv gv,hh)∧Dr B b cv l hh∧Fr' b h hh∧Rows hh 1 yv (zq ys)∧qp hh gv gs∧uG ys gs:=by
  suffices hx:∃w hh,C T X QX [pk b 0,zC n ev] h=some (w,hh)∧∃(ys:List Int) (gs:List Gp) (yv gv:Value),w=Zg yv gv∧Dr B b cv l hh∧Fr' b h hh∧Rows hh 1 yv (zq ys)∧qp hh gv gs∧uG ys gs by
    obtain⟨w,hh,c,ys,gs,yv,gv,rfl,r⟩:=hx;exact⟨ys,gs,yv,gv,hh,c,r⟩
  refine wU KN rfl ?_;unfold Wu
  have hn:n≤9:=by have:=g.1;omega
  have hel:=Ye g
  obtain⟨h1,mv,yv,gv,m,ys,gs,c1,p1,⟨p,q,b1,b2,b3,oy,og,oc⟩,ct⟩:=Uo (X:=X) he g hn (by omega)
  have bd:=za5 ct.1;have bdy:=bd.1;have gsl:gs.length≤8:=ct.1.1.2.2;have bl:=d.lt;have d1:=d.up p1;have f1:Fr' b h h1:=Fr'.pre p1
  have fin : ∀ (ys' : List Int) (gs' : List Gp) (gv' : Value) (h' : za), Dr B b cv l h' → Fr' b h h' → Rows h' 1 yv (zq ys') → qp h' gv' gs' → uG ys' gs' →
      ∃(ys2:List Int) (gs2:List Gp) (yv2 gv2:Value),(zp h (.agg ⟨[yv,gv']⟩,h')).1=.agg ⟨[yv2,gv2]⟩∧Dr B b cv l (zp h (.agg ⟨[yv,gv']⟩,h')).2∧Fr' b h (zp h (.agg ⟨[yv,gv']⟩,h')).2∧Rows (zp h (.agg ⟨[yv,gv']⟩,h')).2 1 yv2 (zq ys2)∧qp (zp h (.agg ⟨[yv,gv']⟩,h')).2 gv2 gs2∧uG ys2 gs2:=by
    intro ys' gs' gv' h' a1 a2 a3 a4 a5;obtain⟨hh,e,hcs⟩:=JL (h:=h) (h':=h') (v:=.agg ⟨[yv,gv']⟩);rw[e];refine⟨ys',gs',yv,gv',rfl,?_⟩;rcases hcs with rfl | ⟨hf,rfl⟩
    · exact⟨a1,a2,a3,a4,a5⟩
    · have hf':prim yv=true∧prim gv'=true:=by simpa[flat,yD,prim] using hf
      exact⟨d,Fr'.refl,a3.flatP hf'.1,a4.flatP hf'.2,a5⟩
  have lny1:lnV h1 yv=some (.int .i64 (ys.length:Nat)):=by rw[oy.ln,z9]
  unfold zC Zg at *
  by_cases hy:ys.length=0
  · have hy':((ys.length:Nat):Int)=0:=by omega
    simp only[c1,lny1,hy',go_sem];exact fin ys gs gv h1 d1 f1 oy.rows og.rows bd
  have hy':¬((ys.length:Nat):Int)=0:=by omega
  obtain⟨k,h2,c2,d2,s2,k0,k1,_⟩:=ZB (X:=X) d1 (ys.length:Int)
  have hk:=k1 (by omega)
  obtain⟨k,rfl⟩:=Int.eq_ofNat_of_zero_le k0;obtain⟨j,h3,c3,d3,s3,j0,j1,_⟩:=ZB (X:=X) d2 10
  have oy3:=(oy.same s2 (.inr (by have:=zy p1;omega))).same s3 (.inr (by have:=zy p1;omega))
  have og3:=(og.same s2 (by have:=zy p1;omega)).same s3 (by have:=zy p1;omega)
  have f3:Fr' b h h3:=(f1.trans (Fr'.same s2)).trans (Fr'.same s3);have l2:=s2.len;have l3:=s3.len;have l1:=zy p1
  have lny3:lnV h3 yv=some (.int .i64 (ys.length:Nat)):=by rw[oy3.ln,z9]
  by_cases e0:j=0
  · obtain⟨h4,e4⟩:∃h4:za,h4=h3++[⟨[.int .i64 1,.int .i64 2,.int .i64 600,.int .i64 (-1)],1,zf,true⟩]:=⟨_,rfl⟩
    have p4:h3 <+: h4:=by rw[e4];exact List.prefix_append _ _
    have o4:=wZ (l:=[1,2,600,-1]) e4
    obtain⟨x,h5,c5,d5,s5,_⟩:=V7 (X:=X) (d3.up p4) o4 (by omega) (by simp) (by simp[lim])
    have c5':C T X Zc [pk b 0,.slice (some ⟨h3.length,0,none⟩) 4 4] h4=some (.int .i64 x,h5):=c5;have l4:=zy p4;have l5:=s5.len;have oy4:=oy3.up p4
    have oy5:=oy4.same s5 (.inr (by omega))
    have el3:=ZU oy3.rows (i:=k) (by omega)
    have el4:=ZU oy4.rows (i:=k) (by omega)
    have el5:=ZU oy5.rows (i:=k) (by omega)
    obtain⟨h6,e6,s6,o6⟩:=oy5.sti (i:=k) (by omega) (IntKind.i64.wrap (ys.getD k 0+x))
    have hk6:∀c,c<h.length→h6[c]?=h5[c]?:=fun c hc=>s6.blk c (.inl (by omega))
    have f5:Fr' b h h5:=(f3.trans (Fr'.pre p4)).trans (Fr'.same s5)
    have f6:=f5.push2 (by rw[s6.len];exact Nat.le_refl _) hk6
    have d6:=d.push2 d5 f6 hk6;simp only[c1,lny1,hy',c2,c3,e0,zj,zi,←e4,c5',el3.1,el3.2,el4.1,el4.2,el5.1,el5.2,e6,go_sem]
    exact fin (ys.set k (IntKind.i64.wrap (ys.getD k 0+x))) gs gv h6 d6 f6 o6.rows (((og3.up p4).same s5 (by omega)).same s6 (Nat.le_refl _)).rows ⟨by rw[List.length_set];exact bdy,bd.2.1,bd.2.2⟩
  by_cases e1:j=1
  · obtain⟨x,h4,c4,d4,s4,x0,x1,_⟩:=ZB (X:=X) d3 3
    have hx:=x1 (by omega)
    have w1:IntKind.i64.wrap (1+x)=1+x:=w64 (by omega) (by omega)
    obtain⟨h5,e5⟩:∃h5:za,h5=h4++[⟨[.int .i64 0,.int .i64 1,.int .i64 2],1,zf,true⟩]:=⟨_,rfl⟩
    have p5:h4 <+: h5:=by rw[e5];exact List.prefix_append _ _
    have o5:=wZ (l:=[0,1,2]) e5;have l4:=s4.len;have l5:=zy p5
    have oy5:=(oy3.same s4 (.inr (by omega))).up p5
    have og5:=(og3.same s4 (by omega)).up p5
    obtain⟨gv2,h6,e6,l6,k6,og6,cg⟩:=og5.push (z:=1+x) (by omega) (o5.wide (by omega) (Nat.le_refl _)) (by unfold lim;omega)
    have e6':qS h5 2 zW 1 gv (some [.slice (some ⟨h4.length,0,none⟩) 3 3,.int .i64 (1+x)])=some (gv2,h6):=e6;have f5:Fr' b h h5:=(f3.trans (Fr'.same s4)).trans (Fr'.pre p5)
    have hk6:∀c,c<h.length→h6[c]?=h5[c]?:=fun c hc=>k6 c (by omega)
    have f6:=f5.push2 l6 hk6;have d6:=d.push2 (d4.up p5) f6 hk6
    have oy6:Own h6 p q 1 zf yv (zq ys):=by
      refine⟨oy5.len,?_⟩;rcases oy5.is with r | ⟨c,r1,r2,r3,r4⟩
      · exact .inl r
      · exact .inr ⟨c,r1,r2,r3,by rw[k6 c (by omega)];exact r4⟩
    simp only[c1,lny1,hy',c2,c3,e1,c4,w1,zj,zi,←e5,e6',cg,go_sem]
    refine fin ys (gs++[⟨[0,1,2],1+x⟩]) gv2 h6 d6 f6 oy6.rows og6.rows ⟨bdy,by simp;omega,fun y hy=>?_⟩
    rcases List.mem_append.1 hy with r | r
    · exact bd.2.2 y r
    · rw[List.mem_singleton.1 r];simp
  by_cases e2:j=2
  · have lng:lnV h3 gv=some (.int .i64 (gs.length:Nat)):=og3.rows.ln
    by_cases hg:(gs.length:Int)>0
    · obtain⟨h4,e4⟩:∃h4:za,h4=h3++[⟨[.int .i64 1,.int .i64 (-1),.int .i64 1000000000],1,zf,true⟩]:=⟨_,rfl⟩
      have p4:h3 <+: h4:=by rw[e4];exact List.prefix_append _ _
      have o4:=wZ (l:=[1,-1,1000000000]) e4
      obtain⟨x,h5,c5,d5,s5,_⟩:=V7 (X:=X) (d3.up p4) o4 (by omega) (by simp) (by simp[lim])
      have c5':C T X Zc [pk b 0,.slice (some ⟨h3.length,0,none⟩) 3 3] h4=some (.int .i64 x,h5):=c5;have l4:=zy p4;have l5:=s5.len;have og4:=og3.up p4
      have og5:=og4.same s5 (by omega)
      obtain⟨_,a1,a2,_,_,a5,_⟩:=og3.rows.el (i:=0) (by omega)
      obtain⟨_,q1,q2,_,_,q5,_⟩:=og4.rows.el (i:=0) (by omega)
      obtain⟨_,r1,r2,_,_,r5,_⟩:=og5.rows.el (i:=0) (by omega)
      have z0:((0:Nat):Int)=0:=rfl;rw[z0] at a1 q1 r1;have a2:=a2 0 1;have q2:=q2 0 1;have r2:=r2 0 1;rw[Nat.zero_add] at a2 q2 r2
      obtain⟨h6,e6,s6,og6⟩:=og5.stz (by omega) (IntKind.i64.wrap ((gs.getD 0 g0).z+x))
      have hk6:∀c,c<h.length→h6[c]?=h5[c]?:=fun c hc=>s6.blk c (.inl (by omega))
      have f5:Fr' b h h5:=(f3.trans (Fr'.pre p4)).trans (Fr'.same s5)
      have f6:=f5.push2 (by rw[s6.len];exact Nat.le_refl _) hk6
      have d6:=d.push2 d5 f6 hk6
      have oy6:=((oy3.up p4).same s5 (.inr (by omega))).same s6 (.inl (Nat.le_refl _))
      simp only[c1,lny1,hy',c2,c3,e2,lng,hg,zj,zi,←e4,c5',a1,a2,a5,q1,q2,q5,r1,r2,r5,e6,go_sem]
      refine fin ys _ gv h6 d6 f6 oy6.rows og6.rows ⟨bdy,by rw[List.length_set];omega,fun y hy=>?_⟩
      rcases List.mem_or_eq_of_mem_set hy with r | r
      · exact bd.2.2 y r
      · rw[r];exact bd.2.2 (gs.getD 0 g0) (zE (d:=g0) (i:=0) (by omega))
    · simp only[c1,lny1,hy',c2,c3,e2,lng,hg,go_sem]
      exact fin ys gs gv h3 d3 f3 oy3.rows og3.rows bd
  by_cases e3:j=3
  · obtain⟨h4,e4⟩:∃h4:za,h4=h3++[⟨[],2,zW,true⟩]:=⟨_,rfl⟩
    have p4:h3 <+: h4:=by rw[e4];exact List.prefix_append _ _
    have rg:qp h4 (.slice (some ⟨h3.length,0,none⟩) 0 0) []:=by
      refine⟨[],?_,fun i hi=>(by simp at hi)⟩
      rw[e4];have:Own (h3++[⟨[],2,zW,true⟩]) h3.length (h3++[(⟨[],2,zW,true⟩:Blk)]).length 2 zW (.slice (some ⟨h3.length,0,none⟩) 0 0) []:=Acc.new.own;exact this.rows
    simp only[c1,lny1,hy',c2,c3,e3,zj,zi,←e4,go_sem]
    exact fin ys [] _ h4 (d3.up p4) (f3.trans (Fr'.pre p4)) (oy3.up p4).rows rg ⟨bdy,by simp,fun y hy=>absurd hy List.not_mem_nil⟩
  by_cases e4:j=4
  · simp only[c1,lny1,hy',c2,c3,e4,go_sem]
    refine zT ys.length (fun i t loc h'=>loc 4=some [.slice none 0 0,.slice none 0 0]∧loc 6=some [yv,gv]∧t 9=.int .i64 (i:Nat)∧Dr B b cv l h'∧Fr' b h h'∧∃zs:List Int,zs.length=ys.length∧Own h' p q 1 zf yv (zq zs)∧OG h' q gv gs) ⟨rfl,rfl,rfl,d3,f3,ys,rfl,oy3,og3⟩ ?_
    rintro i t loc h4 hi ⟨l4,l6,t9,d4,f4,zs,hzs,oy4,og4⟩
    have lny:lnV h4 yv=some (.int .i64 (zs.length:Nat)):=by rw[oy4.ln,z9]
    simp only[l6,t9,lny,hzs,go_sem]
    refine zt (by simp only[go_sem];rfl) ?_ ?_<;>intro hc
    · have hi1:i<ys.length:=by omega
      have hw:IntKind.i64.wrap ((i:Int)+1)=((i+1:Nat):Int):=w64 (by omega) (by omega)
      have el:=ZU oy4.rows (i:=i) (by omega)
      obtain⟨h5,e5,s5,o5⟩:=oy4.sti (i:=i) (by omega) 9000000
      have hk5:∀c,c<h.length→h5[c]?=h4[c]?:=fun c hc=>s5.blk c (.inl (by omega))
      have f5:=f4.push2 (by rw[s5.len];exact Nat.le_refl _) hk5
      simp only[l4,l6,t9,el.1,e5,hw,go_sem]
      exact⟨hi1,d.push2 d4 f5 hk5,f5,zs.set i 9000000,by rw[List.length_set];exact hzs,o5,og4.same s5 (Nat.le_refl _)⟩
    · simp only[l4,l6,go_sem]
      exact fin zs gs gv h4 d4 f4 oy4.rows og4.rows ⟨by omega,bd.2.1,bd.2.2⟩
  by_cases e5:j=5
  · obtain⟨L,w,h4,c4,d4,f4,hL,o4⟩:=dF (X:=X) d3
    have l4:=f4.len
    have oy4:=oy3.fr f4 (by omega) (by omega)
    have og4:OG h4 q gv gs:=by
      obtain⟨vs,g1,g2⟩:=og3
      exact⟨vs,(g1.fr f4 (by omega) (Nat.le_refl _)).wide (Nat.le_refl _) l4,fun i hi=>((g2 i hi).fr f4 (by omega) (Nat.le_refl _)).wide (Nat.le_refl _) l4⟩
    obtain⟨gv2,h6,e6,l6,k6,og6,cg⟩:=og4.push (z:=2) (by omega) (o4.wide (by omega) (Nat.le_refl _)) (by unfold lim;omega)
    have fq:Fr' b h h4:=f3.trans f4
    have hk6:∀c,c<h.length→h6[c]?=h4[c]?:=fun c hc=>k6 c (by omega)
    have f6:=fq.push2 l6 hk6;have d6:=d.push2 d4 f6 hk6
    have oy6:Own h6 p q 1 zf yv (zq ys):=by
      refine⟨oy4.len,?_⟩;rcases oy4.is with r | ⟨c,r1,r2,r3,r4⟩
      · exact .inl r
      · exact .inr ⟨c,r1,r2,r3,by rw[k6 c (by omega)];exact r4⟩
    have cw:=o4.cells;simp only[c1,lny1,hy',c2,c3,e5,c4,cw,zj,zi,e6,cg,go_sem]
    refine fin ys (gs++[⟨L,2⟩]) gv2 h6 d6 f6 oy6.rows og6.rows ⟨bdy,by simp;omega,fun y hy=>?_⟩
    rcases List.mem_append.1 hy with r | r
    · exact bd.2.2 y r
    · rw[List.mem_singleton.1 r];show L.length≤1048576;omega
  · simp only[c1,lny1,hy',c2,c3,e0,e1,e2,e3,e4,e5,go_sem]
    exact fin ys gs gv h3 d3 f3 oy3.rows og3.rows bd
structure C4 (hh:za)(n:Nat)(es:List E)(m:List Cp)(ys:List Int)(gs:List Gp)(ev mv yv gv:Value):Prop where
  g:GOk (n:Int) es
  re:Rows hh 5 ev (ZF es)
  rm:Rows hh 2 mv (cps m)
  ry:Rows hh 1 yv (zq ys)
  gr:qp hh gv gs
  ml:m.length≤9
  bd:uG ys gs
theorem X3 (d:Dr B b cv l h):∃(n:Nat) (es:List E) (m:List Cp) (ys:List Int) (gs:List Gp) (ev mv yv gv:Value) (hh:za),C T X QC [pk b 0] h=some (ui n ev mv yv gv,hh)∧Dr B b cv l hh∧Fr' b h hh∧C4 hh n es m ys gs ev mv yv gv:=by
  suffices hx:∃w hh,C T X QC [pk b 0] h=some (w,hh)∧∃(n:Nat) (es:List E) (m:List Cp) (ys:List Int) (gs:List Gp) (ev mv yv gv:Value),w=ui n ev mv yv gv∧Dr B b cv l hh∧Fr' b h hh∧C4 hh n es m ys gs ev mv yv gv by
    obtain⟨w,hh,c,n,es,m,ys,gs,ev,mv,yv,gv,rfl,r⟩:=hx;exact⟨n,es,m,ys,gs,ev,mv,yv,gv,hh,c,r⟩
  refine wU xR rfl ?_;unfold vh;have bl:=d.lt;obtain⟨n,es,ev,h2,c2,g,o,d2,f2⟩:=BV (X:=X) d
  have hn:n≤9:=by have:=g.1;omega
  have hel:=Ye g;have l2:=f2.len
  obtain⟨h3,mv,yv,gv,m,ys,gs,c3,p3,⟨p,q,b1,b2,b3,oy,og,oc⟩,ct⟩:=Uo (X:=X) o.rows g hn (by omega)
  have l3:=zy p3
  have hml:m.length≤9:=by have:=UQ ct.2.1;omega
  obtain⟨x,h4,c4,d4,s4⟩:=X1 (X:=X) (d2.up p3) 5;have l4:=s4.len
  have oe4:=(o.up p3).same s4 (.inr (by omega))
  have oc4:=oc.same s4 (.inr (by omega))
  have cm:=oc.cells
  have oy4:=oy.same s4 (.inr (by omega))
  have og4:=og.same s4 (by omega)
  have f4:Fr' b h h4:=(f2.trans (Fr'.pre p3)).trans (Fr'.same s4)
  have fin : ∀ (ys' : List Int) (gs' : List Gp) (yv' gv' : Value) (h' : za), Dr B b cv l h' → Fr' b h h' → C4 h' n es m ys' gs' ev mv yv' gv' →
      ∃(n2:Nat) (es2:List E) (m2:List Cp) (ys2:List Int) (gs2:List Gp) (ev2 mv2 yv2 gv2:Value),(zp h (.agg ⟨[.int .i64 (n:Nat),ev,mv,yv',gv']⟩,h')).1=.agg ⟨[.int .i64 (n2:Nat),ev2,mv2,yv2,gv2]⟩∧Dr B b cv l (zp h (.agg ⟨[.int .i64 (n:Nat),ev,mv,yv',gv']⟩,h')).2∧Fr' b h (zp h (.agg ⟨[.int .i64 (n:Nat),ev,mv,yv',gv']⟩,h')).2∧C4 (zp h (.agg ⟨[.int .i64 (n:Nat),ev,mv,yv',gv']⟩,h')).2 n2 es2 m2 ys2 gs2 ev2 mv2 yv2 gv2:=by
    intro ys' gs' yv' gv' h' a1 a2 a3;obtain⟨hh,e,hcs⟩:=JL (h:=h) (h':=h') (v:=.agg ⟨[.int .i64 (n:Nat),ev,mv,yv',gv']⟩);rw[e];refine⟨n,es,m,ys',gs',ev,mv,yv',gv',rfl,?_⟩;rcases hcs with rfl | ⟨hf,rfl⟩
    · exact⟨a1,a2,a3⟩
    · have hf':prim ev=true∧prim mv=true∧prim yv'=true∧prim gv'=true:=by simpa[flat,yD,prim] using hf
      exact⟨d,Fr'.refl,⟨a3.g,a3.re.flatP hf'.1,a3.rm.flatP hf'.2.1,a3.ry.flatP hf'.2.2.1,a3.gr.flatP hf'.2.2.2,a3.ml,a3.bd⟩⟩
  cases x with
  | false =>
    unfold zC Zg at *;unfold ui;simp only[c2,c3,c4,cm,go_sem];exact fin ys gs yv gv h4 d4 f4 ⟨g,oe4.rows,oc4.rows,oy4.rows,og4.rows,hml,za5 ct.1⟩
  | true =>
    obtain⟨ys2,gs2,yv2,gv2,h5,c5,d5,f5,r1,r2,r3⟩:=B0 (X:=X) d4 oe4.rows g;have l5:=f5.len
    have oe5:=oe4.fr f5 (by omega) (by omega)
    have oc5:=oc4.fr f5 (by omega) (by omega)
    unfold zC Zg at *;unfold ui;simp only[c2,c3,c4,c5,cm,go_sem];exact fin ys2 gs2 yv2 gv2 h5 d5 (f4.trans f5) ⟨g,oe5.rows,oc5.rows,r1,r2,hml,r3⟩
theorem Gw (hc:Rows h 1 cv (bys l))(hl:l.length≤1048576):∃(n:Nat) (es:List E) (m:List Cp) (ys:List Int) (gs:List Gp) (ev mv yv gv:Value) (hh:za),C T X qu [cv] h=some (ui n ev mv yv gv,hh)∧h <+: hh∧C4 hh n es m ys gs ev mv yv gv:=by
  suffices hx:∃w hh,C T X qu [cv] h=some (w,hh)∧∃(n:Nat) (es:List E) (m:List Cp) (ys:List Int) (gs:List Gp) (ev mv yv gv:Value),w=ui n ev mv yv gv∧h <+: hh∧C4 hh n es m ys gs ev mv yv gv by
    obtain⟨w,hh,c,n,es,m,ys,gs,ev,mv,yv,gv,rfl,r⟩:=hx;exact⟨n,es,m,ys,gs,ev,mv,yv,gv,hh,c,r⟩
  refine wU YD rfl ?_;unfold Qn;obtain⟨x0,c1⟩:=GJ (X:=X) hc hl;have d1:=BO hc hl (x:=x0);obtain⟨h1,hh1⟩:∃h1:za,h1=h++[WS cv 0 x0]:=⟨_,rfl⟩;rw[←hh1] at c1 d1;obtain⟨n,es,m,ys,gs,ev,mv,yv,gv,h2,c2,d2,f2,ct⟩:=X3 (X:=X) d1;unfold ui at *;simp only[c1,c2,go_sem];obtain⟨hh,e,pp,hcs⟩:=vl (v:=.agg ⟨[.int .i64 (n:Nat),ev,mv,yv,gv]⟩) d2.base;rw[e];refine⟨n,es,m,ys,gs,ev,mv,yv,gv,rfl,pp,?_⟩;rcases hcs with rfl | ⟨hf,rfl⟩
  · exact ct
  · have hf':prim ev=true∧prim mv=true∧prim yv=true∧prim gv=true:=by simpa[flat,yD,prim] using hf
    exact⟨ct.g,ct.re.flatP hf'.1,ct.rm.flatP hf'.2.1,ct.ry.flatP hf'.2.2.1,ct.gr.flatP hf'.2.2.2,ct.ml,ct.bd⟩
open Classical in
theorem Ga {es:List E}{m:List Cp}{ys:List Int}{gs:List Gp}:(if ZG (n:Int) es m ys gs then wV n es m ys gs else noT).size≤60000:=by
  split
  · rename_i c
    obtain⟨l1,l2,l3,l4,l5,l6⟩:=vZ c
    have hg:(vL gs).length≤102*gs.length:=by
      clear l5 c
      induction gs with
      | nil=>exact Nat.zero_le _
      | cons g gs ih =>
        have ih:=ih fun x hx=>l6 x (List.mem_cons_of_mem _ hx)
        have:=l6 g List.mem_cons_self;have e:vL (g::gs)=((g.ms.length:Int)::(g.ms++[g.z]))++vL gs:=rfl;rw[e,List.length_append,List.length_cons,List.length_append,List.length_cons,List.length_cons];simp only[List.length_nil];omega
    have:=y9 (s:=noT) (l:=Uh (n:Int) es m ys gs);unfold wV;have z:noT.size=0:=rfl
    have e:(Uh (n:Int) es m ys gs).length=2+(VV es).length+1+(VU m).length+ys.length+1+(vL gs).length:=by
      unfold Uh;simp only[List.length_cons,List.length_append];omega
    rw[Uu,Ut] at e;omega
  · have z:noT.size=0:=rfl
    omega
open Classical in
theorem Gz (hc:Rows h 1 cv (bys l))(hl:l.length≤1048576):∃(s:ByteArray) (hh:za),C T X qv [cv] h=some (.string s,hh)∧s.size≤1048576∧h <+: hh:=by
  suffices hx:∃w hh,C T X qv [cv] h=some (w,hh)∧(∃s:ByteArray,w=.string s∧s.size≤1048576)∧h <+: hh by
    obtain⟨w,hh,c,⟨s,rfl,hs⟩,r⟩:=hx;exact⟨s,hh,c,hs,r⟩
  refine wU YE rfl ?_;unfold Qo;obtain⟨x0,c1⟩:=GJ (X:=X) hc hl;have d1:=BO hc hl (x:=x0);obtain⟨h1,hh1⟩:∃h1:za,h1=h++[WS cv 0 x0]:=⟨_,rfl⟩;rw[←hh1] at c1 d1;obtain⟨n,es,m,ys,gs,ev,mv,yv,gv,h2,c2,d2,f2,ct⟩:=X3 (X:=X) d1;have hel:=Ye ct.g;have hng:=ct.g.1;have hml:=ct.ml
  have c3:=yh (X:=X) (size:=(n:Int)) ct.re ct.rm ct.ry ct.gr (by unfold lim;omega) (by omega) ct.bd
  have hsz:=Ga (n:=n) (es:=es) (m:=m) (ys:=ys) (gs:=gs);obtain⟨s,hs⟩:∃s,s=(if ZG (n:Int) es m ys gs then wV n es m ys gs else noT):=⟨_,rfl⟩;rw[←hs] at c3 hsz
  obtain⟨u,h4,c4,hu,d4,f4⟩:=bp (X:=X) d2 (s:=s) (by omega)
  simp only[c1,c2,c3,c4,go_sem];rw[zF rfl d4.base]
  exact⟨⟨u,rfl,by omega⟩,List.prefix_refl _⟩
theorem Kn (hc:Rows h 1 cv (bys l))(hl:l.length≤1048576):∃(s:ByteArray) (hh:za),C T X qd [cv] h=some (.string s,hh)∧s.size≤5000∧h <+: hh:=by
  suffices hx:∃w hh,C T X qd [cv] h=some (w,hh)∧(∃s:ByteArray,w=.string s∧s.size≤5000)∧h <+: hh by
    obtain⟨w,hh,c,⟨s,rfl,hs⟩,r⟩:=hx;exact⟨s,hh,c,hs,r⟩
  refine wU yV rfl ?_;unfold qY;obtain⟨x0,c1⟩:=GJ (X:=X) hc hl;have d1:=BO hc hl (x:=x0);obtain⟨h1,hh1⟩:∃h1:za,h1=h++[WS cv 0 x0]:=⟨_,rfl⟩;rw[←hh1] at c1 d1;have bl:=d1.lt;obtain⟨x,h2,c2,d2,s2,_⟩:=ZB (X:=X) d1 300;have l2:=s2.len;obtain⟨h3,e3⟩:∃h3:za,h3=h2++[⟨[.int .i64 0,.int .i64 1,.int .i64 39,.int .i64 40,.int .i64 41,.int .i64 80,.int .i64 81,.int .i64 200,.int .i64 x],1,zf,true⟩]:=⟨_,rfl⟩
  have p3:h2 <+: h3:=by rw[e3];exact List.prefix_append _ _
  have o3:=wZ (l:=[0,1,39,40,41,80,81,200,x]) e3
  obtain⟨y,h4,c4,d4,s4,_⟩:=V7 (X:=X) (d2.up p3) o3 (by omega) (by simp) (by simp[lim])
  have c4':C T X Zc [pk h.length 0,.slice (some ⟨h2.length,0,none⟩) 9 9] h3=some (.int .i64 y,h4):=c4;obtain⟨u,h5,c5,hu,d5,f5⟩:=JU (X:=X) d4 y;simp only[c1,c2,zj,zi,←e3,c4',c5,go_sem];rw[zF rfl d5.base];exact⟨⟨u,rfl,hu⟩,List.prefix_refl _⟩
end
section
variable {X:Zb}{h:za}{av bv mv nv yv zv gv hv:Value}{es:List E}{m:List Cp}{ys:List Int}{gs:List Gp}{n:Nat}
theorem zhL {e:E}:F0 [0,0,0,0,0] true (.agg ⟨[.int .i64 e.a,.int .i64 e.b,.int .i64 e.w1,.int .i64 e.w2,.int .i64 e.w3]⟩) (.agg ⟨[.int .i64 e.a,.int .i64 e.b,.int .i64 e.w1,.int .i64 e.w2,.int .i64 e.w3]⟩)=some (.bool false):=by simp[F0,Vw,Gf]
theorem zhK {c:Cp}:F0 [0,0] true (.agg ⟨[.int .i64 c.a,.int .i64 c.b]⟩) (.agg ⟨[.int .i64 c.a,.int .i64 c.b]⟩)=some (.bool false):=by simp[F0,Vw,Gf]
theorem bu (ra:Rows h 5 av (ZF es))(rb:Rows h 5 bv (ZF es))(hl:es.length≤lim):C T X wH [zC n av,zC n bv] h=some (.bool true,h):=by
  unfold lim at hl;refine qH km rfl ?_;unfold wr zC;simp only[ra.lnm,rb.lnm,go_sem]
  refine zT es.length (fun i t loc h'=>h'=h∧loc 2=some [.int .i64 (n:Nat),av]∧loc 3=some [.int .i64 (n:Nat),bv]∧t 5=.int .i64 (i:Nat)) ⟨rfl,rfl,rfl,rfl⟩ ?_
  rintro i t loc h' hi ⟨rfl,l2,l3,t5⟩;simp only[l2,t5,ra.lnm,go_sem]
  refine zt (by simp only[go_sem];rfl) ?_ ?_<;>intro hc
  · have hi1:i<es.length:=by omega
    have hw:IntKind.i64.wrap ((i:Int)+1)=((i+1:Nat):Int):=w64 (by omega) (by omega)
    have ea:=ZK ra hi1;have eb:=ZK rb hi1;simp only[l2,l3,t5,ea.1,ea.2.2.1,eb.1,eb.2.2.1,zhL,hw,go_sem];exact hi1
  · simp only[go_sem]
theorem Xt (ra:Rows h 2 mv (cps m))(rb:Rows h 2 nv (cps m))(hl:m.length≤lim):C T X QL [mv,nv] h=some (.bool true,h):=by
  unfold lim at hl;refine qH jb rfl ?_;unfold QI;simp only[ra.lnm,rb.lnm,go_sem]
  refine zT m.length (fun i t loc h'=>h'=h∧t 0=mv∧t 1=nv∧t 5=.int .i64 (i:Nat)) ⟨rfl,rfl,rfl,rfl⟩ ?_
  rintro i t loc h' hi ⟨rfl,t0,t1,t5⟩;simp only[t0,t5,ra.lnm,go_sem]
  refine zt (by simp only[go_sem];rfl) ?_ ?_<;>intro hc
  · have hi1:i<m.length:=by omega
    have hw:IntKind.i64.wrap ((i:Int)+1)=((i+1:Nat):Int):=w64 (by omega) (by omega)
    have ea:=YG ra hi1;have eb:=YG rb hi1;simp only[t0,t1,t5,ea.1,ea.2.2.1,eb.1,eb.2.2.1,zhK,hw,go_sem];exact hi1
  · simp only[go_sem]
theorem bw (ra:Rows h 1 yv (zq ys))(rb:Rows h 1 zv (zq ys))(ga:qp h gv gs)(gb:qp h hv gs)(bd:uG ys gs):C T X wI [Zg yv gv,Zg zv hv] h=some (.bool true,h):=by
  obtain⟨b1,b2,b3⟩:=bd
  have cs:=GM (X:=X) ra rb (by unfold lim;omega)
  refine qH kn rfl ?_;unfold wu Zg;simp only[cs,ga.ln,gb.ln,go_sem]
  refine zT gs.length (fun i t loc h'=>h'=h∧loc 2=some [yv,gv]∧loc 3=some [zv,hv]∧t 5=.int .i64 (i:Nat)) ⟨rfl,rfl,rfl,rfl⟩ ?_
  rintro i t loc h' hi ⟨rfl,l2,l3,t5⟩;simp only[l2,t5,ga.ln,go_sem]
  refine zt (by simp only[go_sem];rfl) ?_ ?_<;>intro hc
  · have hi1:i<gs.length:=by omega
    have hw:IntKind.i64.wrap ((i:Int)+1)=((i+1:Nat):Int):=w64 (by omega) (by omega)
    obtain⟨x,a1,a2,_,a4,a5,a6⟩:=ga.el hi1;obtain⟨y,c1,c2,_,c4,c5,c6⟩:=gb.el hi1;have a21:=a2 0 1;have c21:=c2 0 1;have a20:=a2 0 0;have c20:=c2 0 0;rw[Nat.zero_add] at a21 c21 a20 c20
    have cm:=GM (X:=X) a6 c6 (by have:=b3 _ (zE (d:=g0) hi1);unfold lim;omega)
    simp only[l2,l3,t5,a1,a21,a20,a4,a5,c1,c21,c20,c4,c5,cm,hw,go_sem];exact hi1
  · simp only[go_sem]
def Xp (l:List ByteArray):ByteArray:=l.foldl (·++·) noT
theorem y8 {l:List ByteArray}{s:ByteArray}:Xp (l++[s])=Xp l++s:=by unfold Xp;rw[List.foldl_append];rfl
theorem zac {s:ByteArray}{a:Nat}(h:a≤s.size):s.extract 0 a++s.extract a s.size=s:=by
  apply ByteArray.ext
  apply Array.toList_inj.1
  rw[ByteArray.data_append,Array.toList_append,ByteArray.data_extract,ByteArray.data_extract,Array.toList_extract,Array.toList_extract];rw[List.extract_eq_take_drop,List.extract_eq_take_drop,List.drop_zero,Nat.sub_zero];have e:s.data.toList.length=s.size:=Array.length_toList
  rw[List.take_of_length_le (l:=s.data.toList.drop a) (by rw[List.length_drop];omega)]
  exact List.take_append_drop a _
theorem C9 {a b c:ByteArray}:a++b++c=a++(b++c):=by
  apply ByteArray.ext
  simp[ByteArray.data_append,Array.append_assoc]
theorem zca {a:ByteArray}:a++noT=a:=by
  apply ByteArray.ext
  rw[ByteArray.data_append];have:noT.data=#[]:=rfl;rw[this,Array.append_empty]
theorem zcL {a:ByteArray}:noT++a=a:=by
  apply ByteArray.ext
  rw[ByteArray.data_append];have:noT.data=#[]:=rfl;rw[this,Array.empty_append]
def cZ (s:ByteArray)(L:List ByteArray):Prop:=Xp L=s∧L.length≤s.size∧∀i,i<L.length→1≤(L.getD i noT).size∧(L.getD i noT).size≤40∧(i+1<L.length→(L.getD i noT).size=40)
theorem JT {s:ByteArray}(hs:s.size≤1000000):∃v hh,C T X Qs [.string s] h=some (v,hh)∧h <+: hh∧∃L,cZ s L∧Rows hh 1 v (yi L):=by
  suffices hx:∃v hh,C T X Qs [.string s] h=some (v,hh)∧∃L,cZ s L∧(h <+: hh∧Own hh h.length hh.length 1 yZ v (yi L)) by
    obtain⟨v,hh,c,L,p,q,o⟩:=hx;exact⟨v,hh,c,q,L,p,o.rows⟩
  refine wU kj rfl ?_;unfold wn;simp only[go_sem]
  refine WI s.size (fun mm t loc h'=>h <+: h'∧∃(u:ByteArray) (L:List ByteArray) (v:Value),t 0=.string u∧t 3=v∧mm=u.size∧Xp L++u=s∧L.length+u.size≤s.size∧(∀i,i<L.length→(L.getD i noT).size=40)∧Own h' h.length h'.length 1 yZ v (yi L)) ⟨List.prefix_refl _,s,[],_,rfl,rfl,rfl,zcL,by simp,fun i hi=>(by simp at hi),Own.nil⟩ ?_
  rintro mm t loc h1 ⟨p1,u,L,v,t0,t3,rfl,hcat,hlen,hall,o⟩;have hl1:=zy p1;simp only[t0,t3,go_sem]
  refine zt (by simp only[go_sem];rfl) ?_ ?_<;>intro hc
  · have h40:40<u.size:=by omega
    have s1:=CQ (s:=u) (i:=40) (by omega)
    have s2:=Fu (s:=u) (i:=40) (by omega)
    have z40:((40:Nat):Int)=40:=rfl;rw[z40] at s1 s2
    obtain⟨v2,h2,c2,q1,q2,o2⟩:=o.push1 hl1 [.string (u.extract 0 40)] rfl (by simp[yi];unfold lim;omega)
    rw[Nat.max_eq_right q1] at o2;simp only[t0,t3,s1,s2,zj,zi,c2,go_sem]
    have e1:(u.extract 0 40).size=40:=by rw[ByteArray.size_extract];omega
    have e2:(u.extract 40 u.size).size=u.size-40:=by rw[ByteArray.size_extract];omega
    refine⟨_,by omega,QY p1 (Nat.le_refl _) q1 q2,_,L++[u.extract 0 40],v2,rfl,rfl,rfl,?_,?_,fun i hi=>?_,?_⟩
    · rw[y8,C9,zac (by omega)];exact hcat
    · rw[List.length_append,e2];simp only[List.length_cons,List.length_nil];omega
    · rw[List.length_append,List.length_singleton] at hi
      by_cases q:i<L.length
      · have:(L++[u.extract 0 40]).getD i noT=L.getD i noT:=by simp[List.getElem?_append_left q]
        rw[this];exact hall i q
      · have:i=L.length:=by omega
        subst this
        have:(L++[u.extract 0 40]).getD L.length noT=u.extract 0 40:=by simp
        rw[this];exact e1
    · rw[yi,List.map_append];exact o2
  · have h40:u.size≤40:=by omega
    by_cases hu:u=noT
    · subst hu
      rw[zca] at hcat;simp only[t0,t3,yU,decide_true,go_sem]
      refine⟨o.live,L,⟨hcat,by omega,fun i hi=>?_⟩,o.fin p1⟩
      have:=hall i hi;omega
    · have hpos:1≤u.size:=by
        rcases Nat.eq_zero_or_pos u.size with q | q
        · exact absurd (ByteArray.ext (Array.eq_empty_of_size_eq_zero q)) hu
        · exact q
      obtain⟨v2,h2,c2,q1,q2,o2⟩:=o.push1 hl1 [.string u] rfl (by simp[yi];unfold lim;omega)
      rw[Nat.max_eq_right q1] at o2
      have o3:Own h2 h.length h2.length 1 yZ v2 (yi (L++[u])):=by rw[yi,List.map_append];exact o2
      have p2:=QY p1 (Nat.le_refl _) q1 q2;simp only[t0,t3,yU,hu,zj,zi,c2,go_sem]
      refine⟨o3.live,L++[u],⟨by rw[y8];exact hcat,by simp;omega,fun i hi=>?_⟩,o3.fin p2⟩
      rw[List.length_append,List.length_singleton] at hi
      by_cases q:i<L.length
      · have e:(L++[u]).getD i noT=L.getD i noT:=by simp[List.getElem?_append_left q]
        rw[e];have:=hall i q;omega
      · have q':i=L.length:=by omega
        subst q'
        have e:(L++[u]).getD L.length noT=u:=by simp
        rw[e,List.length_append,List.length_singleton];omega
end
section
variable {X:Zb}{h:za}{b:Nat}{s:ByteArray}{p:Nat × Bool}
theorem Cj {h2:za}{ty:TypeId}{q:Nat × Bool}{v z:Value}{rws:List (List Value)}(hb:b<h.length)(a:Rdr b ty s h h2 q)(o:Own h2 h.length h2.length 1 zf v rws):∃hh,zp h (.agg ⟨[v,z]⟩,h2)=(.agg ⟨[v,z]⟩,hh)∧Rdr b ty s h hh q∧Own hh h.length hh.length 1 zf v rws:=by
  unfold zp;split
  · rename_i hc
    refine⟨h,rfl,⟨Nat.le_refl _,fun _ _ _=>rfl,?_,a.le⟩,?_⟩
    · rw[←ZE hc.2 hb]
      exact a.at_
    · have hf:=hc.1
      rcases o.is with⟨rfl,rfl⟩ | ⟨c,_,_,rfl,_⟩
      · exact Own.nil
      · simp[flat,prim] at hf
  · exact⟨h2,rfl,a,o⟩
theorem fY (hb : h[b]? = some (rdB zL s p)) (hs : s.size ≤ lim) (hp : p.1 ≤ s.size) :
    ∃v hh,C T X qt [pk b 0] h=some (.agg ⟨[v,.int .i64 (Zp Int.toNat s p).1.z]⟩,hh)∧Rdr b zL s h hh (Zp Int.toNat s p).2∧Own hh h.length hh.length 1 zf v (zq (Zp Int.toNat s p).1.ms):=by
  suffices hx:∃w hh,C T X qt [pk b 0] h=some (w,hh)∧∃v,w=.agg ⟨[v,.int .i64 (Zp Int.toNat s p).1.z]⟩∧Rdr b zL s h hh (Zp Int.toNat s p).2∧Own hh h.length hh.length 1 zf v (zq (Zp Int.toNat s p).1.ms) by
    obtain⟨w,hh,c,v,rfl,r⟩:=hx;exact⟨v,hh,c,r⟩
  refine wU YC rfl ?_;have hbl:=zG hb;have hr0:=Rdr.refl hb hp;have c0:=YO (X:=X) hr0 hs;have hr1:=hr0.nums 1;obtain⟨h1,hh1⟩:∃h1,h1=h.set b (rdB zL s (sS s p 1)):=⟨_,rfl⟩;rw[←hh1] at c0 hr1
  have hl1:h1.length=h.length:=by rw[hh1,Zz]
  unfold Qm;simp only[c0,go_sem];have hrg:=Yl hp
  obtain⟨N,hN⟩:∃N:Nat,(ze s p).1=N:=⟨(ze s p).1.toNat,by omega⟩
  have hN9:N≤1000000000:=by omega
  have hv0:sV s p 0=N:=hN;rw[hv0];have hq1:sS s p 1=(ze s p).2:=rfl
  refine WI N (fun m t loc h'=>m≤N∧t 0=pk b 0∧loc 2=some [zh,.int .i64 0]∧∃L q v,t 4=.int .i64 (m:Nat)∧loc 3=some [v,.int .i64 0]∧Rdr b zL s h h' q∧Own h' h.length h'.length 1 zf v (zq L)∧wO (ze s) N (ze s p).2 L m q)
    ⟨Nat.le_refl _,rfl,rfl,[],_,_,rfl,rfl,hr1,Own.nil,wO.start⟩ ?_
  rintro k t loc h' ⟨hkN,t0,l2,L,q,v,t4,l3,hr,o,hto⟩
  have hpk:∀j,faV h' (pk b 0) j=some (pk b j):=fun j=>wN hr.at_
  by_cases hk:(k:Int)>0
  · cases hq:q.2 with
    | false =>
      have cn:=YO (X:=X) hr hs;have hrn:=hr.nums 1;have o1:Own (h'.set b (rdB zL s (sS s q 1))) h.length h'.length 1 zf v (zq L):=o.num hbl;obtain⟨h2,hh2⟩:∃h2,h2=h'.set b (rdB zL s (sS s q 1)):=⟨_,rfl⟩;rw[←hh2] at cn hrn o1
      have hl2:h2.length=h'.length:=by rw[hh2,Zz]
      have hLN:=hto.len;rw[←hl2] at o1
      obtain⟨v3,h3,c3,q1,q2,o3⟩:=o1.push1 hrn.len [.int .i64 (sV s q 0)] rfl (by rw[z9];unfold lim;omega)
      have hw:IntKind.i64.wrap ((k:Int)-1)=((k-1:Nat):Int):=by
        rw[w64 (by omega) (by omega)]
        omega
      simp only[t0,l2,l3,t4,hk,hpk,Zq hr.at_,Zr hr.at_,hq,cn,zj,zi,c3,o3.cells,hw,go_sem]
      have hkk:k=(k-1)+1:=by omega
      rw[hkk] at hto
      refine⟨k-1,by omega,by omega,L++[sV s q 0],sS s q 1,v3,rfl,rfl,hrn.push hbl q1 (fun c hc=>q2 c (.inl hc)),?_,hto.next hq⟩
      rw[Nat.max_eq_right q1] at o3;simpa[zq] using o3
    | true =>
      have hd:=hto.done (.inr hq)
      have hg:Zp Int.toNat s p=(⟨L,sV s q 0⟩,sS s q 1):=by
        unfold Zp;rw[hN,Int.toNat_natCast,hd];rfl
      have cn:=YO (X:=X) hr hs;have hrn:=hr.nums 1;have o1:Own (h'.set b (rdB zL s (sS s q 1))) h.length h'.length 1 zf v (zq L):=o.num hbl;obtain⟨h2,hh2⟩:∃h2,h2=h'.set b (rdB zL s (sS s q 1)):=⟨_,rfl⟩;rw[←hh2] at cn hrn o1
      have hl2:h2.length=h'.length:=by rw[hh2,Zz]
      rw[←hl2] at o1;obtain⟨hf,e,f1,f2⟩:=Cj (z:=.int .i64 (sV s q 0)) hbl hrn o1;simp only[t0,l2,l3,t4,hk,hpk,Zq hr.at_,Zr hr.at_,hq,cn,go_sem];rw[e,hg];exact⟨v,rfl,f1,f2⟩
  · have hk0:k=0:=by omega
    have hd:=hto.done (.inl hk0);have hq:True:=trivial
    have hg:Zp Int.toNat s p=(⟨L,sV s q 0⟩,sS s q 1):=by
      unfold Zp;rw[hN,Int.toNat_natCast,hd];rfl
    have cn:=YO (X:=X) hr hs;have hrn:=hr.nums 1;have o1:Own (h'.set b (rdB zL s (sS s q 1))) h.length h'.length 1 zf v (zq L):=o.num hbl;obtain⟨h2,hh2⟩:∃h2,h2=h'.set b (rdB zL s (sS s q 1)):=⟨_,rfl⟩;rw[←hh2] at cn hrn o1
    have hl2:h2.length=h'.length:=by rw[hh2,Zz]
    rw[←hl2] at o1;obtain⟨hf,e,f1,f2⟩:=Cj (z:=.int .i64 (sV s q 0)) hbl hrn o1;simp only[t0,l2,l3,t4,hk,hpk,Zq hr.at_,Zr hr.at_,hq,cn,go_sem];rw[e,hg];exact⟨v,rfl,f1,f2⟩
theorem yg (hs2:s.size≤1048576):∃v hh,C T X QQ [.string s] h=some (v,hh)∧h <+: hh∧∃ew mw yw gw,v=.tuple ⟨[ui (rdI s).size ew mw yw gw,.bool (rdI s).ok]⟩∧∃i1 i2 i3 i4,(h.length≤i1∧i1≤i2∧i2≤i3∧i3≤i4∧i4≤hh.length)∧Own hh i1 i2 5 qD ew (ZF (rdI s).es)∧Own hh i2 i3 2 Zl mw (cps (rdI s).m)∧Own hh i3 i4 1 zf yw (zq (rdI s).ys)∧qK hh i4 hh.length zW gw (rdI s).gs:=by
  have hs:s.size≤lim:=by unfold lim;omega
  refine wU Kw rfl ?_;obtain⟨g,hg⟩:∃g:za,g=h++[rdB zL s (0,false)]:=⟨_,rfl⟩
  have hbw:bxW h zL 3 (.agg ⟨[.string s,.int .i64 0,.bool false]⟩)=some (pk h.length 0,g):=by rw[hg];rfl
  obtain⟨b,hb⟩:∃b,b=h.length:=⟨_,rfl⟩;rw[←hb] at hbw
  have hgb:g[b]?=some (rdB zL s (0,false)):=by rw[hg,hb];simp
  have hgl:g.length=b+1:=by rw[hg,hb];simp
  have hbl:b<g.length:=by omega
  have hpg:h <+: g:=by rw[hg];exact List.prefix_append _ _
  have r0:Rdr b zL s g g (0,false):=Rdr.refl hgb (Nat.zero_le _);have c1:=YO (X:=X) r0 hs;have c2:=J0 (X:=X) r0 hs 1;have r2:=r0.nums 2;obtain⟨g2,hg2⟩:∃g2,g2=g.set b (rdB zL s (sS s (0,false) 2)):=⟨_,rfl⟩;rw[←hg2] at c2 r2;have hz:sV s (0,false) 0=(rz s).1:=rfl;have hne:sV s (0,false) 1=(rne s).1:=rfl;have hq2:sS s (0,false) 2=(rne s).2:=rfl;rw[hz] at c1;rw[hne] at c2;rw[hq2] at r2;obtain⟨size,hsz⟩:∃z,z=(rz s).1:=⟨_,rfl⟩;rw[←hsz] at c1
  have hszr:0≤size∧size≤1000000000:=by rw[hsz];exact Yl (Nat.zero_le _)
  have hner:=Yl (s:=s) (q:=(rz s).2) (GX (Nat.zero_le _))
  rw[show ze s (rz s).2=rne s from rfl] at hner
  obtain⟨N,hN⟩:∃N:Nat,(rne s).1=N:=⟨(rne s).1.toNat,by omega⟩
  have hN9:N≤1000000000:=by omega
  rw[hN] at c2
  have hre:re Int.toNat s=rdN (VI s) N (rne s).2:=by unfold re;rw[hN,Int.toNat_natCast]
  unfold Wd;simp only[hbw,c1,c2,go_sem]
  refine VD 0 N (fun m t loc h'=>m≤N∧t 4=pk b 0∧loc 2=some [.int .i64 0,zh,zh,zh,zh]∧∃L q v,t 6=.int .i64 (m:Nat)∧loc 5=some [.int .i64 size,v,zh,zh,zh]∧Rdr b zL s g2 h' q∧Own h' g2.length h'.length 5 qD v (ZF L)∧wO (VI s) N (rne s).2 L m q)
    (fun t loc h'=>t 4=pk b 0∧loc 2=some [.int .i64 0,zh,zh,zh,zh]∧∃v,loc 5=some [.int .i64 size,v,zh,zh,zh]∧Rdr b zL s g2 h' (re Int.toNat s).2∧Own h' g2.length h'.length 5 qD v (ZF (re Int.toNat s).1))
    ⟨Nat.le_refl _,rfl,rfl,[],_,_,rfl,rfl,Rdr.refl r2.at_ r2.le,Own.nil,wO.start⟩ ?_ ?_
  · rintro k t loc h' ⟨hkN,t4,l2,L,q,v,t6,l5,hr,o,hto⟩
    have hpk:∀j,faV h' (pk b 0) j=some (pk b j):=fun j=>wN hr.at_
    by_cases hk:(k:Int)>0
    · cases hq:q.2 with
      | false =>
        have d0:=YO (X:=X) hr hs;have d1:=J0 (X:=X) hr hs 1;have d2:=J0 (X:=X) hr hs 2;have d3:=J0 (X:=X) hr hs 3;have d4:=J0 (X:=X) hr hs 4;have hrn:=hr.nums 5;have hb2:b<g2.length:=zG r2.at_;have o1:Own (h'.set b (rdB zL s (sS s q 5))) g2.length h'.length 5 qD v (ZF L):=o.num hb2;obtain⟨h2,hh2⟩:∃h2,h2=h'.set b (rdB zL s (sS s q 5)):=⟨_,rfl⟩;rw[←hh2] at d4 hrn o1
        have hl2:h2.length=h'.length:=by rw[hh2,Zz]
        have hLN:=hto.len;rw[←hl2] at o1
        obtain⟨v3,h3,c3,q1,q2,o3⟩:=o1.push1 hrn.len (ZT (VI s q).1) rfl (by rw[List.length_map];unfold lim;omega)
        have hw:IntKind.i64.wrap ((k:Int)-1)=((k-1:Nat):Int):=by
          rw[w64 (by omega) (by omega)]
          omega
        unfold ZT VI at c3;simp only[t4,l2,l5,t6,hk,hpk,Zq hr.at_,Zr hr.at_,hq,d0,d1,d2,d3,d4,zj,zi,c3,o3.cells,hw,go_sem]
        have hkk:k=(k-1)+1:=by omega
        rw[hkk] at hto
        refine⟨k-1,by omega,by omega,L++[(VI s q).1],sS s q 5,v3,rfl,rfl,hrn.push hb2 q1 (fun c hc=>q2 c (.inl hc)),?_,hto.next hq⟩
        rw[Nat.max_eq_right q1] at o3;simpa using o3
      | true =>
        have hd:=hto.done (.inr hq);simp only[t4,l2,l5,t6,hk,hpk,Zq hr.at_,Zr hr.at_,hq,go_sem];rw[hre,hd];exact⟨v,rfl,hr,o⟩
    · have hd:=hto.done (.inl (by omega))
      simp only[t4,l2,l5,t6,hk,hpk,go_sem];rw[hre,hd];exact⟨v,rfl,hr,o⟩
  rintro t loc g3 ⟨t4,l2,ev,l5,r3,oe⟩;have hb3:b<g3.length:=zG r3.at_;have n1:=YO (X:=X) r3 hs
  rw[show sV s (re Int.toNat s).2 0=(rnm Int.toNat s).1 from rfl] at n1
  have r4':=r3.nums 1;obtain⟨g4,hg4⟩:∃g4,g4=g3.set b (rdB zL s (sS s (re Int.toNat s).2 1)):=⟨_,rfl⟩
  have oe4:Own g4 g2.length g3.length 5 qD ev (ZF (re Int.toNat s).1):=by rw[hg4];exact oe.num (zG r2.at_)
  rw[←hg4] at n1 r4'
  have hl4:g4.length=g3.length:=by rw[hg4,Zz]
  rw[show sS s (re Int.toNat s).2 1=(rnm Int.toNat s).2 from rfl] at r4'
  have r4:Rdr b zL s g4 g4 (rnm Int.toNat s).2:=Rdr.refl r4'.at_ r4'.le;have hmr:=Yl (s:=s) (q:=(re Int.toNat s).2) r3.le
  rw[show ze s (re Int.toNat s).2=rnm Int.toNat s from rfl] at hmr
  obtain⟨M,hM⟩:∃M:Nat,(rnm Int.toNat s).1=M:=⟨(rnm Int.toNat s).1.toNat,by omega⟩
  have hM9:M≤1000000000:=by omega
  rw[hM] at n1
  have hrm:rm Int.toNat s=rdN (VG s) M (rnm Int.toNat s).2:=by unfold rm;rw[hM,Int.toNat_natCast]
  simp only[t4,l2,l5,n1,go_sem]
  have hb4:b<g4.length:=by omega
  refine VD 2 M (fun m t loc h'=>m≤M∧t 4=pk b 0∧loc 2=some [.int .i64 0,zh,zh,zh,zh]∧∃L q v,t 6=.int .i64 (m:Nat)∧loc 5=some [.int .i64 size,ev,v,zh,zh]∧Rdr b zL s g4 h' q∧Own h' g4.length h'.length 2 Zl v (cps L)∧wO (VG s) M (rnm Int.toNat s).2 L m q)
    (fun t loc h'=>t 4=pk b 0∧loc 2=some [.int .i64 0,zh,zh,zh,zh]∧∃v,loc 5=some [.int .i64 size,ev,v,zh,zh]∧Rdr b zL s g4 h' (rm Int.toNat s).2∧Own h' g4.length h'.length 2 Zl v (cps (rm Int.toNat s).1))
    ⟨Nat.le_refl _,rfl,rfl,[],_,_,rfl,rfl,r4,Own.nil,wO.start⟩ ?_ ?_
  · rintro k t loc h' ⟨hkN,t4,l2,L,q,v,t6,l5,hr,o,hto⟩
    have hpk:∀j,faV h' (pk b 0) j=some (pk b j):=fun j=>wN hr.at_
    by_cases hk:(k:Int)>0
    · cases hq:q.2 with
      | false =>
        have d0:=YO (X:=X) hr hs;have d1:=J0 (X:=X) hr hs 1;have hrn:=hr.nums 2;have o1:Own (h'.set b (rdB zL s (sS s q 2))) g4.length h'.length 2 Zl v (cps L):=o.num hb4;obtain⟨h2,hh2⟩:∃h2,h2=h'.set b (rdB zL s (sS s q 2)):=⟨_,rfl⟩;rw[←hh2] at d1 hrn o1
        have hl2:h2.length=h'.length:=by rw[hh2,Zz]
        have hLN:=hto.len;rw[←hl2] at o1
        obtain⟨v3,h3,c3,q1,q2,o3⟩:=o1.push1 hrn.len (cpR (VG s q).1) rfl (by rw[List.length_map];unfold lim;omega)
        have hw:IntKind.i64.wrap ((k:Int)-1)=((k-1:Nat):Int):=by
          rw[w64 (by omega) (by omega)]
          omega
        unfold cpR VG at c3;simp only[t4,l2,l5,t6,hk,hpk,Zq hr.at_,Zr hr.at_,hq,d0,d1,zj,zi,c3,o3.cells,hw,go_sem]
        have hkk:k=(k-1)+1:=by omega
        rw[hkk] at hto
        refine⟨k-1,by omega,by omega,L++[(VG s q).1],sS s q 2,v3,rfl,rfl,hrn.push hb4 q1 (fun c hc=>q2 c (.inl hc)),?_,hto.next hq⟩
        rw[Nat.max_eq_right q1] at o3;simpa using o3
      | true =>
        have hd:=hto.done (.inr hq);simp only[t4,l2,l5,t6,hk,hpk,Zq hr.at_,Zr hr.at_,hq,go_sem];rw[hrm,hd];exact⟨v,rfl,hr,o⟩
    · have hd:=hto.done (.inl (by omega))
      simp only[t4,l2,l5,t6,hk,hpk,go_sem];rw[hrm,hd];exact⟨v,rfl,hr,o⟩
  rintro t loc g5 ⟨t4,l2,mv,l5,r5,om⟩;have hb5:b<g5.length:=zG r5.at_;have r5s:Rdr b zL s g5 g5 (rm Int.toNat s).2:=Rdr.refl r5.at_ r5.le
  obtain⟨Y,hY⟩:∃Y:Nat,size=Y:=⟨size.toNat,by omega⟩
  have hY9:Y≤1000000000:=by omega
  have hry:ry Int.toNat s=rdN (ze s) Y (rm Int.toNat s).2:=by unfold ry;rw[←hsz,hY,Int.toNat_natCast]
  simp only[t4,l2,l5,hY,go_sem]
  refine VD 4 Y (fun m t loc h'=>m≤Y∧t 4=pk b 0∧loc 2=some [.int .i64 0,zh,zh,zh,zh]∧∃L q v,t 9=.int .i64 (m:Nat)∧loc 5=some [.int .i64 Y,ev,mv,v,zh]∧Rdr b zL s g5 h' q∧Own h' g5.length h'.length 1 zf v (zq L)∧wO (ze s) Y (rm Int.toNat s).2 L m q)
    (fun t loc h'=>t 4=pk b 0∧loc 2=some [.int .i64 0,zh,zh,zh,zh]∧∃v,loc 5=some [.int .i64 Y,ev,mv,v,zh]∧Rdr b zL s g5 h' (ry Int.toNat s).2∧Own h' g5.length h'.length 1 zf v (zq (ry Int.toNat s).1))
    ⟨Nat.le_refl _,rfl,rfl,[],_,_,rfl,rfl,r5s,Own.nil,wO.start⟩ ?_ ?_
  · rintro k t loc h' ⟨hkN,t4,l2,L,q,v,t9,l5,hr,o,hto⟩
    have hpk:∀j,faV h' (pk b 0) j=some (pk b j):=fun j=>wN hr.at_
    by_cases hk:(k:Int)>0
    · cases hq:q.2 with
      | false =>
        have d0:=YO (X:=X) hr hs;have hrn:=hr.nums 1;have o1:Own (h'.set b (rdB zL s (sS s q 1))) g5.length h'.length 1 zf v (zq L):=o.num hb5;obtain⟨h2,hh2⟩:∃h2,h2=h'.set b (rdB zL s (sS s q 1)):=⟨_,rfl⟩;rw[←hh2] at d0 hrn o1
        have hl2:h2.length=h'.length:=by rw[hh2,Zz]
        have hLN:=hto.len;rw[←hl2] at o1
        obtain⟨v3,h3,c3,q1,q2,o3⟩:=o1.push1 hrn.len [.int .i64 (sV s q 0)] rfl (by rw[z9];unfold lim;omega)
        have hw:IntKind.i64.wrap ((k:Int)-1)=((k-1:Nat):Int):=by
          rw[w64 (by omega) (by omega)]
          omega
        simp only[t4,l2,l5,t9,hk,hpk,Zq hr.at_,Zr hr.at_,hq,d0,zj,zi,c3,o3.cells,hw,go_sem]
        have hkk:k=(k-1)+1:=by omega
        rw[hkk] at hto
        refine⟨k-1,by omega,by omega,L++[sV s q 0],sS s q 1,v3,rfl,rfl,hrn.push hb5 q1 (fun c hc=>q2 c (.inl hc)),?_,hto.next hq⟩
        rw[Nat.max_eq_right q1] at o3;simpa[zq] using o3
      | true =>
        have hd:=hto.done (.inr hq);simp only[t4,l2,l5,t9,hk,hpk,Zq hr.at_,Zr hr.at_,hq,go_sem];rw[hry,hd];exact⟨v,rfl,hr,o⟩
    · have hd:=hto.done (.inl (by omega))
      simp only[t4,l2,l5,t9,hk,hpk,go_sem];rw[hry,hd];exact⟨v,rfl,hr,o⟩
  rintro t loc g6 ⟨t4,l2,yv,l5,r6,oy⟩;have hb6:b<g6.length:=zG r6.at_;have n2:=YO (X:=X) r6 hs
  rw[show sV s (ry Int.toNat s).2 0=(rgn Int.toNat s).1 from rfl] at n2
  have r7':=r6.nums 1;obtain⟨g7,hg7⟩:∃g7,g7=g6.set b (rdB zL s (sS s (ry Int.toNat s).2 1)):=⟨_,rfl⟩
  have oy7:Own g7 g5.length g6.length 1 zf yv (zq (ry Int.toNat s).1):=by rw[hg7];exact oy.num hb5
  rw[←hg7] at n2 r7'
  have hl7:g7.length=g6.length:=by rw[hg7,Zz]
  have hb7:b<g7.length:=by omega
  rw[show sS s (ry Int.toNat s).2 1=(rgn Int.toNat s).2 from rfl] at r7'
  have r7:Rdr b zL s g7 g7 (rgn Int.toNat s).2:=Rdr.refl r7'.at_ r7'.le;have hgr:=Yl (s:=s) (q:=(ry Int.toNat s).2) r6.le
  rw[show ze s (ry Int.toNat s).2=rgn Int.toNat s from rfl] at hgr
  obtain⟨G,hG⟩:∃G:Nat,(rgn Int.toNat s).1=G:=⟨(rgn Int.toNat s).1.toNat,by omega⟩
  have hG9:G≤1000000000:=by omega
  rw[hG] at n2
  have hrgs:rg Int.toNat s=rdN (Zp Int.toNat s) G (rgn Int.toNat s).2:=by unfold rg;rw[hG,Int.toNat_natCast]
  simp only[t4,l2,l5,n2,go_sem]
  refine VD 6 G (fun m t loc h'=>m≤G∧t 4=pk b 0∧loc 2=some [.int .i64 0,zh,zh,zh,zh]∧∃L q v,t 6=.int .i64 (m:Nat)∧loc 5=some [.int .i64 Y,ev,mv,yv,v]∧Rdr b zL s g7 h' q∧qK h' g7.length h'.length zW v L∧wO (Zp Int.toNat s) G (rgn Int.toNat s).2 L m q)
    (fun t loc h'=>t 4=pk b 0∧loc 2=some [.int .i64 0,zh,zh,zh,zh]∧∃v,loc 5=some [.int .i64 Y,ev,mv,yv,v]∧Rdr b zL s g7 h' (rg Int.toNat s).2∧qK h' g7.length h'.length zW v (rg Int.toNat s).1)
    ⟨Nat.le_refl _,rfl,rfl,[],_,_,rfl,rfl,r7,qK.nil,wO.start⟩ ?_ ?_
  · rintro k t loc h' ⟨hkN,t4,l2,L,q,v,t6,l5,hr,o,hto⟩
    have hpk:∀j,faV h' (pk b 0) j=some (pk b j):=fun j=>wN hr.at_
    by_cases hk:(k:Int)>0
    · cases hq:q.2 with
      | false =>
        obtain⟨x,h2,d0,hrx,ox⟩:=fY (X:=X) hr.at_ hs hr.le;have hrn:=hr.trans hrx;have o1:qK h2 g7.length h'.length zW v L:=o.rdr hrx hb7 (Nat.le_refl _);have hLN:=hto.len
        obtain⟨v3,h3,c3,q1,q2,o3⟩:=o1.push (z:=(Zp Int.toNat s q).1.z) hrn.len hrx.len ox hr.len (Nat.le_refl _) (Nat.le_refl _) (by unfold lim;omega)
        have hw:IntKind.i64.wrap ((k:Int)-1)=((k-1:Nat):Int):=by
          rw[w64 (by omega) (by omega)]
          omega
        simp only[t4,l2,l5,t6,hk,hpk,Zq hr.at_,Zr hr.at_,hq,d0,ox.cells,zj,zi,c3,o3.cells',hw,go_sem]
        have hkk:k=(k-1)+1:=by omega
        rw[hkk] at hto
        exact⟨k-1,by omega,by omega,L++[(Zp Int.toNat s q).1],(Zp Int.toNat s q).2,v3,rfl,rfl,hrn.push hb7 q1 q2,o3,hto.next hq⟩
      | true =>
        have hd:=hto.done (.inr hq);simp only[t4,l2,l5,t6,hk,hpk,Zq hr.at_,Zr hr.at_,hq,go_sem];rw[hrgs,hd];exact⟨v,rfl,hr,o⟩
    · have hd:=hto.done (.inl (by omega))
      simp only[t4,l2,l5,t6,hk,hpk,go_sem];rw[hrgs,hd];exact⟨v,rfl,hr,o⟩
  rintro t loc g8 ⟨t4,l2,gv,l5,r8,og⟩;have ce:=bo (X:=X) r8.at_
  have lenA:g.length≤g2.length:=by rw[hg2,Zz];exact Nat.le_refl _
  have len8:=r8.len;have len6:=r6.len;have len5:=r5.len;have zaK:=r3.len
  have hpg8:h <+: g8:=by
    have k2:∀c,c<h.length→g2[c]?=h[c]?:=fun c hc=>by
      rw[hg2,List.getElem?_set_ne (by omega),hg,List.getElem?_append_left hc]
    have k3:∀c,c<h.length→g3[c]?=h[c]?:=fun c hc=>by rw[r3.old c (by omega) (by omega),k2 c hc]
    have k4:∀c,c<h.length→g4[c]?=h[c]?:=fun c hc=>by rw[hg4,List.getElem?_set_ne (by omega),k3 c hc]
    have k5:∀c,c<h.length→g5[c]?=h[c]?:=fun c hc=>by rw[r5.old c (by omega) (by omega),k4 c hc]
    have k6:∀c,c<h.length→g6[c]?=h[c]?:=fun c hc=>by rw[r6.old c (by omega) (by omega),k5 c hc]
    have k7:∀c,c<h.length→g7[c]?=h[c]?:=fun c hc=>by rw[hg7,List.getElem?_set_ne (by omega),k6 c hc]
    exact QM (by omega) fun c hc=>by rw[r8.old c (by omega) (by omega),k7 c hc]
  have hbg2:b<g2.length:=by omega
  have oe8:Own g8 g2.length g3.length 5 qD ev (ZF (re Int.toNat s).1):=by
    have a5:=oe4.rdr r5 hbg2 (by omega)
    have a6:=a5.rdr r6 hbg2 (by omega)
    have a7:Own g7 g2.length g3.length 5 qD ev (ZF (re Int.toNat s).1):=by rw[hg7];exact a6.num hbg2
    exact a7.rdr r8 hbg2 (by omega)
  have om8:Own g8 g4.length g5.length 2 Zl mv (cps (rm Int.toNat s).1):=by
    have a6:=om.rdr r6 hb4 (by omega)
    have a7:Own g7 g4.length g5.length 2 Zl mv (cps (rm Int.toNat s).1):=by rw[hg7];exact a6.num hb4
    exact a7.rdr r8 hb4 (by omega)
  have oy8:Own g8 g5.length g6.length 1 zf yv (zq (ry Int.toNat s).1):=oy7.rdr r8 hb5 (by omega)
  by_cases ok:C3 s
  · have hR:rdI s=⟨(rz s).1,(re Int.toNat s).1,(rm Int.toNat s).1,(ry Int.toNat s).1,(rg Int.toNat s).1,true⟩:=if_pos ok
    obtain⟨k1,k2,k3,k4⟩:=b7 ok.1
    have cc:=Ve (X:=X) (size:=(Y:Int)) oe8.rows om8.rows oy8.rows og.rows (by have:=(vZ ok.2.2).2.1;unfold lim;omega) (by omega) ⟨by omega,by omega,fun x hx=>by have:=k4 x hx;omega⟩
    have hcy:ZG (Y:Int) (re Int.toNat s).1 (rm Int.toNat s).1 (ry Int.toNat s).1 (rg Int.toNat s).1:=by rw[←hY,hsz];exact ok.2.2
    unfold zC Zg at cc;have e1:(rg Int.toNat s).2.2=false:=ok.1;have e2:((rg Int.toNat s).2.1=s.size)=True:=eq_true ok.2.1
    have ce':C T X ZP [pk b 0] g8=some (.bool true,g8):=by rw[ce,e1,ok.2.1];simp
    simp only[t4,l2,l5,ce',cc,hcy,go_sem];rw[hR];simp only;rw[←hsz,hY];obtain⟨hh,e,p1,hc⟩:=vl (v:=.tuple ⟨[.agg ⟨[.int .i64 (Y:Int),ev,mv,yv,gv]⟩,.bool true]⟩) hpg8;rw[e]
    dsimp only
    rcases hc with rfl | ⟨hf,rfl⟩
    · exact⟨p1,ev,mv,yv,gv,rfl,g2.length,g3.length,g5.length,g6.length,⟨by omega,by omega,by omega,by omega,by omega⟩,oe8,om8.wide (by omega) (Nat.le_refl _),oy8,og.wide (by omega) (Nat.le_refl _)⟩
    · have hf':prim ev=true∧prim mv=true∧prim yv=true∧prim gv=true:=by simpa[flat,yD,prim] using hf
      exact⟨p1,ev,mv,yv,gv,rfl,List.length hh,List.length hh,List.length hh,List.length hh,⟨by omega,by omega,by omega,by omega,zy p1⟩,oe8.flatP hf'.1,om8.flatP hf'.2.1,oy8.flatP hf'.2.2.1,og.flatG hf'.2.2.2⟩
  · have hR:rdI s=⟨0,[],[],[],[],false⟩:=if_neg ok
    by_cases e1:(!(rg Int.toNat s).2.2 && decide ((rg Int.toNat s).2.1=s.size))=true
    · have e2:(rg Int.toNat s).2.2=false∧(rg Int.toNat s).2.1=s.size:=by simpa using e1
      obtain⟨k1,k2,k3,k4⟩:=b7 e2.1
      have hnl:(re Int.toNat s).1.length≤N:=by rw[hre];exact uW
      have cc:=Ve (X:=X) (size:=(Y:Int)) oe8.rows om8.rows oy8.rows og.rows (by unfold lim;omega) (by omega) ⟨by omega,by omega,fun x hx=>by have:=k4 x hx;omega⟩
      have hcy:¬ZG (Y:Int) (re Int.toNat s).1 (rm Int.toNat s).1 (ry Int.toNat s).1 (rg Int.toNat s).1:=by rw[←hY,hsz];exact fun k=>ok ⟨e2.1,e2.2,k⟩
      unfold zC Zg at cc
      have ce':C T X ZP [pk b 0] g8=some (.bool true,g8):=by rw[ce,e1]
      simp only[t4,l2,l5,ce',cc,hcy,go_sem];rw[zF rfl hpg8,hR];exact⟨List.prefix_refl _,zh,zh,zh,zh,rfl,h.length,h.length,h.length,h.length,⟨Nat.le_refl _,Nat.le_refl _,Nat.le_refl _,Nat.le_refl _,Nat.le_refl _⟩,Own.nil,Own.nil,Own.nil,qK.nil⟩
    · have ce':C T X ZP [pk b 0] g8=some (.bool false,g8):=by rw[ce];simp only[Bool.not_eq_true] at e1;rw[e1]
      simp only[t4,l2,l5,ce',go_sem];rw[zF rfl hpg8,hR];exact⟨List.prefix_refl _,zh,zh,zh,zh,rfl,h.length,h.length,h.length,h.length,⟨Nat.le_refl _,Nat.le_refl _,Nat.le_refl _,Nat.le_refl _,Nat.le_refl _⟩,Own.nil,Own.nil,Own.nil,qK.nil⟩
end
section
variable {X:Zb}{h:za}{b:Nat}{s:ByteArray}{p:Nat × Bool}
theorem u9 (n:Int):zb n≤100:=by unfold zb;omega
theorem yA {n:Int}{i m:Nat}(hm:m+i=zb n)(h1:(i:Int)<n)(h2:(i:Int)<100):0<m:=by unfold zb at hm;omega
theorem yy {n:Int}{i m:Nat}(hm:m+i=zb n)(h1:¬(i:Int)<n):m=0:=by unfold zb at hm;omega
theorem yz {n:Int}{i m:Nat}(hm:m+i=zb n)(h1:¬(i:Int)<100):m=0:=by unfold zb at hm;omega
theorem Gu {q:Nat × Bool}:∀ {n:Nat} {p:Nat × Bool},∀g∈(rdN (Zp zb s) n p).1,g.ms.length≤100
  | 0,_,g,h=>absurd h List.not_mem_nil
  | n+1,p,g,h=>by
    rw[rdN] at h;split at h
    · exact absurd h List.not_mem_nil
    · cases List.mem_cons.1 h with
      | inl e=>rw[e];exact Nat.le_trans uW (u9 _)
      | inr e=>exact Gu (q:=q) g e
theorem Kq (hs2:s.size≤1048576):∃v hh,C T X Wx [.string s] h=some (v,hh)∧h <+: hh∧∃ew mw yw gw,v=.tuple ⟨[ui (rdS s).size ew mw yw gw,.bool (rdS s).ok]⟩∧Own hh h.length hh.length 5 qD ew (ZF (rdS s).es)∧Own hh h.length hh.length 2 Zl mw (cps (rdS s).m)∧Own hh h.length hh.length 1 zf yw (zq (rdS s).ys)∧qK hh h.length hh.length zW gw (rdS s).gs:=by
  have hs:s.size≤lim:=by unfold lim;omega
  refine wU Kz rfl ?_;obtain⟨g,hg⟩:∃g:za,g=h++[rdB zO s (0,false)]:=⟨_,rfl⟩
  have hbw:bxW h zO 3 (.agg ⟨[.string s,.int .i64 0,.bool false]⟩)=some (pk h.length 0,g):=by rw[hg];rfl
  obtain⟨b,hb⟩:∃b,b=h.length:=⟨_,rfl⟩;rw[←hb] at hbw
  have hgb:g[b]?=some (rdB zO s (0,false)):=by rw[hg,hb];simp
  have hgl:g.length=b+1:=by rw[hg,hb];simp
  have hbl:b<g.length:=by omega
  have hpg:h <+: g:=by rw[hg];exact List.prefix_append _ _
  have r0:Rdr b zO s g g (0,false):=Rdr.refl hgb (Nat.zero_le _);have c1:=jQ (X:=X) r0 hs;have c2:=J1 (X:=X) r0 hs 1;have r2:=r0.nums 2;obtain⟨g2,hg2⟩:∃g2,g2=g.set b (rdB zO s (sS s (0,false) 2)):=⟨_,rfl⟩;rw[←hg2] at c2 r2;have hz:sV s (0,false) 0=(rz s).1:=rfl;have hne:sV s (0,false) 1=(rne s).1:=rfl;have hq2:sS s (0,false) 2=(rne s).2:=rfl;rw[hz] at c1;rw[hne] at c2;rw[hq2] at r2;obtain⟨size,hsz⟩:∃z,z=(rz s).1:=⟨_,rfl⟩;rw[←hsz] at c1
  have hszr:0≤size∧size≤1000000000:=by rw[hsz];exact Yl (Nat.zero_le _)
  obtain⟨NE,hNE⟩:∃z,z=(rne s).1:=⟨_,rfl⟩;rw[←hNE] at c2
  have hre:re zb s=rdN (VI s) (zb NE) (rne s).2:=by unfold re;rw[hNE]
  unfold Wg;simp only[hbw,c1,c2,go_sem];have hb2:b<g2.length:=zG r2.at_
  refine VD 0 (zb NE) (fun m t loc h'=>t 0=.string s∧t 4=pk b 0∧loc 2=some [.int .i64 0,zh,zh,zh,zh]∧t 6=.int .i64 NE∧∃(i:Nat),∃L q v,m+i=zb NE∧t 7=.int .i64 (i:Nat)∧loc 5=some [.int .i64 size,v,zh,zh,zh]∧Rdr b zO s g2 h' q∧Own h' g2.length h'.length 5 qD v (ZF L)∧wO (VI s) (zb NE) (rne s).2 L m q)
    (fun t loc h'=>t 0=.string s∧t 4=pk b 0∧loc 2=some [.int .i64 0,zh,zh,zh,zh]∧∃v,loc 5=some [.int .i64 size,v,zh,zh,zh]∧Rdr b zO s g2 h' (re zb s).2∧Own h' g2.length h'.length 5 qD v (ZF (re zb s).1))
    ⟨rfl,rfl,rfl,rfl,0,[],_,_,rfl,rfl,rfl,Rdr.refl r2.at_ r2.le,Own.nil,wO.start⟩ ?_ ?_
  · rintro m t loc h' ⟨t0,t4,l2,t6,i,L,q,v,hmi,tcn,l5,hr,o,hto⟩
    have hpk:∀j,faV h' (pk b 0) j=some (pk b j):=fun j=>wN hr.at_
    have hcl:=u9 NE
    by_cases hk:(i:Int)<NE
    · cases hq:q.2 with
      | false =>
        by_cases hk2:(i:Int)<100
        · have hm0:=yA hmi hk hk2
          have hw:IntKind.i64.wrap ((i:Int)+1)=((i+1:Nat):Int):=w64 (by omega) (by omega)
          have hkk:m=(m-1)+1:=by omega
          have hLN:=hto.len;have d0:=jQ (X:=X) hr hs;have d1:=J1 (X:=X) hr hs 1;have d2:=J1 (X:=X) hr hs 2;have d3:=J1 (X:=X) hr hs 3;have d4:=J1 (X:=X) hr hs 4;have hrn:=hr.nums 5;have o1:Own (h'.set b (rdB zO s (sS s q 5))) g2.length h'.length 5 qD v (ZF L):=o.num hb2;obtain⟨h2,hh2⟩:∃h2,h2=h'.set b (rdB zO s (sS s q 5)):=⟨_,rfl⟩;rw[←hh2] at d4 hrn o1
          have hl2:h2.length=h'.length:=by rw[hh2,Zz]
          rw[←hl2] at o1
          obtain⟨v3,h3,c3,q1,q2,o3⟩:=o1.push1 hrn.len (ZT (VI s q).1) rfl (by rw[List.length_map];unfold lim;omega)
          unfold ZT VI at c3;simp only[t0,t4,l2,t6,l5,tcn,hk,hk2,hpk,Zq hr.at_,Zr hr.at_,hq,d0,d1,d2,d3,d4,zj,zi,c3,o3.cells,hw,go_sem];rw[hkk] at hto
          refine⟨m-1,by omega,i+1,L++[(VI s q).1],sS s q 5,v3,by omega,rfl,rfl,hrn.push hb2 q1 (fun c hc=>q2 c (.inl hc)),?_,hto.next hq⟩
          rw[Nat.max_eq_right q1] at o3;simpa using o3
        · have hd:=hto.done (.inl (yz hmi hk2))
          simp only[t0,t4,l2,t6,l5,tcn,hk,hk2,hpk,Zq hr.at_,Zr hr.at_,hq,go_sem];rw[hre,hd];exact⟨v,rfl,hr,o⟩
      | true =>
        have hd:=hto.done (.inr hq);simp only[t0,t4,l2,t6,l5,tcn,hk,hpk,Zq hr.at_,Zr hr.at_,hq,go_sem];rw[hre,hd];exact⟨v,rfl,hr,o⟩
    · have hd:=hto.done (.inl (yy hmi hk))
      simp only[t0,t4,l2,t6,l5,tcn,hk,hpk,go_sem];rw[hre,hd];exact⟨v,rfl,hr,o⟩
  rintro t loc g3 ⟨t0,t4,l2,ev,l5,r3,oe⟩;have hb3:b<g3.length:=zG r3.at_;have n1:=jQ (X:=X) r3 hs
  rw[show sV s (re zb s).2 0=(rnm zb s).1 from rfl] at n1
  have r4':=r3.nums 1;obtain⟨g4,hg4⟩:∃g4,g4=g3.set b (rdB zO s (sS s (re zb s).2 1)):=⟨_,rfl⟩
  have oe4:Own g4 g2.length g3.length 5 qD ev (ZF (re zb s).1):=by rw[hg4];exact oe.num (zG r2.at_)
  rw[←hg4] at n1 r4'
  have hl4:g4.length=g3.length:=by rw[hg4,Zz]
  rw[show sS s (re zb s).2 1=(rnm zb s).2 from rfl] at r4'
  have r4:Rdr b zO s g4 g4 (rnm zb s).2:=Rdr.refl r4'.at_ r4'.le;obtain⟨M,hM⟩:∃M,M=(rnm zb s).1:=⟨_,rfl⟩;rw[←hM] at n1
  have hrm:rm zb s=rdN (VG s) (zb M) (rnm zb s).2:=by unfold rm;rw[hM]
  simp only[t0,t4,l2,l5,n1,go_sem]
  have hb4:b<g4.length:=by omega
  refine VD 2 (zb M) (fun m t loc h'=>t 0=.string s∧t 4=pk b 0∧loc 2=some [.int .i64 0,zh,zh,zh,zh]∧t 6=.int .i64 M∧∃(i:Nat),∃L q v,m+i=zb M∧t 9=.int .i64 (i:Nat)∧loc 5=some [.int .i64 size,ev,v,zh,zh]∧Rdr b zO s g4 h' q∧Own h' g4.length h'.length 2 Zl v (cps L)∧wO (VG s) (zb M) (rnm zb s).2 L m q)
    (fun t loc h'=>t 0=.string s∧t 4=pk b 0∧loc 2=some [.int .i64 0,zh,zh,zh,zh]∧∃v,loc 5=some [.int .i64 size,ev,v,zh,zh]∧Rdr b zO s g4 h' (rm zb s).2∧Own h' g4.length h'.length 2 Zl v (cps (rm zb s).1))
    ⟨rfl,rfl,rfl,rfl,0,[],_,_,rfl,rfl,rfl,r4,Own.nil,wO.start⟩ ?_ ?_
  · rintro m t loc h' ⟨t0,t4,l2,t6,i,L,q,v,hmi,tcn,l5,hr,o,hto⟩
    have hpk:∀j,faV h' (pk b 0) j=some (pk b j):=fun j=>wN hr.at_
    have hcl:=u9 M
    by_cases hk:(i:Int)<M
    · cases hq:q.2 with
      | false =>
        by_cases hk2:(i:Int)<100
        · have hm0:=yA hmi hk hk2
          have hw:IntKind.i64.wrap ((i:Int)+1)=((i+1:Nat):Int):=w64 (by omega) (by omega)
          have hkk:m=(m-1)+1:=by omega
          have hLN:=hto.len;have d0:=jQ (X:=X) hr hs;have d1:=J1 (X:=X) hr hs 1;have hrn:=hr.nums 2;have o1:Own (h'.set b (rdB zO s (sS s q 2))) g4.length h'.length 2 Zl v (cps L):=o.num hb4;obtain⟨h2,hh2⟩:∃h2,h2=h'.set b (rdB zO s (sS s q 2)):=⟨_,rfl⟩;rw[←hh2] at d1 hrn o1
          have hl2:h2.length=h'.length:=by rw[hh2,Zz]
          rw[←hl2] at o1
          obtain⟨v3,h3,c3,q1,q2,o3⟩:=o1.push1 hrn.len (cpR (VG s q).1) rfl (by rw[List.length_map];unfold lim;omega)
          unfold cpR VG at c3;simp only[t0,t4,l2,t6,l5,tcn,hk,hk2,hpk,Zq hr.at_,Zr hr.at_,hq,d0,d1,zj,zi,c3,o3.cells,hw,go_sem];rw[hkk] at hto
          refine⟨m-1,by omega,i+1,L++[(VG s q).1],sS s q 2,v3,by omega,rfl,rfl,hrn.push hb4 q1 (fun c hc=>q2 c (.inl hc)),?_,hto.next hq⟩
          rw[Nat.max_eq_right q1] at o3;simpa using o3
        · have hd:=hto.done (.inl (yz hmi hk2))
          simp only[t0,t4,l2,t6,l5,tcn,hk,hk2,hpk,Zq hr.at_,Zr hr.at_,hq,go_sem];rw[hrm,hd];exact⟨v,rfl,hr,o⟩
      | true =>
        have hd:=hto.done (.inr hq);simp only[t0,t4,l2,t6,l5,tcn,hk,hpk,Zq hr.at_,Zr hr.at_,hq,go_sem];rw[hrm,hd];exact⟨v,rfl,hr,o⟩
    · have hd:=hto.done (.inl (yy hmi hk))
      simp only[t0,t4,l2,t6,l5,tcn,hk,hpk,go_sem];rw[hrm,hd];exact⟨v,rfl,hr,o⟩
  rintro t loc g5 ⟨t0,t4,l2,mv,l5,r5,om⟩;have hb5:b<g5.length:=zG r5.at_;have r5s:Rdr b zO s g5 g5 (rm zb s).2:=Rdr.refl r5.at_ r5.le
  have hry:ry zb s=rdN (ze s) (zb size) (rm zb s).2:=by unfold ry;rw[←hsz]
  simp only[t0,t4,l2,l5,go_sem]
  refine VD 4 (zb size) (fun m t loc h'=>t 0=.string s∧t 4=pk b 0∧loc 2=some [.int .i64 0,zh,zh,zh,zh]∧∃(i:Nat),∃L q v,m+i=zb size∧t 11=.int .i64 (i:Nat)∧loc 5=some [.int .i64 size,ev,mv,v,zh]∧Rdr b zO s g5 h' q∧Own h' g5.length h'.length 1 zf v (zq L)∧wO (ze s) (zb size) (rm zb s).2 L m q)
    (fun t loc h'=>t 0=.string s∧t 4=pk b 0∧loc 2=some [.int .i64 0,zh,zh,zh,zh]∧∃v,loc 5=some [.int .i64 size,ev,mv,v,zh]∧Rdr b zO s g5 h' (ry zb s).2∧Own h' g5.length h'.length 1 zf v (zq (ry zb s).1))
    ⟨rfl,rfl,rfl,0,[],_,_,rfl,rfl,rfl,r5s,Own.nil,wO.start⟩ ?_ ?_
  · rintro m t loc h' ⟨t0,t4,l2,i,L,q,v,hmi,tcn,l5,hr,o,hto⟩
    have hpk:∀j,faV h' (pk b 0) j=some (pk b j):=fun j=>wN hr.at_
    have hcl:=u9 size
    by_cases hk:(i:Int)<size
    · cases hq:q.2 with
      | false =>
        by_cases hk2:(i:Int)<100
        · have hm0:=yA hmi hk hk2
          have hw:IntKind.i64.wrap ((i:Int)+1)=((i+1:Nat):Int):=w64 (by omega) (by omega)
          have hkk:m=(m-1)+1:=by omega
          have hLN:=hto.len;have d0:=jQ (X:=X) hr hs;have hrn:=hr.nums 1;have o1:Own (h'.set b (rdB zO s (sS s q 1))) g5.length h'.length 1 zf v (zq L):=o.num hb5;obtain⟨h2,hh2⟩:∃h2,h2=h'.set b (rdB zO s (sS s q 1)):=⟨_,rfl⟩;rw[←hh2] at d0 hrn o1
          have hl2:h2.length=h'.length:=by rw[hh2,Zz]
          rw[←hl2] at o1
          obtain⟨v3,h3,c3,q1,q2,o3⟩:=o1.push1 hrn.len ([.int .i64 (sV s q 0)]) rfl (by rw[z9];unfold lim;omega)
          simp only[t0,t4,l2,l5,tcn,hk,hk2,hpk,Zq hr.at_,Zr hr.at_,hq,d0,zj,zi,c3,o3.cells,hw,go_sem];rw[hkk] at hto
          refine⟨m-1,by omega,i+1,L++[sV s q 0],sS s q 1,v3,by omega,rfl,rfl,hrn.push hb5 q1 (fun c hc=>q2 c (.inl hc)),?_,hto.next hq⟩
          rw[Nat.max_eq_right q1] at o3;simpa[zq] using o3
        · have hd:=hto.done (.inl (yz hmi hk2))
          simp only[t0,t4,l2,l5,tcn,hk,hk2,hpk,Zq hr.at_,Zr hr.at_,hq,go_sem];rw[hry,hd];exact⟨v,rfl,hr,o⟩
      | true =>
        have hd:=hto.done (.inr hq);simp only[t0,t4,l2,l5,tcn,hk,hpk,Zq hr.at_,Zr hr.at_,hq,go_sem];rw[hry,hd];exact⟨v,rfl,hr,o⟩
    · have hd:=hto.done (.inl (yy hmi hk))
      simp only[t0,t4,l2,l5,tcn,hk,hpk,go_sem];rw[hry,hd];exact⟨v,rfl,hr,o⟩
  rintro t loc g6 ⟨t0,t4,l2,yv,l5,r6,oy⟩;have hb6:b<g6.length:=zG r6.at_;have n2:=jQ (X:=X) r6 hs
  rw[show sV s (ry zb s).2 0=(rgn zb s).1 from rfl] at n2
  have r7':=r6.nums 1;obtain⟨g7,hg7⟩:∃g7,g7=g6.set b (rdB zO s (sS s (ry zb s).2 1)):=⟨_,rfl⟩
  have oy7:Own g7 g5.length g6.length 1 zf yv (zq (ry zb s).1):=by rw[hg7];exact oy.num hb5
  rw[←hg7] at n2 r7'
  have hl7:g7.length=g6.length:=by rw[hg7,Zz]
  have hb7:b<g7.length:=by omega
  rw[show sS s (ry zb s).2 1=(rgn zb s).2 from rfl] at r7'
  have r7:Rdr b zO s g7 g7 (rgn zb s).2:=Rdr.refl r7'.at_ r7'.le;obtain⟨G,hG⟩:∃G,G=(rgn zb s).1:=⟨_,rfl⟩;rw[←hG] at n2
  have hrgs:rg zb s=rdN (Zp zb s) (zb G) (rgn zb s).2:=by unfold rg;rw[hG]
  simp only[t0,t4,l2,l5,n2,go_sem]
  refine VD 6 (zb G) (fun m t loc h'=>t 0=.string s∧t 4=pk b 0∧loc 2=some [.int .i64 0,zh,zh,zh,zh]∧t 6=.int .i64 G∧∃(i:Nat),∃L q v,m+i=zb G∧t 12=.int .i64 (i:Nat)∧loc 5=some [.int .i64 size,ev,mv,yv,v]∧Rdr b zO s g7 h' q∧qK h' g7.length h'.length zW v L∧wO (Zp zb s) (zb G) (rgn zb s).2 L m q)
    (fun t loc h'=>t 0=.string s∧t 4=pk b 0∧loc 2=some [.int .i64 0,zh,zh,zh,zh]∧∃v,loc 5=some [.int .i64 size,ev,mv,yv,v]∧Rdr b zO s g7 h' (rg zb s).2∧qK h' g7.length h'.length zW v (rg zb s).1)
    ⟨rfl,rfl,rfl,rfl,0,[],_,_,rfl,rfl,rfl,r7,qK.nil,wO.start⟩ ?_ ?_
  · rintro m t loc h' ⟨t0,t4,l2,t6,i,L,q,v,hmi,tcn,l5,hr,o,hto⟩
    have hpk:∀j,faV h' (pk b 0) j=some (pk b j):=fun j=>wN hr.at_
    have hcl:=u9 G
    by_cases hk:(i:Int)<G
    · cases hq:q.2 with
      | false =>
        by_cases hk2:(i:Int)<100
        · have hm0:=yA hmi hk hk2
          have hw:IntKind.i64.wrap ((i:Int)+1)=((i+1:Nat):Int):=w64 (by omega) (by omega)
          have hkk:m=(m-1)+1:=by omega
          have hLN:=hto.len;have d0:=jQ (X:=X) hr hs;have hrn:=hr.nums 1;have o1:qK (h'.set b (rdB zO s (sS s q 1))) g7.length h'.length zW v L:=o.num hb7;obtain⟨h1,hh1⟩:∃h1,h1=h'.set b (rdB zO s (sS s q 1)):=⟨_,rfl⟩;rw[←hh1] at d0 hrn o1
          have hl1:h1.length=h'.length:=by rw[hh1,Zz]
          have hb1:b<h1.length:=by have:=hrn.len;omega
          have ri:Rdr b zO s h1 h1 (sS s q 1):=Rdr.refl hrn.at_ hrn.le;obtain⟨n,hn⟩:∃n,n=sV s q 0:=⟨_,rfl⟩;rw[←hn] at d0
          have hms:rdN (ze s) (zb (ze s q).1) (ze s q).2=rdN (ze s) (zb n) (sS s q 1):=by rw[hn];rfl
          simp only[t0,t4,l2,t6,l5,tcn,hk,hk2,hpk,Zq hr.at_,Zr hr.at_,hq,d0,go_sem]
          refine VD 8 (zb n) (fun m t loc h'=>t 0=.string s∧t 4=pk b 0∧loc 2=some [.int .i64 0,zh,zh,zh,zh]∧t 6=.int .i64 G∧t 12=.int .i64 i∧loc 5=some [.int .i64 size,ev,mv,yv,v]∧t 14=.int .i64 n∧∃(j:Nat),∃L q' x,m+j=zb n∧t 15=.int .i64 (j:Nat)∧loc 13=some [x,.int .i64 0]∧Rdr b zO s h1 h' q'∧Own h' h1.length h'.length 1 zf x (zq L)∧wO (ze s) (zb n) (sS s q 1) L m q')
            (fun t loc h'=>t 0=.string s∧t 4=pk b 0∧loc 2=some [.int .i64 0,zh,zh,zh,zh]∧t 6=.int .i64 G∧t 12=.int .i64 i∧loc 5=some [.int .i64 size,ev,mv,yv,v]∧∃x,loc 13=some [x,.int .i64 0]∧Rdr b zO s h1 h' (rdN (ze s) (zb n) (sS s q 1)).2∧Own h' h1.length h'.length 1 zf x (zq (rdN (ze s) (zb n) (sS s q 1)).1))
            ⟨rfl,rfl,rfl,rfl,rfl,rfl,rfl,0,[],_,_,rfl,rfl,rfl,ri,Own.nil,wO.start⟩ ?_ ?_
          · rintro m' t loc hx ⟨t0,t4,l2,t6,t12,l5,t14,j,L',q',x,hmj,t15,l13,hr',o',hto'⟩
            have hpk':∀j,faV hx (pk b 0) j=some (pk b j):=fun j=>wN hr'.at_
            have hcl':=u9 n
            by_cases jk:(j:Int)<n
            · cases jq:q'.2 with
              | false =>
                by_cases jk2:(j:Int)<100
                · have hm0':=yA hmj jk jk2
                  have hw':IntKind.i64.wrap ((j:Int)+1)=((j+1:Nat):Int):=w64 (by omega) (by omega)
                  have hkk':m'=(m'-1)+1:=by omega
                  have hLN':=hto'.len;have e0:=jQ (X:=X) hr' hs;have hrn':=hr'.nums 1;have o1':Own (hx.set b (rdB zO s (sS s q' 1))) h1.length hx.length 1 zf x (zq L'):=o'.num hb1;obtain⟨h2,hh2⟩:∃h2,h2=hx.set b (rdB zO s (sS s q' 1)):=⟨_,rfl⟩;rw[←hh2] at e0 hrn' o1'
                  have hl2:h2.length=hx.length:=by rw[hh2,Zz]
                  rw[←hl2] at o1'
                  obtain⟨v3,h3,c3,q1,q2,o3⟩:=o1'.push1 hrn'.len [.int .i64 (sV s q' 0)] rfl (by rw[z9];unfold lim;omega)
                  simp only[t0,t4,l2,t6,t12,l5,t14,t15,l13,jk,jk2,hpk',Zq hr'.at_,Zr hr'.at_,jq,e0,zj,zi,c3,o3.cells,hw',go_sem];rw[hkk'] at hto'
                  refine⟨m'-1,by omega,j+1,L'++[sV s q' 0],sS s q' 1,v3,by omega,rfl,rfl,hrn'.push hb1 q1 (fun c hc=>q2 c (.inl hc)),?_,hto'.next jq⟩
                  rw[Nat.max_eq_right q1] at o3;simpa[zq] using o3
                · have hd:=hto'.done (.inl (yz hmj jk2))
                  simp only[t0,t4,l2,t6,t12,l5,t14,t15,l13,jk,jk2,hpk',Zq hr'.at_,Zr hr'.at_,jq,go_sem];rw[hd];exact⟨x,rfl,hr',o'⟩
              | true =>
                have hd:=hto'.done (.inr jq);simp only[t0,t4,l2,t6,t12,l5,t14,t15,l13,jk,hpk',Zq hr'.at_,Zr hr'.at_,jq,go_sem];rw[hd];exact⟨x,rfl,hr',o'⟩
            · have hd:=hto'.done (.inl (yy hmj jk))
              simp only[t0,t4,l2,t6,t12,l5,t14,t15,l13,jk,hpk',go_sem];rw[hd];exact⟨x,rfl,hr',o'⟩
          rintro t loc hy ⟨t0,t4,l2,t6,t12,l5,x,l13,rx,ox⟩
          have hgs:Zp zb s q=(⟨(rdN (ze s) (zb n) (sS s q 1)).1,(ze s (rdN (ze s) (zb n) (sS s q 1)).2).1⟩,(ze s (rdN (ze s) (zb n) (sS s q 1)).2).2):=by unfold Zp;rw[hms]
          have o2:qK hy g7.length h'.length zW v L:=o1.rdr rx hb7 (by omega)
          have e0:=jQ (X:=X) rx hs;have rx1:=rx.nums 1;have o2':qK (hy.set b (rdB zO s (sS s (rdN (ze s) (zb n) (sS s q 1)).2 1))) g7.length h'.length zW v L:=o2.num hb7;have ox':Own (hy.set b (rdB zO s (sS s (rdN (ze s) (zb n) (sS s q 1)).2 1))) h1.length hy.length 1 zf x (zq (rdN (ze s) (zb n) (sS s q 1)).1):=ox.num hb1;obtain⟨h5,hh5⟩:∃h5,h5=hy.set b (rdB zO s (sS s (rdN (ze s) (zb n) (sS s q 1)).2 1)):=⟨_,rfl⟩;rw[←hh5] at e0 rx1 o2' ox'
          have hl5:h5.length=hy.length:=by rw[hh5,Zz]
          have hlen7:=hrn.len;have hlenx:=rx.len
          obtain⟨v3,h3,c3,q1,q2,o3⟩:=o2'.push (z:=sV s (rdN (ze s) (zb n) (sS s q 1)).2 0) (by omega) (by omega) ox' hlen7 (by omega) (by omega) (by unfold lim;omega)
          simp only[t0,t4,l2,t6,t12,l5,l13,e0,ox'.cells,zj,zi,c3,o3.cells',hw,go_sem];rw[hkk] at hto
          refine⟨m-1,by omega,i+1,L++[(Zp zb s q).1],(Zp zb s q).2,v3,by omega,rfl,rfl,?_,?_,hto.next hq⟩
          · rw[hgs]
            exact (hrn.trans rx1).push hb7 q1 q2
          · rw[hgs]
            exact o3
        · have hd:=hto.done (.inl (yz hmi hk2))
          simp only[t0,t4,l2,t6,l5,tcn,hk,hk2,hpk,Zq hr.at_,Zr hr.at_,hq,go_sem];rw[hrgs,hd];exact⟨v,rfl,hr,o⟩
      | true =>
        have hd:=hto.done (.inr hq);simp only[t0,t4,l2,t6,l5,tcn,hk,hpk,Zq hr.at_,Zr hr.at_,hq,go_sem];rw[hrgs,hd];exact⟨v,rfl,hr,o⟩
    · have hd:=hto.done (.inl (yy hmi hk))
      simp only[t0,t4,l2,t6,l5,tcn,hk,hpk,go_sem];rw[hrgs,hd];exact⟨v,rfl,hr,o⟩
  rintro t loc g8 ⟨t0,t4,l2,gv,l5,r8,og⟩
  have lenA:g.length≤g2.length:=by rw[hg2,Zz];exact Nat.le_refl _
  have len8:=r8.len;have len6:=r6.len;have len5:=r5.len;have zaK:=r3.len
  have hpg8:h <+: g8:=by
    have k2:∀c,c<h.length→g2[c]?=h[c]?:=fun c hc=>by
      rw[hg2,List.getElem?_set_ne (by omega),hg,List.getElem?_append_left hc]
    have k3:∀c,c<h.length→g3[c]?=h[c]?:=fun c hc=>by rw[r3.old c (by omega) (by omega),k2 c hc]
    have k4:∀c,c<h.length→g4[c]?=h[c]?:=fun c hc=>by rw[hg4,List.getElem?_set_ne (by omega),k3 c hc]
    have k5:∀c,c<h.length→g5[c]?=h[c]?:=fun c hc=>by rw[r5.old c (by omega) (by omega),k4 c hc]
    have k6:∀c,c<h.length→g6[c]?=h[c]?:=fun c hc=>by rw[r6.old c (by omega) (by omega),k5 c hc]
    have k7:∀c,c<h.length→g7[c]?=h[c]?:=fun c hc=>by rw[hg7,List.getElem?_set_ne (by omega),k6 c hc]
    exact QM (by omega) fun c hc=>by rw[r8.old c (by omega) (by omega),k7 c hc]
  have oe8:Own g8 g2.length g3.length 5 qD ev (ZF (re zb s).1):=by
    have a5:=oe4.rdr r5 hb2 (by omega)
    have a6:=a5.rdr r6 hb2 (by omega)
    have a7:Own g7 g2.length g3.length 5 qD ev (ZF (re zb s).1):=by rw[hg7];exact a6.num hb2
    exact a7.rdr r8 hb2 (by omega)
  have om8:Own g8 g4.length g5.length 2 Zl mv (cps (rm zb s).1):=by
    have a6:=om.rdr r6 hb4 (by omega)
    have a7:Own g7 g4.length g5.length 2 Zl mv (cps (rm zb s).1):=by rw[hg7];exact a6.num hb4
    exact a7.rdr r8 hb4 (by omega)
  have oy8:Own g8 g5.length g6.length 1 zf yv (zq (ry zb s).1):=oy7.rdr r8 hb5 (by omega)
  have l1:(re zb s).1.length≤100:=Nat.le_trans (by rw[hre];exact uW) (u9 NE)
  have l2':(rm zb s).1.length≤100:=Nat.le_trans (by rw[hrm];exact uW) (u9 M)
  have l3:(ry zb s).1.length≤100:=Nat.le_trans (by rw[hry];exact uW) (u9 size)
  have l4:(rg zb s).1.length≤100:=Nat.le_trans (by rw[hrgs];exact uW) (u9 G)
  have cc:=yh (X:=X) (size:=size) oe8.rows om8.rows oy8.rows og.rows (by unfold lim;omega) (by omega) ⟨by omega,by omega,fun x hx=>by have:=Gu (q:=(0,false)) x hx;omega⟩
  unfold ui at cc
  have hpk:∀j,faV g8 (pk b 0) j=some (pk b j):=fun j=>wN r8.at_
  by_cases ok:zbX s
  · have hR:rdS s=⟨(rz s).1,(re zb s).1,(rm zb s).1,(ry zb s).1,(rg zb s).1,true⟩:=if_pos ok
    have e1:(rg zb s).2.2=false:=ok.1
    have e2:ZG size (re zb s).1 (rm zb s).1 (ry zb s).1 (rg zb s).1:=by rw[hsz];exact ok.2.1
    have e3:wV size (re zb s).1 (rm zb s).1 (ry zb s).1 (rg zb s).1=s:=by rw[hsz];exact ok.2.2
    rw[if_pos e2,e3] at cc;simp only[t0,t4,l2,l5,cc,e2,hpk,Zq r8.at_,Zr r8.at_,e1,BEq.rfl,go_sem];rw[hR];simp only;rw[←hsz];obtain⟨hh,e,p1,hc⟩:=vl (v:=.tuple ⟨[.agg ⟨[.int .i64 size,ev,mv,yv,gv]⟩,.bool true]⟩) hpg8;rw[e]
    dsimp only
    rcases hc with rfl | ⟨hf,rfl⟩
    · exact⟨p1,ev,mv,yv,gv,rfl,oe8.wide (by omega) (by omega),om8.wide (by omega) (by omega),oy8.wide (by omega) (by omega),og.wide (by omega) (Nat.le_refl _)⟩
    · have hf':prim ev=true∧prim mv=true∧prim yv=true∧prim gv=true:=by simpa[flat,yD,prim] using hf
      exact⟨p1,ev,mv,yv,gv,rfl,oe8.flatP hf'.1,om8.flatP hf'.2.1,oy8.flatP hf'.2.2.1,og.flatG hf'.2.2.2⟩
  · have hR:rdS s=⟨0,[],[],[],[],false⟩:=if_neg ok
    have done:∀P:Prop,P=P:=fun _=>rfl
    cases e1:(rg zb s).2.2 with
    | true =>
      simp only[t0,t4,l2,l5,cc,hpk,Zq r8.at_,Zr r8.at_,e1,go_sem];rw[zF rfl hpg8,hR];exact⟨List.prefix_refl _,zh,zh,zh,zh,rfl,Own.nil,Own.nil,Own.nil,qK.nil⟩
    | false =>
      by_cases e2:ZG size (re zb s).1 (rm zb s).1 (ry zb s).1 (rg zb s).1
      · rw[if_pos e2] at cc
        have e3:¬wV size (re zb s).1 (rm zb s).1 (ry zb s).1 (rg zb s).1=s:=fun k=>ok ⟨e1,by rw[←hsz];exact e2,by rw[←hsz];exact k⟩
        have e4:((wV size (re zb s).1 (rm zb s).1 (ry zb s).1 (rg zb s).1).toList==s.toList)=false:=by rw[yU];exact decide_eq_false e3
        simp only[t0,t4,l2,l5,cc,e2,hpk,Zq r8.at_,Zr r8.at_,e1,e4,e3,go_sem];rw[zF rfl hpg8,hR];exact⟨List.prefix_refl _,zh,zh,zh,zh,rfl,Own.nil,Own.nil,Own.nil,qK.nil⟩
      · rw[if_neg e2] at cc
        simp only[t0,t4,l2,l5,cc,e2,hpk,Zq r8.at_,Zr r8.at_,e1,go_sem];rw[zF rfl hpg8,hR];exact⟨List.prefix_refl _,zh,zh,zh,zh,rfl,Own.nil,Own.nil,Own.nil,qK.nil⟩
end
end Go.Proofs.Ytafhipglhnfgnaa.Ab
