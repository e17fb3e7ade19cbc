/- Joined. No conditions. -/
import Derived.Test.YtafhipglhnfgnaaM16
set_option linter.unusedSimpArgs false
set_option linter.unusedVariables false
set_option linter.unnecessarySimpa false
set_option maxHeartbeats 4000000
namespace Go.Proofs.Ytafhipglhnfgnaa.Ab
open Go.RowKit
section
variable {X:Zb}{g:Ql}{h:za}{b k lo e i kk:Nat}{es:List E}{s:Sv}{l:Lb}{rk:Nat→Nat}{M:List Lk}{dn:Bool}{V:RV}{size:Int}{L Q:List Nat}{A:List Lk}{xs ys:List Nat}
set_option maxRecDepth 100000 in
theorem bt (hbs : wT s V.bs) (R : Rn g h b es s M k dn V) (K : Ok es s) (hs : Sm s) (m : QF es s M) (gk : GOk size es) (P : Tp h lo s.N L A Q) (D : Tl es s l L A Q) (Mt : uY es s l rk e xs ys i kk) (hf : ∀ q, q < kk → ys.getD q 0 ≠ xs.getD i 0) (he : e < es.length) (hx0 : top s (vA es e) = xs.getD 0 0) (hy0 : top s (vB es e) = ys.getD 0 0) (hlo : b < lo) (hg : ∀ c τ, g c = some τ → c < lo) :
    ∃h' g' V' M',C T X QB [p7 b 0,p3 (lo+3) 0,QN (es.getD e e0)] h=some (.tuple ⟨[]⟩,h')∧Rn g' h' b es (zU s (ZN xs ys i kk) (qz l e xs ys i kk) (xs.getD i 0)) M' k dn V'∧QF es (zU s (ZN xs ys i kk) (qz l e xs ys i kk) (xs.getD i 0)) M'∧(∀c,c+1<b→h'[c]?=h[c]?)∧h.length≤h'.length∧wT (zU s (ZN xs ys i kk) (qz l e xs ys i kk) (xs.getD i 0)) V'.bs∧Far V' h.length:=by
  suffices hx:∃w h',C T X QB [p7 b 0,p3 (lo+3) 0,QN (es.getD e e0)] h=some (w,h')∧w=.tuple ⟨[]⟩∧∃g' V' M',Rn g' h' b es (zU s (ZN xs ys i kk) (qz l e xs ys i kk) (xs.getD i 0)) M' k dn V'∧QF es (zU s (ZN xs ys i kk) (qz l e xs ys i kk) (xs.getD i 0)) M'∧(∀c,c+1<b→h'[c]?=h[c]?)∧h.length≤h'.length∧wT (zU s (ZN xs ys i kk) (qz l e xs ys i kk) (xs.getD i 0)) V'.bs∧Far V' h.length by
    obtain⟨w,h',c,rfl,g',V',M',q⟩:=hx;exact⟨h',g',V',M',c,q⟩
  have hu:=K.upOk;have nN:=K.nN;have h9:=hs.N;have hi:=Mt.hi;have hk:=Mt.hk;have Rg:=Mt.ring K;have nLs:=Mt.newLs D he;have mt':=zep K Rg m gk;have bs':=hbs.add K Rg m;obtain⟨hE,hEB,_⟩:=K.ed e he;obtain⟨ga,gb,_⟩:=wG gk he;obtain⟨q,hq⟩:∃q,q=es.getD e e0:=⟨_,rfl⟩;rw[←hq] at ga gb ⊢
  have lxs:=Js Mt.F Mt.wx (by rw[Mt.x0];omega)
  have lys:=Js Mt.F Mt.wy (by rw[Mt.y0];omega)
  have tops:∀ {zs:List Nat},qc l zs→l.lab (zs.getD 0 0)=1→∀j,j<zs.length→zs.getD j 0<s.N:=fun wz z0 j hj=>(Mt.F.top _ (by rw[ZA Mt.F wz z0 j hj];omega)).1
  obtain⟨vx,h1,cx,p1,ox⟩:=jL (X:=X) R K hs P D Mt.F Mt.wx (by rw[Mt.x0];omega)
  obtain⟨vy,h2,cy,p2,oy⟩:=jL (X:=X) (R.up p1) K hs (P.up p1) D Mt.F Mt.wy (by rw[Mt.y0];omega)
  have cta:=ZL (X:=X) R hu (v:=vA es e) (by omega)
  have ctb:=ZL (X:=X) (R.up p1) hu (v:=vB es e) (by omega)
  rw[hx0] at cta;rw[hy0] at ctb;have l1:=zy p1;have l2:=zy p2;have ph2:h <+: h2:=p1.trans p2;have hlo4:=zG P.blk;have R2:=R.up ph2;have P2:=P.up ph2;have ox2:=ox.up p2
  have u0:Un lo h2.length h2 h2 g:=⟨fun _ _ _=>rfl,fun c h1 _=>by
    cases q:g c with
    | none=>rfl
    | some τ=>have:=hg c τ q;omega,Nat.le_refl _⟩
  have rdx:∀ {gg:Ql} {hh:za},Un lo h2.length h2 hh gg→Rows hh 1 vx (zq (ZW xs)):=fun u=>(ox2.un u (by omega) (by omega)).rows
  have rdy:∀ {gg:Ql} {hh:za},Un lo h2.length h2 hh gg→Rows hh 1 vy (zq (ZW ys)):=fun u=>(oy.un u (by omega) (by omega)).rows
  have inx:∀ {c},c<xs.length→C T X ZH [vy,.int .i64 (xs.getD c 0:Nat)] h2=some (.bool (decide (xs.getD c 0∈ys)),h2):=fun {c} hc=>by
    have:=QK (X:=X) (n:=(xs.getD c 0:Nat)) oy.rows (by rw[qP];unfold lim;omega)
    rw[this]
    congr 3
    simp only[bO]
  refine wU kt rfl ?_;unfold wD QN ZT;simp only[ga,gb,cta,cx,ctb,cy,zj,zi,List.prefix_refl,List.cons_append,List.nil_append,go_sem];obtain⟨cE,hcE⟩:∃cE:List Value,cE=[.int .i64 (vA es e:Int),.int .i64 (vB es e:Int),.int .i64 q.w1,.int .i64 q.w2,.int .i64 q.w3]:=⟨_,rfl⟩
  refine zT i (fun c t' loc hh=>hh=h2∧t' 0=p7 b 0∧t' 1=p3 (lo+3) 0∧t' 6=vx∧t' 7=vy∧loc 5=some cE∧t' 8=.int .i64 (c:Nat)) ⟨rfl,rfl,rfl,rfl,rfl,by rw[hcE];rfl,rfl⟩ ?_
  rintro c t' loc hh hc ⟨ehh,t0,t1,t6,t7,l5,t8⟩;rw[ehh]
  clear ehh hh
  by_cases c1:c<i
  · have hn:¬xs.getD c 0∈ys:=Mt.first c c1
    have ci:=inx (c:=c) (by omega)
    rw[decide_eq_false hn] at ci
    obtain⟨a1,a2⟩:=vK (rdx u0) (i:=c) (by omega)
    have hw:IntKind.i64.wrap ((c:Int)+1)=((c+1:Nat):Int):=w64 (by omega) (by omega)
    simp only[t0,t1,t6,t7,t8,l5,a1,a2,ci,hw,go_sem];exact c1
  have hci:i=c:=by omega
  subst hci
  have hin:xs.getD i 0∈ys:=by rw[Mt.joint];exact zw hk
  have ci:=inx (c:=i) hi;rw[decide_eq_true hin] at ci;obtain⟨a1,a2⟩:=vK (rdx u0) (i:=i) hi
  have cp:=Kr (X:=X) (k:=kk) (n:=(xs.getD i 0:Nat)) oy.rows (by rw[qP];unfold lim;omega) (by rw[qP];exact hk) (by rw[GW hk,Mt.joint]) (fun q hq=>by rw[GW (by omega)];have:=hf q hq;omega)
  obtain⟨j0,hj0⟩:∃j0,j0=xs.getD i 0:=⟨_,rfl⟩;rw[←hj0] at a2 ci cp;obtain⟨hA,hhA⟩:∃hA:za,hA=h2++[⟨[.int .i64 (j0:Nat)],1,zf,true⟩]:=⟨_,rfl⟩;obtain⟨h3,hh3⟩:∃h3:za,h3=hA++[⟨[],2,zS,true⟩]:=⟨_,rfl⟩
  have pA:h2 <+: hA:=by rw[hhA];exact List.prefix_append _ _
  have p3':hA <+: h3:=by rw[hh3];exact List.prefix_append _ _
  have lA:hA.length=h2.length+1:=by rw[hhA];simp
  have l3:h3.length=h2.length+2:=by rw[hh3];simp[lA]
  have fA:Tn b (fun τ=>τ=.rg s.N∨τ=.lk s.N) g h2 (uk g h2 hA (.rg s.N)) hA:=(yW R2.ok R2.bl pA).mono fun _ q=>.inl q
  have f3:Tn b (fun τ=>τ=.rg s.N∨τ=.lk s.N) (uk g h2 hA (.rg s.N)) hA (uk (uk g h2 hA (.rg s.N)) hA h3 (.lk s.N)) h3:=(yW fA.ok (by have:=R2.bl;omega) p3').mono fun _ q=>.inr q
  have Hr:Has (uk (uk g h2 hA (.rg s.N)) hA h3 (.lk s.N)) h3 (.rg s.N) 1 zf (.slice (some ⟨h2.length,0,none⟩) 1 1) (zq (ZW [j0])):=by
    have o:Own hA h2.length hA.length 1 zf (.slice (some ⟨h2.length,0,none⟩) 1 1) (zq (ZW [j0])):=by
      rw[lA,hhA]
      exact Own.made (rws:=zq (ZW [j0])) (fun r hr=>by simp[zq,ZW] at hr;rw[hr];rfl)
    exact (Yf o).tn fA.ok (yW fA.ok (by have:=R2.bl;omega) p3') (by simp)
  have Hl:Has (uk (uk g h2 hA (.rg s.N)) hA h3 (.lk s.N)) h3 (.lk s.N) 2 zS (.slice (some ⟨hA.length,0,none⟩) 0 0) (([]:List Lk).map lkR):=by
    have o:Own h3 hA.length h3.length 2 zS (.slice (some ⟨hA.length,0,none⟩) 0 0) []:=by
      rw[hh3];exact Acc.new.own
    exact Yf o
  have F3:=fA.trans f3;have hb3:h3[b]?=h2[b]?:=ZE (pA.trans p3') R2.bl;obtain⟨rx,hrx⟩:∃rx,rx=(xs.take i).reverse:=⟨_,rfl⟩
  have rxl:rx.length=i:=by rw[hrx,List.length_reverse,List.length_take];omega
  have rxg:∀d,d<i→rx.getD d 0=xs.getD (i-1-d) 0:=fun d hd=>by
    rw[hrx,Gr (by rw[List.length_take];omega),List.length_take,Nat.min_eq_left (by omega),V9 (by omega)]
  have hw0:IntKind.i64.wrap ((i:Int)-1)=(i:Int)-1:=w64 (by omega) (by omega)
  simp only[t0,t1,t6,t7,t8,l5,hw0,a1,a2,ci,cp,hj0.symm,←hhA,←hh3,zj,zi,List.prefix_refl,List.cons_append,List.nil_append,go_sem];have u3:Un lo h2.length h2 h3 (uk (uk g h2 hA (.rg s.N)) hA h3 (.lk s.N)):=u0.tn F3 hlo
  have R0:∀ {gg:Ql} {hh:za},Tn b (fun τ=>τ=.rg s.N∨τ=.lk s.N) g h2 gg hh→hh[b]?=h2[b]?→Rn gg hh b es s M k dn V:=fun f hb=>R2.tnF f hb fun _ q=>q
  refine zT i (fun d t' loc hh=>t' 0=p7 b 0∧t' 1=p3 (lo+3) 0∧t' 6=vx∧t' 7=vy∧t' 8=.int .i64 (i:Nat)∧t' 9=.int .i64 (kk:Nat)∧loc 5=some cE∧t' 12=.int .i64 ((i:Int)-1-(d:Nat))∧∃g' rv lv,t' 10=rv∧t' 11=lv∧Tn b (fun τ=>τ=.rg s.N∨τ=.lk s.N) g h2 g' hh∧hh[b]?=h2[b]?∧Has g' hh (.rg s.N) 1 zf rv (zq (ZW (j0::rx.take d)))∧Has g' hh (.lk s.N) 2 zS lv (((rx.take d).map fun t=>A.getD t l0).map lkR)) ⟨rfl,rfl,rfl,rfl,rfl,rfl,by rw[←l5];rfl,by show Value.int .i64 ((i:Int)-1)=_;simp,_,_,_,rfl,rfl,F3,hb3,Hr,Hl⟩ ?_
  clear t0 t1 t6 t7 t8 l5 hc
  clear t' loc
  rintro d t' loc hh hd ⟨t0,t1,t6,t7,t8,t9,l5,t12,g',rv,lv,t10,t11,F,hb,Hr',Hl'⟩;have R':=R0 F hb
  by_cases d1:d<i
  · have hm:(i:Int)-1-(d:Nat)=((i-1-d:Nat):Int):=by omega
    have hw':IntKind.i64.wrap (((i-1-d:Nat):Int)-1)=(i:Int)-1-((d+1:Nat):Int):=by rw[w64 (by omega) (by omega)];omega
    have hge:(((i-1-d:Nat):Int)≥0):=by omega
    rw[hm] at t12;obtain⟨x,hx⟩:∃x,x=rx.getD d 0:=⟨_,rfl⟩
    have hxx:xs.getD (i-1-d) 0=x:=by rw[hx,rxg d d1]
    have hxN:x<s.N:=by rw[←hxx];exact tops Mt.wx Mt.x0 _ (by omega)
    have u:=u0.tn F hlo
    obtain⟨b1,b2⟩:=vK (rdx u) (i:=i-1-d) (by omega)
    rw[hxx] at b2
    obtain⟨rv4,h4,g4,c4,F4,hb4,Hr4,_⟩:=Hr'.push (cs:=[.int .i64 (x:Nat)]) F.ok R'.bl rfl (by rw[z9,qP,List.length_cons,List.length_take];unfold lim;omega)
    have F4':=F.trans (F4.mono (U:=fun τ=>τ=.rg s.N∨τ=.lk s.N) fun _ q=>.inl q)
    have u4:=u0.tn F4' hlo
    have Hl4:=Hl'.tn F.ok F4 (by simp)
    obtain⟨b3,b4⟩:=vK (rdx u4) (i:=i-1-d) (by omega)
    rw[hxx] at b4
    have P4:=P2.un u4 (by omega)
    obtain⟨q1,q2,q3⟩:=P4.ael hxN
    obtain⟨lv5,h5,g5,c5,F5,hb5,Hl5,_⟩:=Hl4.push (cs:=lkR (A.getD x l0)) F4'.ok (by have:=F4.len;have:=R'.bl;omega) rfl (by rw[List.length_map,List.length_map,List.length_take];unfold lim;omega)
    have F5':=F4'.trans (F5.mono (U:=fun τ=>τ=.rg s.N∨τ=.lk s.N) fun _ q=>.inr q)
    have Hr5:=Hr4.tn F4'.ok F5 (by simp)
    have htk:rx.take (d+1)=rx.take d++[x]:=by rw[hx];exact Zj (d:=0) (by omega)
    unfold lkR at c5 q3;simp only[t0,t1,t6,t7,t8,t9,t10,t11,t12,l5,hge,b1,b2,b3,b4,c4,P4.chk,P4.fa,P4.ld1,q1,q3,c5,hw',Nat.zero_add,zj,zi,List.prefix_refl,go_sem]
    refine⟨d1,g5,rv4,lv5,rfl,rfl,F5',by rw[hb5,hb4,hb],?_,?_⟩
    · rw[htk,←List.cons_append,bM]
      exact Hr5
    · rw[htk,List.map_append,List.map_append]
      exact Hl5
  have hdi:d=i:=by omega
  rw[hdi] at t12 Hr' Hl';rw[hdi]
  clear hd d1
  have hge:¬((i:Int)-1-(i:Nat)≥0):=by omega
  have htk:rx.take i=rx:=List.take_of_length_le (by omega)
  rw[htk] at Hr' Hl'
  obtain⟨lv4,h4,g4,c4,F4,hb4,Hl4,fz⟩:=Hl'.push (cs:=lkR ⟨vA es e,vB es e⟩) F.ok R'.bl rfl (by rw[List.length_map,List.length_map];unfold lim;omega)
  have F4':=F.trans (F4.mono (U:=fun τ=>τ=.rg s.N∨τ=.lk s.N) fun _ q=>.inr q)
  have Hr4:=Hr'.tn F.ok F4 (by simp)
  unfold lkR at c4
  have Hl4':Has g4 h4 (.lk s.N) 2 zS lv4 (((rx.map fun t=>A.getD t l0)++⟨vA es e,vB es e⟩::(ys.take 0).map fun t=>(A.getD t l0).rev).map lkR):=by
    rw[List.map_append];exact Hl4
  simp only[t0,t1,t6,t7,t8,t9,t10,t11,t12,l5,hcE,hge,c4,Nat.zero_add,zj,zi,List.prefix_refl,go_sem]
  refine zT kk (fun d t' loc hh=>t' 0=p7 b 0∧t' 1=p3 (lo+3) 0∧t' 6=vx∧t' 7=vy∧t' 8=.int .i64 (i:Nat)∧t' 9=.int .i64 (kk:Nat)∧t' 13=.int .i64 (d:Nat)∧∃g' rv lv,t' 10=rv∧t' 11=lv∧Tn b (fun τ=>τ=.rg s.N∨τ=.lk s.N) g h2 g' hh∧hh[b]?=h2[b]?∧Has g' hh (.rg s.N) 1 zf rv (zq (ZW (j0::(rx++ys.take d))))∧Has g' hh (.lk s.N) 2 zS lv (((rx.map fun t=>A.getD t l0)++⟨vA es e,vB es e⟩::(ys.take d).map fun t=>(A.getD t l0).rev).map lkR)) ⟨rfl,rfl,rfl,rfl,rfl,rfl,rfl,_,_,_,rfl,rfl,F4',by rw[hb4,hb],by rw[List.take_zero,List.append_nil];exact Hr4,Hl4'⟩ ?_
  clear fz Hl4' Hr4 F4' F4 Hl4 c4 hb4 R' Hr' Hl' hb F t0 t1 t6 t7 t8 t9 t10 t11 t12 l5
  clear lv4 h4 g4 t' loc hh g' rv lv
  rintro d t' loc hh hd ⟨t0,t1,t6,t7,t8,t9,t13,g',rv,lv,t10,t11,F,hb,Hr',Hl'⟩;have R':=R0 F hb;simp only[t9,t13,go_sem]
  refine zt (by simp only[go_sem];rfl) ?_ ?_<;>intro hc
  · have d1:d<kk:=by omega
    have hw:IntKind.i64.wrap ((d:Int)+1)=((d+1:Nat):Int):=w64 (by omega) (by omega)
    obtain⟨x,hx⟩:∃x,x=ys.getD d 0:=⟨_,rfl⟩
    have hxN:x<s.N:=by rw[hx];exact tops Mt.wy Mt.y0 _ (by omega)
    have u:=u0.tn F hlo
    obtain⟨b1,b2⟩:=vK (rdy u) (i:=d) (by omega)
    rw[←hx] at b2
    obtain⟨rv4,h4,g4,c4,F4,hb4,Hr4,_⟩:=Hr'.push (cs:=[.int .i64 (x:Nat)]) F.ok R'.bl rfl (by rw[z9,qP,List.length_cons,List.length_append,List.length_take];unfold lim;omega)
    have F4':=F.trans (F4.mono (U:=fun τ=>τ=.rg s.N∨τ=.lk s.N) fun _ q=>.inl q)
    have u4:=u0.tn F4' hlo
    have Hl4:=Hl'.tn F.ok F4 (by simp)
    obtain⟨b3,b4⟩:=vK (rdy u4) (i:=d) (by omega)
    rw[←hx] at b4
    have P4:=P2.un u4 (by omega)
    obtain⟨q1,q2,q3⟩:=P4.ael hxN
    obtain⟨lv5,h5,g5,c5,F5,hb5,Hl5,_⟩:=Hl4.push (cs:=lkR (A.getD x l0).rev) F4'.ok (by have:=F4.len;have:=R'.bl;omega) rfl (by rw[List.length_map,List.length_append,List.length_map,List.length_cons,List.length_map,List.length_take];unfold lim;omega)
    have F5':=F4'.trans (F5.mono (U:=fun τ=>τ=.rg s.N∨τ=.lk s.N) fun _ q=>.inr q)
    have Hr5:=Hr4.tn F4'.ok F5 (by simp)
    have htk2:ys.take (d+1)=ys.take d++[x]:=by rw[hx];exact Zj (d:=0) (by omega)
    unfold lkR at c5 q3;unfold Lk.rev at c5;simp only[t0,t1,t6,t7,t8,t9,t10,t11,t13,b1,b2,b3,b4,c4,P4.chk,P4.fa,P4.ld1,q1,q3,c5,hw,Nat.zero_add,zj,zi,List.prefix_refl,go_sem]
    refine⟨d1,g5,rv4,lv5,rfl,rfl,F5',by rw[hb5,hb4,hb],?_,?_⟩
    · rw[htk2,←List.append_assoc,←List.cons_append,bM]
      exact Hr5
    · rw[htk2]
      simp only[List.map_append,List.map_cons,List.map_nil,List.append_assoc,List.cons_append] at Hl5 ⊢;exact Hl5
  have hdi:d=kk:=by omega
  rw[hdi] at Hr' Hl';obtain⟨ms,hms⟩:∃ms,ms=ZN xs ys i kk:=⟨_,rfl⟩
  have hmsr:j0::(rx++ys.take kk)=ms:=by rw[hms,hj0,hrx];rfl
  have hnl:(rx.map fun t=>A.getD t l0)++⟨vA es e,vB es e⟩::(ys.take kk).map (fun t=>(A.getD t l0).rev)=newL es e A xs ys i kk:=by rw[hrx];rfl
  rw[hmsr] at Hr';rw[hnl] at Hl';rw[←hms] at Rg mt' bs' ⊢
  have msl:ms.length≤801:=by rw[←hmsr,List.length_cons,List.length_append,List.length_take];omega
  have msN:∀t∈ms,t<s.N:=fun t ht=>(Rg.top t ht).1
  have hM:=CA K.ok0 m;have hMl:=m.le;obtain⟨h6,hh6⟩:∃h6,h6=hh:=⟨_,rfl⟩;rw[←hh6] at R' Hr' Hl' F hb
  have low6:∀c,c+1<b→h6[c]?=h[c]?:=fun c hc=>by
    rw[F.low R2.ok R2.bl c hc]
    exact ZE ph2 (by have:=R.bl;omega)
  have len6:h.length≤h6.length:=Nat.le_trans (zy ph2) F.len;simp only[t0,t1,t6,t7,t8,t9,t10,t11,t13,zj,zi,go_sem];rw[←hh6]
  clear hd hdi hc
  refine zT M.length (fun n t' loc hh=>t' 0=p7 b 0∧t' 6=vx∧t' 8=.int .i64 (i:Nat)∧t' 10=rv∧t' 11=lv∧t' 16=.int .i64 (n:Nat)∧h6 <+: hh∧∃v,t' 15=v∧Own hh h6.length hh.length 2 zS v (((M.take n).filter (J4 s ms)).map lkR)∧∃c m,h6.length≤c∧v=.slice (some ⟨c,0,none⟩) m m) ⟨rfl,rfl,rfl,rfl,rfl,rfl,List.prefix_append _ _,.slice (some ⟨h6.length,0,none⟩) 0 0,rfl,Acc.new.own,h6.length,0,Nat.le_refl _,rfl⟩ ?_
  clear t0 t1 t6 t7 t8 t9 t10 t11 t13
  clear t' loc hh6
  clear hh d
  rintro n t' loc hh hn ⟨t0,t6,t8,t10,t11,t16,hp,v,t15,o,hfar⟩;have R7:=R'.up hp;simp only[t0,t16,R7.chk,R7.fa,R7.ld4,R7.mln,Nat.zero_add,go_sem]
  refine zt (by simp only[go_sem];rfl) ?_ ?_<;>intro hc
  · have hi1:n<M.length:=by omega
    have hw:IntKind.i64.wrap ((n:Int)+1)=((n+1:Nat):Int):=w64 (by omega) (by omega)
    obtain⟨m1,m2,m3⟩:=R7.mia hi1;have m4:=R7.m0 hi1;have m5:=R7.m1 hi1;obtain⟨hx1,hx2⟩:=hM _ (zE (d:=l0) hi1);have htake:M.take (n+1)=M.take n++[M.getD n l0]:=Zj (d:=l0) hi1;obtain⟨x,hx⟩:∃x,x=M.getD n l0:=⟨_,rfl⟩;rw[←hx] at m3 m4 m5 hx1 hx2 htake;have c1:=ZL (X:=X) R7 hu hx1;have c2:=ZL (X:=X) R7 hu hx2
    have hin:∀t:Nat,C T X ZH [rv,.int .i64 (t:Nat)] hh=some (.bool (decide (t∈ms)),hh):=fun t=>by
      have:=QK (X:=X) (n:=(t:Nat)) (Hr'.up hp).rows (by rw[qP];unfold lim;omega)
      rw[this]
      congr 3
      simp only[bO]
    have i1:=hin (top s x.f);have i2:=hin (top s x.t)
    have hlen:(((M.take n).filter (J4 s ms)).map lkR).length≤400:=by
      rw[List.length_map]
      exact Nat.le_trans (List.length_filter_le _ _) (by rw[List.length_take];omega)
    by_cases d1:top s x.f∈ms∧top s x.t∈ms
    · rw[decide_eq_true d1.1] at i1
      rw[decide_eq_true d1.2] at i2;simp only[t0,t6,t8,t10,t11,t15,t16,R7.chk,R7.fa,R7.ld4,m1,m2,m4,m5,c1,c2,i1,i2,hw,Nat.zero_add,List.prefix_refl,go_sem]
      have no:(M.take (n+1)).filter (J4 s ms)=(M.take n).filter (J4 s ms):=by
        rw[htake,List.filter_append]
        have:J4 s ms x=false:=decide_eq_false fun q=>q d1
        simp[this]
      exact⟨hi1,hp,v,rfl,by rw[no];exact o,hfar⟩
    · obtain⟨v2,h2',c3,p1',p2',o2⟩:=o.push1 (zy hp) (lkR x) rfl (by unfold lim;omega)
      rw[Nat.max_eq_right p1'] at o2
      have yes:((M.take (n+1)).filter (J4 s ms)).map lkR=((M.take n).filter (J4 s ms)).map lkR++[lkR x]:=by
        rw[htake,List.filter_append];have:J4 s ms x=true:=decide_eq_true d1;simp[this]
      have fin:∃c m,h6.length≤c∧v2=.slice (some ⟨c,0,none⟩) m m:=by
        rcases o2.is with⟨_,q⟩ | ⟨c,l1,_,l3,_⟩
        · simp at q
        · exact⟨c,_,l1,l3⟩
      unfold lkR at c3 m3
      by_cases d2:top s x.f∈ms
      · have d3:¬top s x.t∈ms:=fun q=>d1 ⟨d2,q⟩
        rw[decide_eq_true d2] at i1;rw[decide_eq_false d3] at i2;simp only[t0,t6,t8,t10,t11,t15,t16,R7.chk,R7.fa,R7.ld4,m1,m2,m3,m4,m5,c1,c2,i1,i2,c3,hw,Nat.zero_add,zj,zi,List.prefix_refl,go_sem]
        exact⟨hi1,QY hp (Nat.le_refl _) p1' p2',v2,rfl,by rw[yes];exact o2,fin⟩
      · rw[decide_eq_false d2] at i1
        simp only[t0,t6,t8,t10,t11,t15,t16,R7.chk,R7.fa,R7.ld4,m1,m2,m3,m4,m5,c1,c2,i1,c3,hw,Nat.zero_add,zj,zi,List.prefix_refl,go_sem]
        exact⟨hi1,QY hp (Nat.le_refl _) p1' p2',v2,rfl,by rw[yes];exact o2,fin⟩
  have hnM:n=M.length:=by omega
  rw[hnM,List.take_length] at o
  clear hnM hn hc
  have u6:=u0.tn F hlo
  obtain⟨b1,b2⟩:=vK (((ox2.un u6 (by omega) (by omega)).rows).up hp) (i:=i) hi
  rw[←hj0] at b2
  have hj0N:j0<s.N:=by rw[hj0];exact tops Mt.wx Mt.x0 _ hi
  have cb:=X2 (X:=X) (i:=j0) R7 hu hM hMl hj0N;obtain⟨bv,hbv⟩:∃bv,bv=vT s V.bs M j0:=⟨_,rfl⟩;rw[←hbv] at cb;rw[←hj0,←hbv] at bs';obtain⟨h8,e1,e2,e3,R8⟩:=R'.newM (yW (τ:=.m) R'.ok R'.bl hp) (ZE hp R'.bl) (Yf o)
  have Hr8:=Hr'.tn R'.ok e2 (by simp)
  have Hl8:=Hl'.tn R'.ok e2 (by simp)
  obtain⟨nv,h9',h10,g10,w1,w2,w3,w4,f10,R10⟩:=R8.pushN (u:=bv) (by unfold lim;omega) Hr8 Hl8 nLs
  unfold ndR at w1;have rvc:=Hr'.rows.cells;have lvc:=Hl'.rows.cells;simp only[t0,t6,t8,t10,t11,t15,t16,b1,b2,cb,R7.chk,R7.fa,R7.ld4,e1,o.cells,R8.chk,R8.fa,R8.ld3,w1,xe w2,bZ w2,w3,w4,rvc,lvc,Nat.zero_add,zj,zi,List.prefix_refl,List.cons_append,List.nil_append,go_sem];obtain⟨ls,hls⟩:∃ls,ls=qz l e xs ys i kk:=⟨_,rfl⟩;rw[←hls] at R10 Rg mt' bs' nLs ⊢;rw[←hj0] at mt'
  refine zT ms.length (fun n t' loc hh=>t' 0=p7 b 0∧t' 10=rv∧t' 18=.int .i64 (n:Nat)∧Tn b (·=.n) g10 h10 g10 hh∧hh.length=h10.length∧Rn g10 hh b es (kR s ms ls n) (M.filter (J4 s ms)) k dn (RV.more { V with mv:=v } s.N nv rv lv bv)) ⟨rfl,rfl,rfl,Tn.refl f10.ok,rfl,R10⟩ ?_
  clear t0 t6 t8 t10 t11 t15 t16
  clear t' loc n
  rintro n t' loc hh hn ⟨t0,t10,t18,f11,len11,R11⟩
  have Hr11:Has g10 hh (.rg s.N) 1 zf rv (zq (ZW ms)):=by
    have:=R11.rg s.N (Nat.lt_succ_self _);have ea:(RV.more { V with mv:=v } s.N nv rv lv bv).rv s.N=rv:=if_pos rfl;have eb:(kR s ms ls n).mem s.N=ms:=if_pos rfl;rw[ea,eb] at this;exact this
  have aln:=Fk Hr11.rows;simp only[t10,t18,aln,go_sem]
  refine zt (by simp only[go_sem];rfl) ?_ ?_<;>intro hc
  · have hn1:n<ms.length:=by omega
    have hw:IntKind.i64.wrap ((n:Int)+1)=((n+1:Nat):Int):=w64 (by omega) (by omega)
    obtain⟨c1,c2⟩:=vK Hr11.rows hn1;obtain⟨x,hx⟩:∃x,x=ms.getD n 0:=⟨_,rfl⟩
    have hxm:x∈ms:=by rw[hx];exact zw hn1
    have hxN:x<s.N+1:=by have:=msN x hxm;omega
    rw[←hx] at c2;have nln:=R11.nln;have hNN:((kR s ms ls n).N:Int)=((s.N+1:Nat):Int):=rfl;rw[hNN] at nln
    have hw2:IntKind.i64.wrap (((s.N+1:Nat):Int)-1)=(s.N:Nat):=by rw[w64 (by omega) (by omega)];omega
    have ni:=R11.nia (i:=x) hxN;have nf:=R11.nfa (i:=x) hxN;obtain⟨h12,d1,d2,d3,d4,d5⟩:=R11.stUp (i:=x) hxN (some s.N);have d1':stC hh (zz (RV.more { V with mv:=v } s.N nv rv lv bv).nv 6 x 4) [.int .i64 (s.N:Nat)]=some h12:=d1;simp only[t0,t10,t18,R11.chk,R11.fa,R11.ld3,c1,c2,nln,hw2,ni,nf,d1',hw,Nat.zero_add,List.prefix_refl,go_sem]
    refine⟨hn1,f11.trans d2,by rw[d3,len11],d5.congr rfl rfl (fun _ _=>rfl) fun j hj=>⟨rfl,rfl,?_,rfl,rfl,rfl⟩⟩
    show (if j∈ms.take (n+1) then some s.N else if j=s.N then none else s.up j)=if j=x then some s.N else (if j∈ms.take n then some s.N else if j=s.N then none else s.up j);rw[Zj (d:=0) hn1,←hx]
    by_cases z:j=x
    · rw[if_pos (by simp[z]),if_pos z]
    · rw[if_neg z]
      by_cases z2:j∈ms.take n
      · rw[if_pos (by simp[z2]),if_pos z2]
      · rw[if_neg (by simp[z,z2]),if_neg z2]
  · have hnn:n=ms.length:=by omega
    rw[hnn] at R11
    have far11:Far (RV.more { V with mv:=v } s.N nv rv lv bv) h.length:=by
      obtain⟨c,m',q1,q2⟩:=hfar
      exact⟨c,m',by omega,q2⟩
    have RF:Rn g10 hh b es (zU s ms ls j0) (M.filter (J4 s ms)) k dn (RV.more { V with mv:=v } s.N nv rv lv bv):=R11.congr' rfl rfl (fun _ _=>rfl) fun j hj=>by
      refine⟨rfl,?_,rfl,rfl,rfl⟩
      · show (if j∈ms then some s.N else if j=s.N then none else s.up j)=(if j∈ms.take ms.length then some s.N else if j=s.N then none else s.up j)
        rw[List.take_length]
    simp only[t0,t10,t18,go_sem];rw[Uj R.bl (R.diff RF far11)]
    refine⟨rfl,_,_,_,RF,mt',fun c hc=>?_,?_,bs',far11⟩
    · rw[f11.low R10.ok R10.bl c hc,f10.low R8.ok R8.bl c hc,e2.low R'.ok R'.bl c hc]
      exact low6 c hc
    · exact Nat.le_trans len6 (Nat.le_trans e2.len (Nat.le_trans f10.len f11.len))
end
structure UF (es:List E)(s:Sv)(l:Lb)(y d:Int)(j p:Nat):Prop where
  d0:0≤d
  le:d≤y
  ee:∀e,e<j→top s (vA es e)≠top s (vB es e)→l.lab (top s (vA es e))=1→l.lab (top s (vB es e))=1→2*d≤slk es s e
  eb:∀e,e<j→top s (vA es e)≠top s (vB es e)→(l.lab (top s (vA es e))=1∧l.lab (top s (vB es e))=0)∨(l.lab (top s (vA es e))=0∧l.lab (top s (vB es e))=1)→d≤slk es s e
  oz:∀q,zc s q→s.n≤q→q<p→l.lab q=2→2*d≤s.z q
  by_:d=y∨(∃e,e<j∧top s (vA es e)≠top s (vB es e)∧((l.lab (top s (vA es e))=1∧l.lab (top s (vB es e))=1∧slk es s e=2*d)∨(((l.lab (top s (vA es e))=1∧l.lab (top s (vB es e))=0)∨(l.lab (top s (vA es e))=0∧l.lab (top s (vB es e))=1))∧slk es s e=d)))∨∃q,q<p∧zc s q∧s.n≤q∧l.lab q=2∧s.z q=2*d
theorem jN {d q:Int}(hd:0≤d):(ut d q=d∧d≤q)∨(ut d q=q∧q<d):=by
  unfold ut
  split<;>omega
section
variable {es:List E}{s:Sv}{l:Lb}{y d q:Int}{j p:Nat}
theorem UF.skip (S:UF es s l y d j p)(h:¬(top s (vA es j)≠top s (vB es j)∧((l.lab (top s (vA es j))=1∧l.lab (top s (vB es j))=1)∨(l.lab (top s (vA es j))=1∧l.lab (top s (vB es j))=0)∨(l.lab (top s (vA es j))=0∧l.lab (top s (vB es j))=1)))):UF es s l y d (j+1) p:=by
  refine⟨S.d0,S.le,fun e he h1 h2 h3=>?_,fun e he h1 h2=>?_,S.oz,S.by_.imp id fun q=>q.imp (fun⟨e,h1,h2⟩=>⟨e,by omega,h2⟩) id⟩
  · by_cases c:e=j
    · subst c;exact absurd ⟨h1,.inl ⟨h2,h3⟩⟩ h
    · exact S.ee e (by omega) h1 h2 h3
  · by_cases c:e=j
    · subst c;exact absurd ⟨h1,.inr h2⟩ h
    · exact S.eb e (by omega) h1 h2
theorem UF.nee (S:UF es s l y d j p)(h1:top s (vA es j)≠top s (vB es j))(h2:l.lab (top s (vA es j))=1)(h3:l.lab (top s (vB es j))=1)(hq:slk es s j=2*q)(q0:0≤q):UF es s l y (ut d q) (j+1) p:=by
  have d0:=S.d0;have hle:=S.le;rcases jN (q:=q) d0 with⟨e,k⟩ | ⟨e,k⟩
  · rw[e]
    refine⟨d0,hle,fun e he a1 a2 a3=>?_,fun e he a1 a2=>?_,S.oz,S.by_.imp id fun q=>q.imp (fun⟨e,h1,h2⟩=>⟨e,by omega,h2⟩) id⟩
    · by_cases c:e=j
      · subst c;omega
      · exact S.ee e (by omega) a1 a2 a3
    · by_cases c:e=j
      · subst c;omega
      · exact S.eb e (by omega) a1 a2
  · rw[e]
    refine⟨q0,by omega,fun e he a1 a2 a3=>?_,fun e he a1 a2=>?_,fun p' a1 a2 a3 a4=>?_,.inr (.inl ⟨j,by omega,h1,.inl ⟨h2,h3,hq⟩⟩)⟩
    · by_cases c:e=j
      · subst c;omega
      · have:=S.ee e (by omega) a1 a2 a3;omega
    · by_cases c:e=j
      · subst c;omega
      · have:=S.eb e (by omega) a1 a2;omega
    · have:=S.oz p' a1 a2 a3 a4;omega
theorem UF.neb (S:UF es s l y d j p)(h1:top s (vA es j)≠top s (vB es j))(h2:(l.lab (top s (vA es j))=1∧l.lab (top s (vB es j))=0)∨(l.lab (top s (vA es j))=0∧l.lab (top s (vB es j))=1))(hq:slk es s j=q)(q0:0≤q):UF es s l y (ut d q) (j+1) p:=by
  have d0:=S.d0;have hle:=S.le;rcases jN (q:=q) d0 with⟨e,k⟩ | ⟨e,k⟩
  · rw[e]
    refine⟨d0,hle,fun e he a1 a2 a3=>?_,fun e he a1 a2=>?_,S.oz,S.by_.imp id fun q=>q.imp (fun⟨e,h1,h2⟩=>⟨e,by omega,h2⟩) id⟩
    · by_cases c:e=j
      · subst c;omega
      · exact S.ee e (by omega) a1 a2 a3
    · by_cases c:e=j
      · subst c;omega
      · exact S.eb e (by omega) a1 a2
  · rw[e]
    refine⟨q0,by omega,fun e he a1 a2 a3=>?_,fun e he a1 a2=>?_,fun p' a1 a2 a3 a4=>?_,.inr (.inl ⟨j,by omega,h1,.inr ⟨h2,hq⟩⟩)⟩
    · by_cases c:e=j
      · subst c;omega
      · have:=S.ee e (by omega) a1 a2 a3;omega
    · by_cases c:e=j
      · subst c;omega
      · have:=S.eb e (by omega) a1 a2;omega
    · have:=S.oz p' a1 a2 a3 a4;omega
theorem UF.zskip (S:UF es s l y d j p)(h:¬(zc s p∧l.lab p=2)):UF es s l y d j (p+1):=by
  refine⟨S.d0,S.le,S.ee,S.eb,fun q a1 a2 a3 a4=>?_,S.by_.imp id fun q=>q.imp id (fun⟨e,h1,h2⟩=>⟨e,by omega,h2⟩)⟩
  by_cases c:q=p
  · subst c;exact absurd ⟨a1,a4⟩ h
  · exact S.oz q a1 a2 (by omega) a4
theorem UF.nz (S:UF es s l y d j p)(h1:zc s p)(h2:s.n≤p)(h3:l.lab p=2)(hq:s.z p=2*q)(q0:0≤q):UF es s l y (ut d q) j (p+1):=by
  have d0:=S.d0;have hle:=S.le;rcases jN (q:=q) d0 with⟨e,k⟩ | ⟨e,k⟩
  · rw[e]
    refine⟨d0,hle,S.ee,S.eb,fun r a1 a2 a3 a4=>?_,S.by_.imp id fun q=>q.imp id (fun⟨e,h1,h2⟩=>⟨e,by omega,h2⟩)⟩
    by_cases c:r=p
    · subst c;omega
    · exact S.oz r a1 a2 (by omega) a4
  · rw[e]
    refine⟨q0,by omega,fun e he a1 a2 a3=>?_,fun e he a1 a2=>?_,fun r a1 a2 a3 a4=>?_,.inr (.inr ⟨p,by omega,h1,h2,h3,hq⟩)⟩
    · have:=S.ee e he a1 a2 a3;omega
    · have:=S.eb e he a1 a2;omega
    · by_cases c:r=p
      · subst c;omega
      · have:=S.oz r a1 a2 (by omega) a4;omega
theorem UF.least (S:UF es s l y d es.length s.N)(h1:∃v,v<s.n∧l.lab (top s v)=1∧s.y v=y)(h2:∀v,v<s.n→l.lab (top s v)=1→y≤s.y v):jp es s l d:=by
  have hle:=S.le
  refine⟨⟨S.d0,fun e he=>S.ee e he,fun e he=>S.eb e he,fun p hp hn=>S.oz p hp hn hp.1⟩,fun v hv h=>?_,?_⟩
  · have:=h2 v hv h;omega
  · rcases S.by_ with e | ⟨e,e1,e2⟩ | ⟨p,e1,e2,e3,e4,e5⟩
    · rw[e];exact .inl h1
    · exact .inr (.inl ⟨e,e1,e2⟩)
    · exact .inr (.inr ⟨p,e2,e3,e4,e5⟩)
def Ev (s:Sv)(l:Lb)(j:Nat)(y:Int):Prop:=(y=-1∧∀v,v<j→l.lab (top s v)≠1)∨(0≤y∧(∃v,v<j∧l.lab (top s v)=1∧s.y v=y)∧∀v,v<j→l.lab (top s v)=1→y≤s.y v)
theorem Ev.skip (h:Ev s l j y)(hn:l.lab (top s j)≠1):Ev s l (j+1) y:=by
  rcases h with⟨h1,h2⟩ | ⟨h1,⟨v,h2,h3⟩,h4⟩
  · refine .inl ⟨h1,fun v hv=>?_⟩
    by_cases c:v=j
    · rw[c];exact hn
    · exact h2 v (by omega)
  · refine .inr ⟨h1,⟨v,by omega,h3⟩,fun u hu hl=>?_⟩
    by_cases c:u=j
    · rw[c] at hl;exact absurd hl hn
    · exact h4 u (by omega) hl
theorem Ev.next (h:Ev s l j y)(hn:l.lab (top s j)=1)(h0:0≤s.y j):Ev s l (j+1) (ut y (s.y j)):=by
  rcases h with⟨h1,h2⟩ | ⟨h1,⟨v,h2,h3⟩,h4⟩
  · have e:ut y (s.y j)=s.y j:=by unfold ut;rw[if_pos (.inl (by omega))]
    rw[e]
    refine .inr ⟨h0,⟨j,by omega,hn,rfl⟩,fun u hu hl=>?_⟩
    by_cases c:u=j
    · rw[c];exact Int.le_refl _
    · exact absurd hl (h2 u (by omega))
  · rcases jN (q:=s.y j) h1 with⟨e,k⟩ | ⟨e,k⟩
    · rw[e]
      refine .inr ⟨h1,⟨v,by omega,h3⟩,fun u hu hl=>?_⟩
      by_cases c:u=j
      · rw[c];exact k
      · exact h4 u (by omega) hl
    · rw[e]
      refine .inr ⟨h0,⟨j,by omega,hn,rfl⟩,fun u hu hl=>?_⟩
      by_cases c:u=j
      · rw[c];exact Int.le_refl _
      · have:=h4 u (by omega) hl;omega
end
section
variable {X:Zb}{g:Ql}{h:za}{b k lo:Nat}{es:List E}{s:Sv}{l:Lb}{rk:Nat→Nat}{M:List Lk}{dn:Bool}{V:RV}{size Y:Int}{L Q:List Nat}{A:List Lk}
set_option maxRecDepth 100000 in
theorem dE (R : Rn g h b es s M k dn V) (K : Ok es s) (hs : Sm s) (gk : GOk size es) (P : Tp h lo s.N L A Q) (D : Tl es s l L A Q) (F : Fo es s l rk) (Lo0 : Lo s Y) (he9 : es.length ≤ 1000) :
    ∃d y:Int,C T X wj [p7 b 0,p3 (lo+3) 0] h=some (.tuple ⟨[.int .i64 d,.int .i64 y]⟩,h)∧((d=-1∧∀v,v<s.n→l.lab (top s v)≠1)∨(jp es s l d∧d≤y∧(∃v,v<s.n∧l.lab (top s v)=1∧s.y v=y)∧∀v,v<s.n→l.lab (top s v)=1→y≤s.y v)):=by
  suffices hx:∃w hh,C T X wj [p7 b 0,p3 (lo+3) 0] h=some (w,hh)∧hh=h∧∃d y:Int,w=.tuple ⟨[.int .i64 d,.int .i64 y]⟩∧((d=-1∧∀v,v<s.n→l.lab (top s v)≠1)∨(jp es s l d∧d≤y∧(∃v,v<s.n∧l.lab (top s v)=1∧s.y v=y)∧∀v,v<s.n→l.lab (top s v)=1→y≤s.y v)) by
    obtain⟨w,hh,c,rfl,d,y,rfl,q⟩:=hx;exact⟨d,y,c,q⟩
  have hu:=K.upOk;have nN:=K.nN;have h9:=hs.N;have n9:=hs.n
  have y0:∀v,v<s.n→0≤s.y v:=fun v hv=>by have:=Lo0.low v hv;have:=Lo0.y0;omega
  refine wU xP rfl ?_;unfold ve;simp only[R.chk,R.fa,R.ld0,Nat.zero_add,go_sem];have n0:((0:Nat):Int)=0:=rfl;have n1:((1:Nat):Int)=1:=rfl;have n2:((2:Nat):Int)=2:=rfl
  refine zT s.n (fun j t' loc hh=>hh=h∧t' 0=p7 b 0∧t' 1=p3 (lo+3) 0∧t' 8=.int .i64 (j:Nat)∧∃y:Int,t' 7=.int .i64 y∧Ev s l j y) ⟨rfl,rfl,rfl,rfl,-1,rfl,.inl ⟨rfl,fun v hv=>by omega⟩⟩ ?_
  rintro j t' loc hh hj ⟨rfl,t0,t1,t8,y,t7,ev⟩;simp only[t0,t8,R.chk,R.fa,R.ld0,Nat.zero_add,go_sem]
  refine zt (by simp only[go_sem];rfl) ?_ ?_<;>intro hc
  · have hj1:j<s.n:=by omega
    have hw:IntKind.i64.wrap ((j:Int)+1)=((j+1:Nat):Int):=w64 (by omega) (by omega)
    have ct:=ZL (X:=X) R hu (v:=j) (by omega)
    obtain⟨a,ha⟩:∃a,a=top s j:=⟨_,rfl⟩;rw[←ha] at ct
    have aN:a<s.N:=by rw[ha];exact Uc hu (by omega)
    obtain⟨x1,x2⟩:=P.lel aN;rw[D.lab a aN] at x2;obtain⟨b1,b2⟩:=R.yia hj1;have cl:=uo (X:=X) (h:=hh) (a:=y) (c:=s.y j)
    by_cases c1:l.lab a=1
    · rw[c1,n1] at x2
      simp only[t0,t1,t7,t8,ct,x1,x2,b1,b2,cl,P.chk,P.fa,P.ld0,R.chk,R.fa,R.ld2,hw,Nat.zero_add,List.prefix_refl,go_sem]
      exact⟨hj1,_,rfl,ev.next (by rw[←ha];exact c1) (y0 j hj1)⟩
    · have c2:¬((l.lab a:Nat):Int)=1:=by omega
      simp only[t0,t1,t7,t8,ct,x1,x2,c2,P.chk,P.fa,P.ld0,R.chk,R.fa,R.ld2,hw,Nat.zero_add,List.prefix_refl,go_sem]
      exact⟨hj1,y,rfl,ev.skip (by rw[←ha];exact c1)⟩
  have hjn:j=s.n:=by omega
  rw[hjn] at ev;rcases ev with⟨rfl,e2⟩ | ⟨e1,e2,e3⟩
  · have hn:((-1:Int)<0):=by omega
    simp only[t0,t1,t7,t8,hn,go_sem];exact⟨_,_,rfl,.inl ⟨rfl,e2⟩⟩
  have hn:¬(y<0):=by omega
  simp only[t0,t1,t7,t8,hn,go_sem]
  clear hc hj hjn t0 t1 t8 t7 hn
  refine zT es.length (fun i t' loc h'=>h'=hh∧t' 0=p7 b 0∧t' 1=p3 (lo+3) 0∧t' 7=.int .i64 y∧t' 9=.int .i64 (i:Nat)∧∃d:Int,t' 6=.int .i64 d∧UF es s l y d i s.n) ⟨rfl,rfl,rfl,rfl,rfl,y,rfl,⟨e1,Int.le_refl _,fun e he=>by omega,fun e he=>by omega,fun q h1 h2 h3=>by omega,.inl rfl⟩⟩ ?_
  clear t' loc j
  rintro i t' loc h' hi ⟨rfl,t0,t1,t7,t9,d,t6,S⟩;simp only[t0,t9,R.chk,R.fa,R.ld1,R.eln,Nat.zero_add,go_sem]
  refine zt (by simp only[go_sem];rfl) ?_ ?_<;>intro hc
  · have hi1:i<es.length:=by omega
    have hw:IntKind.i64.wrap ((i:Int)+1)=((i+1:Nat):Int):=w64 (by omega) (by omega)
    obtain⟨hE,hEB⟩:=K.ed i hi1;obtain⟨ga,gb,_⟩:=wG gk hi1;have el:=R.ev.el (f:=ZT) e0 hi1;have csl:=GL (X:=X) R K hs gk hi1
    have cta:=ZL (X:=X) R hu (v:=vA es i) (by omega)
    have ctb:=ZL (X:=X) R hu (v:=vB es i) (by omega)
    obtain⟨q,hq⟩:∃q,q=es.getD i e0:=⟨_,rfl⟩;rw[←hq] at el csl ga gb;unfold QN at csl
    have er:ZT q=[.int .i64 (vA es i:Nat),.int .i64 (vB es i:Nat),.int .i64 q.w1,.int .i64 q.w2,.int .i64 q.w3]:=by unfold ZT;rw[ga,gb]
    rw[er] at el csl;obtain⟨a,hA⟩:∃a,a=top s (vA es i):=⟨_,rfl⟩;obtain⟨c,hC⟩:∃c,c=top s (vB es i):=⟨_,rfl⟩;rw[←hA] at cta;rw[←hC] at ctb
    have aN:a<s.N:=by rw[hA];exact Uc hu (by omega)
    have cN:c<s.N:=by rw[hC];exact Uc hu (by omega)
    obtain⟨x1,x2⟩:=P.lel aN;obtain⟨y1,y2⟩:=P.lel cN;rw[D.lab a aN] at x2;rw[D.lab c cN] at y2;have two1:=F.two a;have two2:=F.two c;have sk:=S.skip;rw[←hA,←hC] at sk;have hfe:=K.feas i hi1
    have hsl:slk es s i≤100000000000:=by
      obtain⟨a1,a2⟩:=hs.y _ hE;obtain⟨a3,a4⟩:=hs.y _ hEB.1;obtain⟨w0,w1⟩:=zav gk hi1
      by_cases k1:top s (vA es i)=top s (vB es i)
      · obtain⟨z3,z4⟩:=Xb hs (a:=vA es i) (c:=vB es i) (k:=s.N) (Nat.le_refl _)
        unfold slk;omega
      · rw[kg K k1]
        omega
    by_cases k1:(a:Int)=(c:Int)
    · simp only[t0,t1,t6,t7,t9,R.chk,R.fa,R.ld1,el.1,el.2.1,el.2.2,cta,ctb,k1,hw,Nat.zero_add,zj,zi,List.prefix_refl,go_sem]
      exact⟨hi1,d,rfl,sk fun q=>q.1 (by omega)⟩
    have hne:a≠c:=by omega
    have la3:l.lab a=0∨l.lab a=1∨l.lab a=2:=by omega
    have lc3:l.lab c=0∨l.lab c=1∨l.lab c=2:=by omega
    have hneT:top s (vA es i)≠top s (vB es i):=by rw[←hA,←hC];exact hne
    rcases la3 with la | la | la<;>rcases lc3 with lc | lc | lc<;>rw[la] at x2<;>rw[lc] at y2<;>(try rw[n0] at x2)<;>(try rw[n1] at x2)<;>(try rw[n2] at x2)<;>(try rw[n0] at y2)<;>(try rw[n1] at y2)<;>(try rw[n2] at y2)
    · simp only[t0,t1,t6,t7,t9,R.chk,R.fa,R.ld1,el.1,el.2.1,el.2.2,cta,ctb,k1,P.chk,P.fa,P.ld0,x1,x2,y1,y2,hw,Nat.zero_add,zj,zi,List.prefix_refl,go_sem]
      exact⟨hi1,d,rfl,sk fun q=>by have:=q.2;omega⟩
    · have cl:=uo (X:=X) (h:=h') (a:=d) (c:=slk es s i)
      simp only[t0,t1,t6,t7,t9,R.chk,R.fa,R.ld1,el.1,el.2.1,el.2.2,cta,ctb,csl,cl,k1,P.chk,P.fa,P.ld0,x1,x2,y1,y2,hw,Nat.zero_add,zj,zi,List.prefix_refl,go_sem]
      exact⟨hi1,_,rfl,S.neb hneT (.inr (by rw[←hA,←hC];exact⟨la,lc⟩)) rfl hfe⟩
    · simp only[t0,t1,t6,t7,t9,R.chk,R.fa,R.ld1,el.1,el.2.1,el.2.2,cta,ctb,k1,P.chk,P.fa,P.ld0,x1,x2,y1,y2,hw,Nat.zero_add,zj,zi,List.prefix_refl,go_sem]
      exact⟨hi1,d,rfl,sk fun q=>by have:=q.2;omega⟩
    · have cl:=uo (X:=X) (h:=h') (a:=d) (c:=slk es s i)
      simp only[t0,t1,t6,t7,t9,R.chk,R.fa,R.ld1,el.1,el.2.1,el.2.2,cta,ctb,csl,cl,k1,P.chk,P.fa,P.ld0,x1,x2,y1,y2,hw,Nat.zero_add,zj,zi,List.prefix_refl,go_sem]
      exact⟨hi1,_,rfl,S.neb hneT (.inl (by rw[←hA,←hC];exact⟨la,lc⟩)) rfl hfe⟩
    · have hev:=zcm K F Lo0 hi1 hneT (by rw[←hA];exact la) (by rw[←hC];exact lc)
      have hdv:IntKind.i64.wrap ((slk es s i).tdiv 2)=slk es s i / 2:=by
        rw[Int.tdiv_eq_ediv_of_nonneg hfe,w64 (by omega) (by omega)]
      have cl:=uo (X:=X) (h:=h') (a:=d) (c:=slk es s i / 2);simp only[t0,t1,t6,t7,t9,R.chk,R.fa,R.ld1,el.1,el.2.1,el.2.2,cta,ctb,csl,cl,k1,P.chk,P.fa,P.ld0,x1,x2,y1,y2,hdv,hw,Nat.zero_add,zj,zi,List.prefix_refl,go_sem]
      exact⟨hi1,_,rfl,S.nee hneT (by rw[←hA];exact la) (by rw[←hC];exact lc) (by omega) (by omega)⟩
    · simp only[t0,t1,t6,t7,t9,R.chk,R.fa,R.ld1,el.1,el.2.1,el.2.2,cta,ctb,k1,P.chk,P.fa,P.ld0,x1,x2,y1,y2,hw,Nat.zero_add,zj,zi,List.prefix_refl,go_sem]
      exact⟨hi1,d,rfl,sk fun q=>by have:=q.2;omega⟩
    · simp only[t0,t1,t6,t7,t9,R.chk,R.fa,R.ld1,el.1,el.2.1,el.2.2,cta,ctb,k1,P.chk,P.fa,P.ld0,x1,x2,y1,y2,hw,Nat.zero_add,zj,zi,List.prefix_refl,go_sem]
      exact⟨hi1,d,rfl,sk fun q=>by have:=q.2;omega⟩
    · simp only[t0,t1,t6,t7,t9,R.chk,R.fa,R.ld1,el.1,el.2.1,el.2.2,cta,ctb,k1,P.chk,P.fa,P.ld0,x1,x2,y1,y2,hw,Nat.zero_add,zj,zi,List.prefix_refl,go_sem]
      exact⟨hi1,d,rfl,sk fun q=>by have:=q.2;omega⟩
    · simp only[t0,t1,t6,t7,t9,R.chk,R.fa,R.ld1,el.1,el.2.1,el.2.2,cta,ctb,k1,P.chk,P.fa,P.ld0,x1,x2,y1,y2,hw,Nat.zero_add,zj,zi,List.prefix_refl,go_sem]
      exact⟨hi1,d,rfl,sk fun q=>by have:=q.2;omega⟩
  have hie:i=es.length:=by omega
  rw[hie] at S;simp only[t0,t1,t6,t7,t9,R.chk,R.fa,R.ld0,Nat.zero_add,go_sem]
  clear hc hi hie t0 t1 t6 t7 t9
  refine zT (s.N-s.n) (fun j t' loc hh=>hh=h'∧t' 0=p7 b 0∧t' 1=p3 (lo+3) 0∧t' 7=.int .i64 y∧t' 13=.int .i64 ((s.n+j:Nat):Int)∧∃d:Int,t' 6=.int .i64 d∧UF es s l y d es.length (s.n+j)) ⟨rfl,rfl,rfl,rfl,rfl,d,rfl,S⟩ ?_
  clear S
  clear t' loc i d
  rintro j t' loc hh hj ⟨rfl,t0,t1,t7,t13,d,t6,S⟩;simp only[t0,t13,R.chk,R.fa,R.ld3,R.nln,Nat.zero_add,go_sem]
  refine zt (by simp only[go_sem];rfl) ?_ ?_<;>intro hc
  · have hj1:s.n+j<s.N:=by omega
    have hw:IntKind.i64.wrap (((s.n+j:Nat):Int)+1)=((s.n+(j+1):Nat):Int):=w64 (by omega) (by omega)
    have ci:=um (X:=X) R hj1;obtain⟨x1,x2⟩:=P.lel hj1;rw[D.lab _ hj1] at x2;have n3:=R.n3 hj1
    by_cases c1:zc s (s.n+j)
    rotate_left
    · rw[Ku c1] at ci
      simp only[t0,t1,t6,t7,t13,ci,hw,Nat.zero_add,List.prefix_refl,go_sem]
      exact⟨by omega,d,rfl,S.zskip fun q=>c1 q.1⟩
    rw[xt c1] at ci
    by_cases c2:l.lab (s.n+j)=2
    · rw[c2,n2] at x2
      obtain⟨z1,z2⟩:=K.z0 (s.n+j) ⟨by omega,hj1,c1.2.2⟩
      obtain⟨z3,z4⟩:=hs.z _ hj1
      have hdv:IntKind.i64.wrap ((s.z (s.n+j)).tdiv 2)=s.z (s.n+j) / 2:=by
        rw[Int.tdiv_eq_ediv_of_nonneg z1,w64 (by omega) (by omega)]
      have cl:=uo (X:=X) (h:=hh) (a:=d) (c:=s.z (s.n+j) / 2);simp only[t0,t1,t6,t7,t13,ci,cl,P.chk,P.fa,P.ld0,x1,x2,R.chk,R.fa,R.ld3,R.nia hj1,R.nfa hj1,n3,hdv,hw,Nat.zero_add,List.prefix_refl,go_sem]
      exact⟨by omega,_,rfl,S.nz c1 (by omega) c2 (by omega) (by omega)⟩
    · have c3:¬((l.lab (s.n+j):Nat):Int)=2:=by omega
      simp only[t0,t1,t6,t7,t13,ci,P.chk,P.fa,P.ld0,x1,x2,c3,hw,Nat.zero_add,List.prefix_refl,go_sem]
      exact⟨by omega,d,rfl,S.zskip fun q=>c2 q.2⟩
  have hjN:s.n+j=s.N:=by omega
  rw[hjN] at S;simp only[t0,t1,t6,t7,t13,go_sem];exact⟨_,_,rfl,.inr ⟨S.least e2 e3,S.le,e2,e3⟩⟩
end
def Df (s s':Sv)(dn dn':Bool):Prop:=dn'≠dn∨(s'.n=s.n∧∃v,v<s.n∧s'.y v≠s.y v)∨(s'.N=s.N∧∃i,i<s.N∧s'.gone i≠s.gone i)
section
variable {g g':Ql}{h h':za}{b k k' i v:Nat}{es:List E}{s s':Sv}{l:Lb}{rk:Nat→Nat}{M M':List Lk}{dn dn':Bool}{V V':RV}{d Y Mx:Int}
theorem Rn.df (R:Rn g h b es s M k dn V)(R':Rn g' h' b es s' M' k' dn' V')(hd:Df s s' dn dn'):¬h <+: h':=fun hp=>by
  have R1:=R.up hp;have e:=R1.blk;rw[R'.blk] at e;have e:=Option.some.inj e;unfold QE at e
  injection e with e
  simp only[List.cons.injEq] at e;obtain⟨_,_,ey,en,_,_,ed,_⟩:=e;rcases hd with hd | ⟨hn,v,hv,hd⟩ | ⟨hN,i,hi,hd⟩
  · injection ed with ed
    exact hd ed
  · have a1:=(R1.yia hv).2
    have a2:=(R'.yia (v:=v) (by omega)).2
    rw[ey,a1] at a2;simp at a2;exact hd a2.symm
  · have a1:=R1.n5 hi
    have a2:=R'.n5 (i:=i) (by omega)
    rw[en,a1] at a2;simp at a2;exact hd a2.symm
theorem Ci {w:Value}(hp:¬h <+: h'):zp h (w,h')=(w,h'):=by
  unfold zp
  rw[if_neg fun q=>hp q.2]
theorem zbN (hN:s'.N=s.N)(hup:s'.up=s.up):top s' v=top s v:=by
  have:∀n v,kC s' n v=kC s n v:=by
    intro n
    induction n with
    | zero=>intro v;rfl
    | succ n ih =>
      intro v
      show (match s'.up v with | none=>v | some p=>kC s' n p)=match s.up v with | none=>v | some p=>kC s n p
      rw[hup]
      cases s.up v with
      | none=>rfl
      | some p=>exact ih p
  unfold top;rw[hN];exact this _ _
structure Gs (es:List E)(s:Sv)(Y Mx:Int):Prop where
  K:Ok es s
  L:Lo s Y
  B:Bd s Y Mx
  zo:∀p,¬zg s p→s.z p=0
  n9:s.n≤9
  m:Mx≤4515050
theorem Gs.sm (G:Gs es s Y Mx)(hN:s.N≤400):Sm s:=by
  have hm:=G.m;have y0:=G.L.y0
  refine⟨G.n9,hN,fun v hv=>?_,fun p hp=>?_⟩
  · have h1:=G.L.low v hv
    have h2:=G.B.y v hv;omega
  · by_cases c:zg s p
    · have h1:=(G.K.z0 p c).1
      have h2:=G.B.z p c;omega
    · rw[G.zo p c];omega
open Classical in
theorem Gs.chg (G:Gs es s Y Mx)(F:Fo es s l rk)(D:jp es s l d)(hf:∃t,zc s t∧s.mate t=none):Gs es (zx s l d) (Y-d) Mx:=by
  refine⟨Vb G.K F D.step,Va G.K F G.L D hf,Yb G.B D.step.d0,fun p hp=>?_,G.n9,G.m⟩
  show (if zc s p∧s.n≤p then _ else s.z p)=0;have hp':¬zg s p:=hp
  rw[if_neg fun q=>hp' ⟨q.2,q.1.1,q.1.2.2⟩]
  exact G.zo p hp'
theorem zaZ {s s':Sv}(h:Uf es s s'):(∀p,¬zg s p→s.z p=0)→∀p,¬zg s' p→s'.z p=0:=by
  induction h with
  | refl s=>exact id
  | @step s1 s2 B a hB ht hz ha hh _ ih =>
    intro zo
    refine ih fun p hp=>?_
    show s1.z p=0
    by_cases c:zg s1 p
    · have:p=B:=by
        by_cases q:p=B
        · exact q
        · exact absurd (ZQ.2 ⟨c,q⟩) hp
      rw[this];exact hz
    · exact zo p c
theorem Gs.rnd {s s':Sv}(G:Gs es s Y Mx)(h:uH es s s'):∃Y',Gs es s' Y' Mx:=by
  obtain⟨Y',L',B'⟩:=zbm G.K G.L G.B h
  have K':Ok es s'∧s'.n=s.n∧∀p,¬zg s' p→s'.z p=0:=by
    cases h with
    | fold M =>
      rename_i l rk e i k xs ys
      have R:=M.ring G.K
      refine⟨yu G.K R,rfl,fun p hp=>?_⟩
      show (if p=s.N then 0 else s.z p)=0
      by_cases c:p=s.N
      · rw[if_pos c]
      · rw[if_neg c]
        exact G.zo p fun q=>hp (Wb.2 (.inr q))
    | aug A O =>
      obtain⟨i1,_,i3,_⟩:=G6 O (gA A G.K) (BG A G.K G.L);exact⟨i1,i3,zaZ O G.zo⟩
    | change F S D hf hy hz=>exact⟨(G.chg F D hf).K,rfl,(G.chg F D hf).zo⟩
    | open_ F S D hf hB hn hl hz ha hh =>
      rename_i l rk d B a
      have Gc:=G.chg F D hf;have hBr:zg (zx s l d) B:=⟨hn,hB.1,hB.2.2⟩
      refine⟨Ym Gc.K hBr hB.2.1 hz ha hh,rfl,fun p hp=>?_⟩
      show (zx s l d).z p=0
      by_cases c:p=B
      · rw[c];exact hz
      · exact Gc.zo p fun q=>hp (ZQ.2 ⟨q,c⟩)
  exact⟨Y',K'.1,L',B',K'.2.2,by rw[K'.2.1];exact G.n9,G.m⟩
theorem Gs.last {s s':Sv}(G:Gs es s Y Mx)(h:fB es s s'):∃Y',Gs es s' Y' Mx∧Frz s':=by
  obtain⟨_,f,_,_⟩:=zcE G.K G.L G.B h
  cases h with
  | none F h=>exact⟨Y,G,f⟩
  | change F S D hf hy=>exact⟨_,G.chg F D hf,f⟩
theorem QF.chg (m:QF es s M)(K:Ok es s):QF es (zx s l d) M:=by
  refine⟨fun x hx=>?_,fun t e ht he=>m.all t e ht he,m.nd,m.le⟩
  rw[xV K,xV K];exact m.of x hx
theorem wT.chg {bs:Nat→Nat}(hbs:wT s bs):wT (zx s l d) bs:=fun t i ht hm hw hv=>hbs t i ht hm (ZC.1 hw) (ZC.1 hv)
end
noncomputable def chY (s:Sv)(l:Lb)(d:Int)(j:Nat):Sv:={ s with y:=fun v=>if v<j then s.y v-sg (l.lab (top s v))*d else s.y v }
open Classical in
noncomputable def chZ (s:Sv)(l:Lb)(d:Int)(p:Nat):Sv:={ s with y:=fun v=>s.y v-sg (l.lab (top s v))*d,z:=fun q=>if zc s q∧s.n≤q∧q<p then s.z q+2*(sg (l.lab q)*d) else s.z q }
section
variable {X:Zb}{g:Ql}{h:za}{b k lo:Nat}{es:List E}{s:Sv}{l:Lb}{rk:Nat→Nat}{M:List Lk}{V:RV}{size Y Mx:Int}{L Q:List Nat}{A:List Lk}
set_option maxRecDepth 100000 in
open Classical in
theorem bq (hbs : wT s V.bs) (R : Rn g h b es s M k false V) (G : Gs es s Y Mx) (hN : s.N ≤ 400) (m : QF es s M) (gk : GOk size es) (P : Tp h lo s.N L A Q) (D : Tl es s l L A Q) (F : Fo es s l rk) (S : VF es s l) (he9 : es.length ≤ 1000) (hlo : b < lo) (hg : ∀ c τ, g c = some τ → c < lo) :
    ∃h' g' V' s' M' dn',C T X Qy [p7 b 0,p3 (lo+3) 0] h=some (.tuple ⟨[]⟩,h')∧Rn g' h' b es s' M' k dn' V'∧QF es s' M'∧wT s' V'.bs∧(∀c,c+1<b→h'[c]?=h[c]?)∧h.length≤h'.length∧Df s s' false dn'∧((dn'=true∧fB es s s')∨(dn'=false∧uH es s s')):=by
  suffices hx:∃w h',C T X Qy [p7 b 0,p3 (lo+3) 0] h=some (w,h')∧w=.tuple ⟨[]⟩∧∃g' V' s' M' dn',Rn g' h' b es s' M' k dn' V'∧QF es s' M'∧wT s' V'.bs∧(∀c,c+1<b→h'[c]?=h[c]?)∧h.length≤h'.length∧Df s s' false dn'∧((dn'=true∧fB es s s')∨(dn'=false∧uH es s s')) by
    obtain⟨w,h',c,rfl,g',V',s',M',dn',q⟩:=hx;exact⟨h',g',V',s',M',dn',c,q⟩
  have K:=G.K;have hs:=G.sm hN;have hu:=K.upOk;have nN:=K.nN;have n9:=hs.n
  have hgn:∀c,lo≤c→c<lo+4→g c=none:=fun c h1 _=>by
    cases q:g c with
    | none=>rfl
    | some τ=>have:=hg c τ q;omega
  obtain⟨d,y,cst,hst⟩:=dE (X:=X) R K hs gk P D F G.L he9;refine wU kq rfl ?_;unfold wB;rcases hst with⟨rfl,hno⟩ | ⟨LD,hdy,⟨v0,v1,v2,v3⟩,hmin⟩
  · have hn:((-1:Int)<0):=by omega
    obtain⟨h2,e1,e2,e3,R2⟩:=R.st6 (T:=fun _=>False) true
    simp only[cst,hn,R.chk,R.fa,e1,Nat.zero_add,go_sem];rw[Zt e3]
    exact⟨rfl,g,V,s,M,true,R2,m,hbs,e2.low R.ok R.bl,Nat.le_of_eq e3.symm,.inl (by simp),.inl ⟨rfl,.none F hno⟩⟩
  have hd0:=LD.step.d0
  have hn:¬(d<0):=by omega
  obtain⟨y1,y2⟩:=hs.y v0 v1
  have hdb:d≤100000000:=by omega
  have hf:∃t,zc s t∧s.mate t=none:=Ck F _ _ (Nat.lt_succ_self _) (show l.lab (top s v0)≠0 by omega)
  have y00:∀v,v<s.n→(chY s l d 0).y v=s.y v:=fun v _=>by unfold chY;simp
  simp only[cst,hn,Nat.zero_add,go_sem]
  refine zT s.n (fun j t' loc hh=>t' 0=p7 b 0∧t' 1=p3 (lo+3) 0∧t' 4=.int .i64 d∧t' 5=.int .i64 y∧t' 6=.int .i64 (j:Nat)∧Tn b (fun τ=>τ=.y∨τ=.n) g h g hh∧hh.length=h.length∧Rn g hh b es (chY s l d j) M k false V) ⟨rfl,rfl,rfl,rfl,rfl,Tn.refl R.ok,rfl,R.congr' rfl rfl y00 fun _ _=>⟨rfl,rfl,rfl,rfl,rfl⟩⟩ ?_
  rintro j t' loc hh hj ⟨t0,t1,t4,t5,t6,f1,len1,R1⟩;have ld0:=R1.ld0;have hnn:((chY s l d j).n:Int)=(s.n:Int):=rfl;rw[hnn] at ld0;simp only[t0,t6,R1.chk,R1.fa,ld0,Nat.zero_add,go_sem]
  refine zt (by simp only[go_sem];rfl) ?_ ?_<;>intro hc
  · have hj1:j<s.n:=by omega
    have hw:IntKind.i64.wrap ((j:Int)+1)=((j+1:Nat):Int):=w64 (by omega) (by omega)
    have P1:=P.tn f1 hlo hgn
    have ct:=ZL (X:=X) R1 hu (v:=j) (show j<s.N by omega)
    rw[show top (chY s l d j) j=top s j from zbN rfl rfl] at ct
    obtain⟨a,ha⟩:∃a,a=top s j:=⟨_,rfl⟩;rw[←ha] at ct
    have aN:a<s.N:=by rw[ha];exact Uc hu (by omega)
    obtain⟨x1,x2⟩:=P1.lel aN;rw[D.lab a aN] at x2;obtain⟨b1,b2⟩:=R1.yia (v:=j) hj1;have hyj:(chY s l d j).y j=s.y j:=if_neg (Nat.lt_irrefl j);rw[hyj] at b2;obtain⟨z1,z2⟩:=hs.y j hj1;have two:=F.two a;have n0:((0:Nat):Int)=0:=rfl;have n1:((1:Nat):Int)=1:=rfl;have n2:((2:Nat):Int)=2:=rfl
    have nxt:∀(i:Nat) (w:Int),w=s.y j-sg (l.lab a)*d→(if i=j then w else if i<j then s.y i-sg (l.lab (top s i))*d else s.y i)=if i<j+1 then s.y i-sg (l.lab (top s i))*d else s.y i:=fun i w hw'=>by
      by_cases c:i=j
      · rw[if_pos c,if_pos (by omega),c,hw',ha]
      · rw[if_neg c]
        by_cases c2:i<j
        · rw[if_pos c2,if_pos (by omega)]
        · rw[if_neg c2,if_neg (by omega)]
    rcases (show l.lab a=0∨l.lab a=1∨l.lab a=2 by omega) with la | la | la
    · rw[la,n0] at x2
      simp only[t0,t1,t4,t5,t6,ct,x1,x2,P1.chk,P1.fa,P1.ld0,hw,Nat.zero_add,List.prefix_refl,go_sem]
      refine⟨hj1,f1,len1,R1.congr' rfl rfl (fun i hi=>?_) fun _ _=>⟨rfl,rfl,rfl,rfl,rfl⟩⟩
      have:=nxt i (s.y j) (by rw[la,sg0];omega)
      show (if i<j+1 then _ else _)=if i<j then _ else _;rw[←this]
      by_cases c:i=j
      · rw[if_pos c,if_neg (by omega),c]
      · rw[if_neg c]
    · rw[la,n1] at x2
      have hw2:IntKind.i64.wrap (s.y j-d)=s.y j-d:=w64 (by omega) (by omega)
      obtain⟨h2,e1,e2,e3,_,R2⟩:=R1.stY (i:=j) hj1 (s.y j-d);simp only[t0,t1,t4,t5,t6,ct,x1,x2,b1,b2,e1,hw2,P1.chk,P1.fa,P1.ld0,R1.chk,R1.fa,R1.ld2,hw,Nat.zero_add,List.prefix_refl,go_sem]
      refine⟨hj1,f1.trans (e2.mono fun _ q=>.inl q),by rw[e3,len1],R2.congr' rfl rfl (fun i hi=>(nxt i (s.y j-d) (by rw[la,sg1];omega)).symm) fun _ _=>⟨rfl,rfl,rfl,rfl,rfl⟩⟩
    · rw[la,n2] at x2
      have hw2:IntKind.i64.wrap (s.y j+d)=s.y j+d:=w64 (by omega) (by omega)
      obtain⟨h2,e1,e2,e3,_,R2⟩:=R1.stY (i:=j) hj1 (s.y j+d);simp only[t0,t1,t4,t5,t6,ct,x1,x2,b1,b2,e1,hw2,P1.chk,P1.fa,P1.ld0,R1.chk,R1.fa,R1.ld2,hw,Nat.zero_add,List.prefix_refl,go_sem]
      refine⟨hj1,f1.trans (e2.mono fun _ q=>.inl q),by rw[e3,len1],R2.congr' rfl rfl (fun i hi=>(nxt i (s.y j+d) (by rw[la,sg2];omega)).symm) fun _ _=>⟨rfl,rfl,rfl,rfl,rfl⟩⟩
  have hjn:j=s.n:=by omega
  rw[hjn] at R1
  have R1' : Rn g hh b es (chZ s l d s.n) M k false V := R1.congr' rfl rfl (fun v hv => (if_pos (show v < s.n from hv)).symm) fun i hi => ⟨by
      show (if zc s i∧s.n≤i∧i<s.n then _ else s.z i)=s.z i
      rw[if_neg (by omega)],rfl,rfl,rfl,rfl⟩
  simp only[t0,t1,t4,t5,t6,R1.chk,R1.fa,ld0,Nat.zero_add,go_sem]
  clear hc hj hjn R1
  refine zT (s.N-s.n) (fun j t' loc hh=>t' 0=p7 b 0∧t' 1=p3 (lo+3) 0∧t' 4=.int .i64 d∧t' 5=.int .i64 y∧t' 7=.int .i64 ((s.n+j:Nat):Int)∧Tn b (fun τ=>τ=.y∨τ=.n) g h g hh∧hh.length=h.length∧Rn g hh b es (chZ s l d (s.n+j)) M k false V) ⟨rfl,rfl,rfl,rfl,rfl,f1,len1,R1'⟩ ?_
  clear t0 t1 t4 t5 t6 f1 len1 R1' ld0 hnn
  clear t' loc hh j
  rintro j t' loc hh hj ⟨t0,t1,t4,t5,t7,f1,len1,R1⟩;have nln:=R1.nln;have hNN:((chZ s l d (s.n+j)).N:Int)=(s.N:Int):=rfl;rw[hNN] at nln;simp only[t0,t7,R1.chk,R1.fa,R1.ld3,nln,Nat.zero_add,go_sem]
  refine zt (by simp only[go_sem];rfl) ?_ ?_<;>intro hc
  · have hj1:s.n+j<s.N:=by omega
    have hw:IntKind.i64.wrap (((s.n+j:Nat):Int)+1)=((s.n+(j+1):Nat):Int):=w64 (by omega) (by omega)
    have P1:=P.tn f1 hlo hgn;have ci:=um (X:=X) R1 (i:=s.n+j) hj1;have hit:zc (chZ s l d (s.n+j)) (s.n+j)↔zc s (s.n+j):=Iff.rfl;obtain⟨a,ha⟩:∃a,a=s.n+j:=⟨_,rfl⟩;rw[←ha] at hj1 ci hit R1 t7 hw ⊢
    have han:s.n≤a:=by omega
    obtain⟨x1,x2⟩:=P1.lel hj1;rw[D.lab a hj1] at x2;have n3:=R1.n3 (i:=a) hj1
    have hza:(chZ s l d a).z a=s.z a:=if_neg (by omega)
    rw[hza] at n3;obtain⟨z1,z2⟩:=hs.z a hj1;have n0:((0:Nat):Int)=0:=rfl;have n1:((1:Nat):Int)=1:=rfl;have n2:((2:Nat):Int)=2:=rfl
    have same:sg (l.lab a)=0∨¬zc s a→Rn g hh b es (chZ s l d (s.n+(j+1))) M k false V:=fun hq=>R1.congr' rfl rfl (fun _ _=>rfl) fun i hi=>⟨by
      show (if zc s i∧s.n≤i∧i<s.n+(j+1) then s.z i+2*(sg (l.lab i)*d) else s.z i)=if zc s i∧s.n≤i∧i<a then s.z i+2*(sg (l.lab i)*d) else s.z i
      by_cases c:i=a
      · rw[c,if_neg (show ¬(zc s a∧s.n≤a∧a<a) by omega)]
        by_cases c2:zc s a∧s.n≤a∧a<s.n+(j+1)
        · rw[if_pos c2]
          rcases hq with q | q
          · rw[q];omega
          · exact absurd c2.1 q
        · rw[if_neg c2]
      · by_cases c2:zc s i∧s.n≤i∧i<a
        · rw[if_pos c2,if_pos ⟨c2.1,c2.2.1,by omega⟩]
        · rw[if_neg c2,if_neg (fun q=>c2 ⟨q.1,q.2.1,by omega⟩)],rfl,rfl,rfl,rfl⟩
    have turn:∀ {h2:za} (w:Int),zc s a→w=s.z a+2*(sg (l.lab a)*d)→Rn g h2 b es (zdc (chZ s l d a) a w) M k false V→Rn g h2 b es (chZ s l d (s.n+(j+1))) M k false V:=fun {h2} w ht hw' R2=>R2.congr' rfl rfl (fun _ _=>rfl) fun i hi=>⟨by
      show (if zc s i∧s.n≤i∧i<s.n+(j+1) then s.z i+2*(sg (l.lab i)*d) else s.z i)=if i=a then w else if zc s i∧s.n≤i∧i<a then s.z i+2*(sg (l.lab i)*d) else s.z i
      by_cases c:i=a
      · rw[if_pos c,c,if_pos ⟨ht,han,by omega⟩,hw']
      · rw[if_neg c]
        by_cases c2:zc s i∧s.n≤i∧i<a
        · rw[if_pos c2,if_pos ⟨c2.1,c2.2.1,by omega⟩]
        · rw[if_neg c2,if_neg (fun q=>c2 ⟨q.1,q.2.1,by omega⟩)],rfl,rfl,rfl,rfl⟩
    by_cases c1:zc s a
    rotate_left
    · rw[Ku (fun q=>c1 (hit.1 q))] at ci
      simp only[t0,t1,t4,t5,t7,ci,hw,Nat.zero_add,List.prefix_refl,go_sem]
      exact⟨by omega,f1,len1,same (.inr c1)⟩
    rw[xt (hit.2 c1)] at ci;have two:=F.two a
    rcases (show l.lab a=0∨l.lab a=1∨l.lab a=2 by omega) with la | la | la
    · rw[la,n0] at x2
      simp only[t0,t1,t4,t5,t7,ci,x1,x2,P1.chk,P1.fa,P1.ld0,hw,Nat.zero_add,List.prefix_refl,go_sem]
      exact⟨by omega,f1,len1,same (.inl (by rw[la,sg0]))⟩
    · rw[la,n1] at x2
      have hw1:IntKind.i64.wrap (2*d)=2*d:=w64 (by omega) (by omega)
      have hw2:IntKind.i64.wrap (s.z a+2*d)=s.z a+2*d:=w64 (by omega) (by omega)
      obtain⟨h2,e1,e2,e3,_,R2⟩:=R1.stZ (i:=a) hj1 (s.z a+2*d);have ni:=R1.nia (i:=a) hj1;have nf:=R1.nfa (i:=a) hj1;simp only[t0,t1,t4,t5,t7,ci,x1,x2,n3,e1,hw1,hw2,ni,nf,P1.chk,P1.fa,P1.ld0,R1.chk,R1.fa,R1.ld3,hw,Nat.zero_add,List.prefix_refl,go_sem]
      exact⟨by omega,f1.trans (e2.mono fun _ q=>.inr q),by rw[e3,len1],turn _ c1 (by rw[la,sg1];omega) R2⟩
    · rw[la,n2] at x2
      have hw1:IntKind.i64.wrap (2*d)=2*d:=w64 (by omega) (by omega)
      have hw2:IntKind.i64.wrap (s.z a-2*d)=s.z a-2*d:=w64 (by omega) (by omega)
      obtain⟨h2,e1,e2,e3,_,R2⟩:=R1.stZ (i:=a) hj1 (s.z a-2*d);have ni:=R1.nia (i:=a) hj1;have nf:=R1.nfa (i:=a) hj1;simp only[t0,t1,t4,t5,t7,ci,x1,x2,n3,e1,hw1,hw2,ni,nf,P1.chk,P1.fa,P1.ld0,R1.chk,R1.fa,R1.ld3,hw,Nat.zero_add,List.prefix_refl,go_sem]
      exact⟨by omega,f1.trans (e2.mono fun _ q=>.inr q),by rw[e3,len1],turn _ c1 (by rw[la,sg2];omega) R2⟩
  have hjN:s.n+j=s.N:=by omega
  rw[hjN] at R1
  have RC:Rn g hh b es (zx s l d) M k false V:=R1.congr' rfl rfl (fun _ _=>rfl) fun i hi=>⟨by
    have hi':i<s.N:=hi;show (if zc s i∧s.n≤i then s.z i+2*(sg (l.lab i)*d) else s.z i)=if zc s i∧s.n≤i∧i<s.N then s.z i+2*(sg (l.lab i)*d) else s.z i
    by_cases c:zc s i∧s.n≤i
    · rw[if_pos c,if_pos ⟨c.1,c.2,hi'⟩]
    · rw[if_neg c,if_neg fun q=>c ⟨q.1,q.2.1⟩],rfl,rfl,rfl,rfl⟩
  clear R1 hj hc
  have GC:=G.chg F LD hf
  have hsC:=GC.sm (show s.N≤400 from hN)
  have mC:QF es (zx s l d) M:=m.chg K;have bC:wT (zx s l d) V.bs:=hbs.chg;have low1:∀c,c+1<b→hh[c]?=h[c]?:=f1.low R.ok R.bl
  by_cases cy:y=d
  · obtain⟨h2,e1,e2,e3,R2⟩:=RC.st6 (T:=fun _=>False) true
    simp only[t0,t1,t4,t5,t7,cy,RC.chk,RC.fa,e1,Nat.zero_add,go_sem]
    rw[Zt (by rw[e3,len1])]
    refine⟨rfl,g,V,_,M,true,R2,mC,bC,fun c hc=>?_,Nat.le_of_eq (by rw[e3,len1]),.inl (by simp),.inl ⟨rfl,.change F S LD hf ⟨v0,v1,v2,by omega⟩⟩⟩
    rw[e2.low RC.ok RC.bl c hc];exact low1 c hc
  have P1:=P.tn f1 hlo hgn
  obtain⟨r,cf,hr⟩:=GK (X:=X) (L:=L) RC hsC (show s.n≤s.N from nN) P1.l.rows (.inr P.ln.1)
  have hny:¬ ∃v,v<s.n∧l.lab (top s v)=1∧s.y v=d:=fun⟨v,a1,a2,a3⟩=>by have:=hmin v a1 a2;omega
  rcases hr with⟨rfl,hnf⟩ | ⟨B,rfl,hB1,hB2,hB3,hB4,hB5⟩
  · have hn1:¬((-1:Int)≥0):=by omega
    simp only[t0,t1,t4,t5,t7,cy,P1.chk,P1.fa,P1.ld0,cf,hn1,Nat.zero_add,List.prefix_refl,go_sem];rw[Zt len1]
    have hz:∀p,zc s p→s.n≤p→l.lab p=2→(zx s l d).z p≠0:=fun p hp hn hl hz=>hnf p hn hp.1 ⟨hp,hz,.inr (by rw[D.lab p hp.1];exact hl)⟩
    refine⟨rfl,g,V,_,M,false,RC,mC,bC,low1,Nat.le_of_eq len1.symm,?_,.inr ⟨rfl,.change F S LD hf hny hz⟩⟩
    have hdp:d≠0:=fun q=>by
      rcases LD.by_ with q1 | ⟨e,he,hne,hq⟩ | ⟨p,hp,hn,hl,hq⟩
      · exact hny q1
      · have jn:=KU K he
        have hE:=K.ed e he;have tA:=K.vTop hE.1;have tB:=K.vTop hE.2.1;rcases hq with⟨a1,a2,a3⟩ | ⟨a1 | a1,a3⟩
        · have:=S e _ _ he (show slk es s e=0 by omega) jn tA tB hne a1
          omega
        · have:=S e _ _ he (show slk es s e=0 by omega) jn tA tB hne a1.1
          omega
        · have:=S e _ _ he (show slk es s e=0 by omega) jn.symm tB tA (Ne.symm hne) a1.2
          omega
      · refine hz p hp hn hl ?_
        show (if zc s p∧s.n≤p then s.z p+2*(sg (l.lab p)*d) else s.z p)=0;rw[if_pos ⟨hp,hn⟩,hl,sg2];omega
    refine .inr (.inl ⟨rfl,v0,v1,?_⟩);show s.y v0-sg (l.lab (top s v0))*d≠s.y v0;rw[v2,sg1];omega
  · have hp1:((B:Int)≥0):=by omega
    have hBT:zc s B:=hB3
    have hlB:l.lab B=2:=by
      rcases hB5 with q | q
      · have:=P.ln.1;rw[q] at this;have:=hBT.1;simp at *;omega
      · rw[←D.lab B hBT.1];exact q
    have hBr:zg (zx s l d) B:=⟨hB1,hBT.1,hBT.2.2⟩;obtain⟨a,h4,g4,V4,M4,c4,f4,R4,m4,a4,hh4,bs4,_⟩:=J2 (X:=X) bC RC GC.K.ok0 mC gk n9 hN hBr hBT.2.1;simp only[t0,t1,t4,t5,t7,cy,P1.chk,P1.fa,P1.ld0,cf,hp1,c4,Nat.zero_add,List.prefix_refl,go_sem]
    have df:Df s (zr (zx s l d) B a) false false:=.inr (.inr ⟨rfl,B,hBT.1,by
      show (if B=B then true else s.gone B)≠s.gone B;rw[if_pos rfl,hBT.2.2]
      simp⟩)
    rw[Ci (R.df R4 df)]
    refine⟨rfl,g4,V4,_,M4,false,R4,m4,bs4.2,fun c hc=>?_,?_,df,.inr ⟨rfl,.open_ F S LD hf hBT hB1 hlB hB4 a4 hh4⟩⟩
    · rw[f4.low RC.ok RC.bl c hc]
      exact low1 c hc
    · exact Nat.le_trans (Nat.le_of_eq len1.symm) f4.len
end
section
variable {es:List E}{s:Sv}{l:Lb}{xs ys:List Nat}
theorem FC:∀ {xs:List Nat} {j:Nat},qc l xs→j<xs.length→qc l (xs.drop j)
  | _,0,h,_=>h
  | [t],j+1,_,hj=>by simp at hj
  | t::o::xs,j+1,h,hj=>by
    have:=FC (xs:=o::xs) (j:=j) h.2 (by simpa using hj)
    simpa using this
theorem XS {xs:List Nat}{j:Nat}(hj:j<xs.length):(xs.drop j).getD ((xs.drop j).length-1) 0=xs.getD (xs.length-1) 0:=by
  rw[List.length_drop,List.getD_eq_getElem?_getD,List.getElem?_drop,←List.getD_eq_getElem?_getD]
  congr 1
  omega
theorem zdy (wx:qc l xs)(wy:qc l ys)(hr:xs.getD (xs.length-1) 0≠ys.getD (ys.length-1) 0):∀t,t∈xs→¬t∈ys:=fun t h1 h2=>by
  obtain⟨i,hi,rfl⟩:=Zv (d:=0) h1;obtain⟨k,hk,e⟩:=Zv (d:=0) h2;have w1:=FC wx hi;have w2:=FC wy hk
  have e1:xs.drop i=xs.getD i 0::xs.drop (i+1):=by rw[List.drop_eq_getElem_cons hi];simp[List.getD,hi]
  have e2:ys.drop k=ys.getD k 0::ys.drop (k+1):=by rw[List.drop_eq_getElem_cons hk];simp[List.getD,hk]
  rw[e1] at w1;rw[e2,e] at w2;have:=C0 w1 w2;apply hr
  rw[←XS hi,←XS hk,e1,e2,e,this]
end
theorem Far.le {V:RV}{n m:Nat}(h:Far V n)(hm:m≤n):Far V m:=by
  obtain⟨c,q,h1,h2⟩:=h
  exact⟨c,q,by omega,h2⟩
section
variable {X:Zb}{g:Ql}{h:za}{b k:Nat}{es:List E}{s:Sv}{M:List Lk}{V:RV}{size Y Mx:Int}
set_option maxRecDepth 100000 in
theorem BY (hbs : wT s V.bs) (R : Rn g h b es s M k false V) (G : Gs es s Y Mx) (hN : s.N ≤ 400) (m : QF es s M) (gk : GOk size es) (he9 : es.length ≤ 1000) :
    ∃h' g' V' s' M' dn',C T X QV [p7 b 0] h=some (.tuple ⟨[]⟩,h')∧Rn g' h' b es s' M' k dn' V'∧QF es s' M'∧wT s' V'.bs∧(∀c,c+1<b→h'[c]?=h[c]?)∧h.length≤h'.length∧((dn'=true∧fB es s s')∨(dn'=false∧uH es s s')):=by
  suffices hx:∃w h',C T X QV [p7 b 0] h=some (w,h')∧w=.tuple ⟨[]⟩∧∃g' V' s' M' dn',Rn g' h' b es s' M' k dn' V'∧QF es s' M'∧wT s' V'.bs∧(∀c,c+1<b→h'[c]?=h[c]?)∧h.length≤h'.length∧((dn'=true∧fB es s s')∨(dn'=false∧uH es s s')) by
    obtain⟨w,h',c,rfl,g',V',s',M',dn',q⟩:=hx;exact⟨h',g',V',s',M',dn',c,q⟩
  have K:=G.K;have hs:=G.sm hN;have hu:=K.upOk;have nN:=K.nN;obtain⟨hh,l,rk,L,A,Q,r,cl,hp,hlen,F,D,P,hr⟩:=BX (X:=X) R K hs m gk he9;have R1:=R.up hp;have hbl:=R.bl
  have hg:∀c τ,g c=some τ→c<h.length:=fun c τ q=>(R.ok c τ q).2
  have lw:∀c,c+1<b→hh[c]?=h[c]?:=fun c hc=>ZE hp (by omega)
  refine wU KK rfl ?_;unfold Wr;rcases hr with⟨rfl,S⟩ | ⟨e,rfl,hat⟩
  · obtain⟨h',g',V',s',M',dn',ca,R',m',b',low,len,df,q⟩:=bq (X:=X) hbs R1 G hN m gk P D F S he9 hbl hg
    have hn:((-1:Int)<0):=by omega
    simp only[cl,hn,ca,Nat.zero_add,go_sem];rw[Ci (R.df R' df)]
    exact⟨rfl,g',V',s',M',dn',R',m',b',fun c hc=>(low c hc).trans (lw c hc),Nat.le_trans (zy hp) len,q⟩
  · have hat':=hat
    obtain⟨he,ht,hne,la,lb⟩:=hat'
    have hn:¬((e:Int)<0):=by omega
    obtain⟨hE,hEB⟩:=K.ed e he;obtain⟨ga,gb,_⟩:=wG gk he;have el:=R1.ev.el (f:=ZT) e0 he
    have cta:=ZL (X:=X) R1 hu (v:=vA es e) (by omega)
    have ctb:=ZL (X:=X) R1 hu (v:=vB es e) (by omega)
    have aN:top s (vA es e)<s.N:=Uc hu (by omega)
    have cN:top s (vB es e)<s.N:=Uc hu (by omega)
    obtain⟨xs,wx,hx0,qx⟩:=D.rt _ aN (show l.lab (top s (vA es e))≠0 by omega)
    obtain⟨ys,wy,hy0,qy⟩:=D.rt _ cN (show l.lab (top s (vB es e))≠0 by omega)
    obtain⟨x1,x2⟩:=P.qel aN;obtain⟨y1,y2⟩:=P.qel cN
    have er:ZT (es.getD e e0)=[.int .i64 (vA es e:Nat),.int .i64 (vB es e:Nat),.int .i64 (es.getD e e0).w1,.int .i64 (es.getD e e0).w2,.int .i64 (es.getD e e0).w3]:=by unfold ZT;rw[ga,gb]
    rw[er] at el
    by_cases c:((Q.getD (top s (vA es e)) 0:Nat):Int)=((Q.getD (top s (vB es e)) 0:Nat):Int)
    · have hroot:xs.getD (xs.length-1) 0=ys.getD (ys.length-1) 0:=by rw[←qx,←qy];omega
      obtain⟨i,kk,Mt,hf⟩:=zcH F K hat wx wy hx0 hy0 hroot;obtain⟨h',g',V',M',cs,R',m',low,len,b',far⟩:=bt (X:=X) hbs R1 K hs m gk P D Mt hf he hx0.symm hy0.symm hbl hg;unfold QN at cs;rw[er] at cs;simp only[cl,hn,R1.chk,R1.fa,R1.ld1,el.1,el.2.1,el.2.2,cta,ctb,P.chk,P.fa,P.ld2,x1,x2,y1,y2,c,cs,Nat.zero_add,zj,zi,List.prefix_refl,go_sem];rw[Uj hbl (R.diff R' (far.le (zy hp)))]
      exact⟨rfl,g',V',_,M',false,R',m',b',fun c hc=>(low c hc).trans (lw c hc),Nat.le_trans (zy hp) len,.inr ⟨rfl,.fold Mt⟩⟩
    · have hroot:xs.getD (xs.length-1) 0≠ys.getD (ys.length-1) 0:=by rw[←qx,←qy];omega
      have jn:=KU (es:=es) K he
      have Ag:Aug es s l rk e xs ys:=⟨F,wx,wy,by rw[hx0];exact la,by rw[hy0];exact lb,ht,by rw[hx0,hy0];exact jn,zdy wx wy hroot⟩
      obtain⟨h',g',V',s',M',cs,R',O,m',low,len,b',far⟩:=fZ (X:=X) hbs R1 K hs m gk P D Ag he hx0.symm hy0.symm hbl hg;unfold QN at cs;rw[er] at cs;simp only[cl,hn,R1.chk,R1.fa,R1.ld1,el.1,el.2.1,el.2.2,cta,ctb,P.chk,P.fa,P.ld2,x1,x2,y1,y2,c,cs,Nat.zero_add,zj,zi,List.prefix_refl,go_sem];rw[Uj hbl (R.diff R' (far.le (zy hp)))]
      exact⟨rfl,g',V',s',M',false,R',m',b',fun c hc=>(low c hc).trans (lw c hc),Nat.le_trans (zy hp) len,.inr ⟨rfl,.aug Ag O⟩⟩
end
section
variable {es:List E}{s s' s1:Sv}{k n:Nat}{y:Int}
theorem Ba (h:UE es k s s1)(r:uH es s1 s'):UE es (k+1) s s':=by
  induction h with
  | zero s=>exact .succ r (.zero _)
  | succ h _ ih=>exact .succ h (ih r)
theorem zcX (h:Uf es s s'):s'.N=s.N:=by
  induction h with
  | refl s=>rfl
  | step hB ht hz ha hh _ ih=>exact ih
theorem CP (h:uH es s s'):s'.N≤s.N+1:=by
  cases h with
  | fold M=>exact Nat.le_refl _
  | aug A O=>rw[zcX O];exact Nat.le_succ _
  | change F S D hf hy hz=>exact Nat.le_succ _
  | open_ F S D hf hB hn hl hz ha hh=>exact Nat.le_succ _
theorem zbn (h:UE es k s s'):s'.N≤s.N+k:=by
  induction h with
  | zero s=>exact Nat.le_refl _
  | succ h _ ih=>have:=CP h;omega
theorem zei (h:fB es s s'):s'.N=s.N∧s'.n=s.n:=by
  cases h with
  | none F h=>exact⟨rfl,rfl⟩
  | change F S D hf hy=>exact⟨rfl,rfl⟩
def UZ (n:Nat)(y:Int)(j:Nat):Sv where
  n:=n
  N:=j
  y:=fun v=>if v<j then y else 0
  up:=fun _=>none
  mem:=fun _=>[]
  lnk:=fun _=>[]
  mate:=fun _=>none
  base:=fun v=>v
  z:=fun _=>0
  gone:=fun _=>false
theorem zbH:QF es (wR n y) []:=⟨fun x hx=>(by cases hx),fun t e _ h=>(by cases h),.nil,Nat.zero_le _⟩
theorem zbG {bs:Nat→Nat}(h:∀v,v<n→bs v=v):wT (wR n y) bs:=fun t i ht _ hw _=>h i (by
  have h1:t<n:=ht.1
  cases hw with
  | refl=>exact h1
  | step e _=>cases e)
end
section
variable {X:Zb}{h:za}{es:List E}{v:Value}{n:Nat}
set_option maxRecDepth 100000 in
theorem BZ (he : Rows h 5 v (ZF es)) (gk : GOk (n : Int) es) (n9 : n ≤ 9) (hl : es.length ≤ 1000) :
    ∃h' g V s M kk Y Mx,C T X QW [zC n v] h=some (p7 (h.length+1) 0,h')∧h <+: h'∧Rn g h' (h.length+1) es s M kk true V∧QF es s M∧wT s V.bs∧Gs es s Y Mx∧Frz s∧s.n=n∧s.N≤400:=by
  suffices hx:∃w h',C T X QW [zC n v] h=some (w,h')∧w=p7 (h.length+1) 0∧∃g V s M kk Y Mx,h <+: h'∧Rn g h' (h.length+1) es s M kk true V∧QF es s M∧wT s V.bs∧Gs es s Y Mx∧Frz s∧s.n=n∧s.N≤400 by
    obtain⟨w,h',c,rfl,g,V,s,M,kk,Y,Mx,q⟩:=hx;exact⟨h',g,V,s,M,kk,Y,Mx,c,q⟩
  refine wU KM rfl ?_;unfold Wt zC;obtain⟨h1,hh1⟩:∃h1:za,h1=h++[⟨zj [.int .i64 0] n,1,zf,true⟩]:=⟨_,rfl⟩
  have ln1:h1.length=h.length+1:=by rw[hh1];simp
  have hmk:mkW h 1 zf [.int .i64 0] (.int .i64 (n:Nat))=some (slv h.length n,h1):=by rw[hh1];exact Cy (by unfold lim;omega)
  obtain⟨h0,hh0⟩:∃h0:za,h0=h1++[⟨[.int .i64 (n:Nat),v,slv h.length n,zh,zh,.int .i64 0,.bool false],7,Jv,true⟩]:=⟨_,rfl⟩
  have hbx:bxW h1 Jv 7 (.agg ⟨[.int .i64 (n:Nat),v,slv h.length n,.slice none 0 0,.slice none 0 0,.int .i64 0,.bool false]⟩)=some (p7 (h.length+1) 0,h0):=by
    rw[hh0,←ln1];rfl
  have hsc:cellsOf (slv h.length n)=some [slv h.length n]:=rfl;obtain⟨b,hb⟩:∃b,b=h.length+1:=⟨_,rfl⟩;rw[←hb] at hbx ⊢
  have p0:h <+: h0:=by rw[hh0,hh1,List.append_assoc];exact List.prefix_append _ _
  have he0:=he.up p0
  have ln0:h0.length=h.length+2:=by rw[hh0];simp[ln1]
  obtain⟨V0,hV0⟩:∃V0:RV,V0=⟨v,slv h.length n,zh,zh,fun _=>zh,fun _=>zh,fun v=>v⟩:=⟨_,rfl⟩
  have R0:∀y,Rn (fun c=>if c=h.length then some .y else none) h0 b es (UZ n y 0) [] 0 false V0:=fun y=>by
    have ok:vi b (fun c=>if c=h.length then some Tg.y else none) h0:=fun c τ q=>by
      have q':(if c=h.length then some Tg.y else none)=some τ:=q
      by_cases e:c=h.length
      · omega
      · rw[if_neg e] at q';cases q'
    refine⟨ok,?_,?_,⟨fun r hr=>?_,.inr ⟨h.length,if_pos rfl,?_,?_⟩⟩,?_,?_,fun i hi=>?_,fun i hi=>?_⟩
    · rw[hb,hh0,hV0,←ln1]
      simp[QE,UZ]
    · have e:h0.take (b-1)=h:=by rw[hb,hh0,hh1];simp[List.append_assoc]
      rw[e,hV0];exact he
    · simp[zq] at hr;obtain⟨x,_,rfl⟩:=hr;rfl
    · rw[hV0]
      simp[vP,zq,UZ,slv]
    · rw[hh0,hh1]
      have:(zq (vP (UZ n y 0))).flatten=zj [.int .i64 0] n:=by
        rw[FG]
        congr 2
        simp[vP,UZ,ZW,List.map_const']
      rw[this];simp
    · rw[hV0];exact Has.nil
    · rw[hV0];exact Has.nil
    · exact absurd hi (Nat.not_lt_zero i)
    · exact absurd hi (Nat.not_lt_zero i)
  simp only[hmk,hsc,hbx,List.length_cons,List.length_nil,List.cons_append,List.nil_append,List.drop_succ_cons,List.drop_zero,Nat.zero_add,go_sem]
  refine zT es.length (fun i t' loc hh=>hh=h0∧t' 3=p7 b 0∧loc 1=some [.int .i64 (n:Nat),v]∧t' 5=.int .i64 (i:Nat)∧∃y:Int,t' 4=.int .i64 y∧0≤y∧y≤4515050∧∀e,e<i→vW es e≤y) ⟨rfl,rfl,rfl,rfl,0,rfl,by omega,by omega,fun e he=>by omega⟩ ?_
  rintro i t' loc hh hi ⟨rfl,t3,l1,t5,y,t4,y0,y1,hy⟩;have eln:=he0.lnm;simp only[t3,t5,l1,eln,go_sem]
  refine zt (by simp only[go_sem];rfl) ?_ ?_<;>intro hc
  · have hi1:i<es.length:=by omega
    have hw:IntKind.i64.wrap ((i:Int)+1)=((i+1:Nat):Int):=w64 (by omega) (by omega)
    have el:=he0.el (f:=ZT) e0 hi1;have cs:=Vy (X:=X) (h:=hh) (e:=es.getD i e0) (XT (uO gk (zE (d:=e0) hi1)));have hsc2:ZJ (es.getD i e0).w1 (es.getD i e0).w2 (es.getD i e0).w3=vW es i:=rfl;rw[hsc2] at cs;unfold QN ZT at cs;unfold ZT at el;obtain⟨w0,w1⟩:=zav gk hi1
    by_cases c1:vW es i>y
    · simp only[t3,t4,t5,l1,el.1,el.2.1,el.2.2,cs,c1,hw,Nat.zero_add,List.prefix_refl,go_sem]
      refine⟨hi1,_,rfl,w0,w1,fun e he=>?_⟩
      by_cases q:e=i
      · rw[q];exact Int.le_refl _
      · have:=hy e (by omega);omega
    · simp only[t3,t4,t5,l1,el.1,el.2.1,el.2.2,cs,c1,hw,Nat.zero_add,List.prefix_refl,go_sem]
      refine⟨hi1,_,rfl,y0,y1,fun e he=>?_⟩
      by_cases q:e=i
      · rw[q];omega
      · exact hy e (by omega)
  have hie:i=es.length:=by omega
  rw[hie] at hy;simp only[t3,t4,t5,l1,go_sem]
  clear hc hie hi eln t3 t4 t5
  have R0':=R0 y
  have hVb:∀i,V0.bs i=i:=fun i=>by rw[hV0]
  have vln0:hh.length=b+1:=by rw[ln0,hb]
  clear R0 hh0
  obtain⟨g0,hg0⟩:∃g0:Ql,g0=fun c=>if c=h.length then some Tg.y else none:=⟨_,rfl⟩
  rw[←hg0] at R0'
  refine zT n (fun j t' loc h2=>t' 3=p7 b 0∧loc 1=some [.int .i64 (n:Nat),v]∧t' 4=.int .i64 y∧t' 6=.int .i64 (j:Nat)∧∃g' V',Tn b (fun τ=>τ=.y∨τ=.n) g0 hh g' h2∧Rn g' h2 b es (UZ n y j) [] 0 false V'∧∀i,V'.bs i=i) ⟨rfl,by rw[←l1];rfl,rfl,rfl,g0,V0,Tn.refl R0'.ok,R0',hVb⟩ ?_
  clear l1
  clear t' loc i
  rintro j t' loc h2 hj ⟨t3,l1,t4,t6,g',V',f,R,hvb⟩;simp only[t6,l1,go_sem]
  refine zt (by simp only[go_sem];rfl) ?_ ?_<;>intro hc
  · have hj1:j<n:=by omega
    have hw:IntKind.i64.wrap ((j:Int)+1)=((j+1:Nat):Int):=w64 (by omega) (by omega)
    obtain⟨b1,_⟩:=R.yia (v:=j) hj1;obtain⟨h3,e1,e2,e3,_,R1⟩:=R.stY (i:=j) hj1 y;have hr:Has g' h3 (.rg (zbv (UZ n y j) j y).N) 1 zf zh (zq (ZW [])):=Has.nil;have hl:Has g' h3 (.lk (zbv (UZ n y j) j y).N) 2 zS zh (([]:List Lk).map lkR):=Has.nil
    have hjl:j<lim:=by unfold lim;omega
    obtain⟨nv,h4,h5,g5,w1,w2,w3,w4,f5,R5⟩:=R1.pushN (u:=j) hjl hr hl (ls:=[]) ⟨rfl,fun j hj=>by cases hj⟩
    unfold ndR at w1
    have R6:Rn g5 h5 b es (UZ n y (j+1)) [] 0 false (V'.more j nv zh zh j):=R5.congr' rfl rfl (fun i hi=>by
      show (if i<j+1 then y else 0)=if i=j then y else if i<j then y else 0
      by_cases q:i=j
      · rw[if_pos q,if_pos (by omega)]
      · rw[if_neg q]
        by_cases q2:i<j
        · rw[if_pos q2,if_pos (by omega)]
        · rw[if_neg q2,if_neg (by omega)]) fun i hi=>⟨by show (0:Int)=if i=j then 0 else 0;split<;>rfl,by show none=if i∈([]:List Nat).take 0 then some j else if i=j then none else none;simp,by show false=if i=j then false else false;split<;>rfl,by show []=if i=j then [] else [];split<;>rfl,by show []=if i=j then [] else [];split<;>rfl⟩
    simp only[t3,t4,t6,l1,b1,e1,R.chk,R.fa,R.ld2,R1.chk,R1.fa,R1.ld3,w1,xe w2,bZ w2,w3,w4,hw,Nat.zero_add,zj,zi,List.prefix_refl,List.cons_append,List.nil_append,go_sem]
    refine⟨hj1,g5,_,(f.trans (e2.mono fun _ q=>.inl q)).trans (f5.mono fun _ q=>.inr q),R6,fun i=>?_⟩
    show (if i=j then j else V'.bs i)=i
    by_cases q:i=j
    · rw[if_pos q,q]
    · rw[if_neg q];exact hvb i
  have hjn:j=n:=by omega
  rw[hjn] at R
  have RS:Rn g' h2 b es (wR n y) [] 0 false V':=R.congr' rfl rfl (fun i hi=>by
    have hi':i<n:=hi;show y=if i<n then y else 0
    rw[if_pos hi']) fun i hi=>⟨rfl,rfl,rfl,rfl,rfl⟩
  clear hjn R hc hj
  simp only[t3,go_sem]
  have low2:∀c,c+1<b→h2[c]?=h[c]?:=fun c hc=>by
    rw[f.low R0'.ok R0'.bl c hc]
    exact ZE p0 (by omega)
  have zfY:hh.length≤h2.length:=f.len;have hed:=zee gk rfl;have I0:=fi (es:=es) n9 hed hy y0
  have G0:Gs es (wR n y) y y:=⟨I0.K,I0.L,zbF,fun p _=>rfl,n9,y1⟩
  refine WI 331 (fun m t' loc hx=>t' 3=p7 b 0∧∃g' V' s M kk dn,Rn g' hx b es s M kk dn V'∧QF es s M∧wT s V'.bs∧(∃Y,Gs es s Y y)∧(∀c,c+1<b→hx[c]?=h[c]?)∧h.length≤hx.length∧s.n=n∧s.N≤400∧kk≤400∧((dn=false∧UE es kk (wR n y) s∧m+kk=331)∨(dn=true∧Frz s))) ⟨rfl,g',V',_,_,_,_,RS,zbH,zbG fun v _=>hvb v,⟨y,G0⟩,low2,by omega,rfl,by show n≤400;omega,by omega,.inl ⟨rfl,.zero _,rfl⟩⟩ ?_
  clear t3 t4 t6 l1 f RS hvb low2 zfY
  clear t' loc h2 g' V' j
  rintro m t' loc hx ⟨t3,g',V',s,M,kk,dn,R,mt,bs,⟨Y,G⟩,low,len,hsn,hN,hkk,hq⟩
  have ck:(kk:Int)<20000:=by omega
  rcases hq with⟨rfl,hr,hm⟩ | ⟨rfl,hfr⟩
  rotate_left
  · simp only[t3,R.chk,R.fa,R.ld5,R.ld6,ck,Nat.zero_add,go_sem]
    rw[Q8 (by rfl)]
    exact⟨rfl,rfl,g',V',s,M,kk,Y,y,QM len fun c hc=>low c (by omega),R,mt,bs,G,hfr,hsn,hN⟩
  have hk:=dV n9 hed hy y0 hr;have rN:=zbn hr;have rN':s.N≤n+kk:=rN
  obtain⟨h3,e1,e2,e3,R3⟩:=R.st5 (T:=fun _=>False) (kk+1)
  have hw:IntKind.i64.wrap ((kk:Int)+1)=((kk+1:Nat):Int):=w64 (by omega) (by omega)
  obtain⟨h4,g4,V4,s4,M4,dn4,c4,R4,m4,b4,low4,zfZ,q4⟩:=BY (X:=X) bs R3 G hN mt gk hl;simp only[t3,R.chk,R.fa,R.ld5,R.ld6,ck,e1,hw,c4,Nat.zero_add,go_sem]
  have low':∀c,c+1<b→h4[c]?=h[c]?:=fun c hc=>by rw[low4 c hc,e2.low R.ok R.bl c hc];exact low c hc
  have len':h.length≤h4.length:=Nat.le_trans len (Nat.le_trans e2.len zfZ);rcases q4 with⟨rfl,hL⟩ | ⟨rfl,hR⟩
  · obtain⟨Y',G',F'⟩:=G.last hL
    obtain⟨n1,n2⟩:=zei hL
    exact⟨0,by omega,g4,V4,s4,M4,kk+1,true,R4,m4,b4,⟨Y',G'⟩,low',len',n2.trans hsn,by rw[n1];exact hN,by omega,.inr ⟨rfl,F'⟩⟩
  · obtain⟨Y',G'⟩:=G.rnd hR
    have hn4:s4.n=s.n:=by
      obtain⟨_,_,_,q,_⟩:=xh (b:=14) ⟨G.K,G.L,G.n9,fun s' l' rk' H F S=>zer (wW H G.K).1 (by rw[fU H G.K];exact G.n9)⟩ hR
      exact q
    have:=CP hR
    exact⟨m-1,by omega,g4,V4,s4,M4,kk+1,false,R4,m4,b4,⟨Y',G'⟩,low',len',hn4.trans hsn,by omega,by omega,.inl ⟨rfl,Ba hr hR,by omega⟩⟩
end
end Go.Proofs.Ytafhipglhnfgnaa.Ab
