/- Joined. No conditions. -/
import Derived.Test.YtafhipglhnfgnaaM15
import Derived.Test.YtafhipglhnfgnaaM11
set_option linter.unusedSimpArgs false
set_option linter.unusedVariables false
set_option linter.unnecessarySimpa false
set_option maxHeartbeats 4000000
namespace Go.Proofs.Ytafhipglhnfgnaa.Ab
open Go.RowKit
def uk (g:Ql)(h h':za)(τ:Tg):Ql:=fun c=>open Classical in if h.length≤c∧c<h'.length then some τ else g c
section
variable {g g':Ql}{h h':za}{b i k t sz:Nat}{τ:Tg}{T:Tg→Prop}{ty:TypeId}{es:List E}{s s':Sv}{M M':List Lk}{dn dn':Bool}{V V':RV}{v:Value}{rws:List (List Value)}
theorem yW (ok:vi b g h)(hb:b<h.length)(hp:h <+: h'):Tn b (·=τ) g h (uk g h h' τ) h':=by
  refine⟨zy hp,fun c hc _ _=>ZE hp hc,fun c τ' hT q=>?_,fun c τ' hc q=>?_,fun c τ' q=>?_⟩
  · have:=(ok c τ' q).2
    unfold uk
    rw[if_neg (by omega)]
    exact q
  · unfold uk at q
    rw[if_neg (by omega)] at q
    exact q
  · unfold uk at q
    by_cases e:h.length≤c∧c<h'.length
    · exact⟨by omega,e.2⟩
    · rw[if_neg e] at q
      have:=ok c τ' q;have:=zy hp
      exact⟨by omega,by omega⟩
theorem Yf (o:Own h' h.length h'.length sz ty v rws):Has (uk g h h' τ) h' τ sz ty v rws:=Has.take o fun c h1 h2=>if_pos ⟨h1,h2⟩
theorem Rn.diffL {k':Nat}(R:Rn g h b es s M k dn V)(R':Rn g' h' b es s' M' k' dn' V')(hl:M'.length≠M.length):h'[b]?≠h[b]?:=fun q=>by
  rw[R.blk,R'.blk] at q;have e:=Option.some.inj q;unfold QE at e
  injection e with e
  simp only[List.cons.injEq] at e;have e4:V'.mv=V.mv:=e.2.2.2.2.1;rcases R.m.is with⟨q1,q2⟩ | ⟨c,_,q2,_⟩
  · rcases R'.m.is with⟨p1,p2⟩ | ⟨c',_,p2,_⟩
    · have e1:M=[]:=by simpa using q2
      have e2:M'=[]:=by simpa using p2
      exact hl (by rw[e1,e2])
    · rw[p2,q1] at e4;cases e4
  · rcases R'.m.is with⟨p1,p2⟩ | ⟨c',_,p2,_⟩
    · rw[p1,q2] at e4;cases e4
    · rw[p2,q2] at e4
      injection e4 with _ e4 _
      rw[List.length_map,List.length_map] at e4;exact hl e4
end
def woP (s:Sv)(t:Nat)(x:Lk):Bool:=decide (top s x.f≠t∧top s x.t≠t)
def yR (n a:Nat)(L:List Lk)(j:Nat):List Lk:=(List.range j).map fun q=>L.getD ((a+(2*q+1))%n) l0
theorem dQ {n a j:Nat}{L:List Lk}:yR n a L (j+1)=yR n a L j++[L.getD ((a+(2*j+1))%n) l0]:=by unfold yR;rw[List.range_succ,List.map_append];rfl
section
variable {X:Zb}{g:Ql}{h:za}{b k t:Nat}{es:List E}{s:Sv}{M:List Lk}{dn:Bool}{V:RV}
theorem f0 (R : Rn g h b es s M k dn V) (hu : uh s) (hM : ∀ x ∈ M, x.f < s.N ∧ x.t < s.N) (hl : M.length ≤ 400) :
    ∃h' g' v,C T X Qf [p7 b 0,.int .i64 (t:Nat)] h=some (.tuple ⟨[]⟩,h')∧Tn b (·=.m) g h g' h'∧Rn g' h' b es s (M.filter (woP s t)) k dn { V with mv:=v }∧Far { V with mv:=v } h.length:=by
  suffices hx:∃w h',C T X Qf [p7 b 0,.int .i64 (t:Nat)] h=some (w,h')∧w=.tuple ⟨[]⟩∧∃g' v,Tn b (·=.m) g h g' h'∧Rn g' h' b es s (M.filter (woP s t)) k dn { V with mv:=v }∧Far { V with mv:=v } h.length by
    obtain⟨w,h',c,rfl,g',v,q⟩:=hx;exact⟨h',g',v,c,q⟩
  refine wU Jl rfl ?_;unfold Q4;simp only[zj,zi,go_sem]
  refine zT M.length (fun i t' loc h'=>t' 0=p7 b 0∧t' 1=.int .i64 (t:Nat)∧t' 5=.int .i64 (i:Nat)∧h <+: h'∧∃v,t' 4=v∧Own h' h.length h'.length 2 zS v (((M.take i).filter (woP s t)).map lkR)∧∃c m,h.length≤c∧v=.slice (some ⟨c,0,none⟩) m m) ⟨rfl,rfl,rfl,List.prefix_append _ _,.slice (some ⟨h.length,0,none⟩) 0 0,rfl,Acc.new.own,h.length,0,Nat.le_refl _,rfl⟩ ?_
  rintro i t' loc h' hi ⟨t0,t1,t5,hp,v,t4,o,hfar⟩;have R':=R.up hp;simp only[t0,t5,R'.chk,R'.fa,R'.ld4,R'.mln,Nat.zero_add,go_sem]
  refine zt (by simp only[go_sem];rfl) ?_ ?_<;>intro hc
  · have hi1:i<M.length:=by omega
    have hw:IntKind.i64.wrap ((i:Int)+1)=((i+1:Nat):Int):=w64 (by omega) (by omega)
    obtain⟨m1,m2,m3⟩:=R'.mia hi1;have m4:=R'.m0 hi1;have m5:=R'.m1 hi1;obtain⟨hx1,hx2⟩:=hM _ (zE (d:=l0) hi1);have htake:M.take (i+1)=M.take i++[M.getD i l0]:=Zj (d:=l0) hi1;obtain⟨x,hx⟩:∃x,x=M.getD i l0:=⟨_,rfl⟩;rw[←hx] at m3 m4 m5 hx1 hx2 htake;have c1:=ZL (X:=X) R' hu hx1;have c2:=ZL (X:=X) R' hu hx2
    have hlen:(((M.take i).filter (woP s t)).map lkR).length≤400:=by
      rw[List.length_map]
      exact Nat.le_trans (List.length_filter_le _ _) (by rw[List.length_take];omega)
    have no:woP s t x=false→((M.take (i+1)).filter (woP s t))=(M.take i).filter (woP s t):=fun q=>by rw[htake,List.filter_append];simp[q]
    by_cases d1:(top s x.f:Int)=(t:Int)
    · simp only[t0,t1,t4,t5,R'.chk,R'.fa,R'.ld4,m1,m2,m4,c1,d1,hw,Nat.zero_add,List.prefix_refl,go_sem]
      exact⟨hi1,hp,v,rfl,by rw[no (by unfold woP;simp;omega)];exact o,hfar⟩
    · by_cases d2:(top s x.t:Int)=(t:Int)
      · simp only[t0,t1,t4,t5,R'.chk,R'.fa,R'.ld4,m1,m2,m4,m5,c1,c2,d1,d2,hw,Nat.zero_add,List.prefix_refl,go_sem]
        exact⟨hi1,hp,v,rfl,by rw[no (by unfold woP;simp;omega)];exact o,hfar⟩
      · obtain⟨v2,h2,c3,p1,p2,o2⟩:=o.push1 (zy hp) (lkR x) rfl (by unfold lim;omega)
        rw[Nat.max_eq_right p1] at o2
        have yes:((M.take (i+1)).filter (woP s t)).map lkR=((M.take i).filter (woP s t)).map lkR++[lkR x]:=by
          rw[htake,List.filter_append]
          have:woP s t x=true:=by unfold woP;simp;omega
          simp[this]
        unfold lkR at c3 m3;simp only[t0,t1,t4,t5,R'.chk,R'.fa,R'.ld4,m1,m2,m3,m4,m5,c1,c2,d1,d2,c3,hw,Nat.zero_add,zj,zi,List.prefix_refl,go_sem]
        refine⟨hi1,QY hp (Nat.le_refl _) p1 p2,v2,rfl,by rw[yes];exact o2,?_⟩
        rcases o2.is with⟨_,q⟩ | ⟨c,l1,_,l3,_⟩
        · simp at q
        · exact⟨c,_,l1,l3⟩
  · have:i=M.length:=by omega
    subst this;rw[List.take_length] at o;obtain⟨h2,e1,e2,e3,e4⟩:=R.newM (yW (τ:=.m) R.ok R.bl hp) (ZE hp R.bl) (Yf o)
    have hne:=R.diff e4 (show Far _ h.length from hfar)
    simp only[t0,t4,R'.chk,R'.fa,e1,o.live,o.cells,Nat.zero_add,go_sem];rw[Uj R.bl hne];exact⟨rfl,_,_,e2,e4,hfar⟩
def opU (s:Sv)(B j:Nat):Sv:={ s with up:=fun v=>if v∈(s.mem B).take j then none else s.up v }
open Classical in
theorem dD {B a : Nat} {L : List Lk} (R : Rn g h b es s M k dn V) (hu : uh s) (hM : ∀ x ∈ M, x.f < s.N ∧ x.t < s.N) (hl : M.length ≤ 200) (hB : B < s.N) (n3 : 3 ≤ (s.mem B).length) (n9 : (s.mem B).length ≤ 9) (nodd : (s.mem B).length % 2 = 1) (hmem : ∀ v ∈ s.mem B, v < s.N)
    (hnd:(s.mem B).Nodup) (hL:Has g h (.lk B) 2 zS (V.lv B) (L.map lkR)) (hLl:L.length=(s.mem B).length) {bv:Nat} (hbv:bv=vT s V.bs M B) (hbN:bv<s.N) (ha:a<(s.mem B).length) (hin:Wi s bv ((s.mem B).getD a 0)) (hun:∀j,j<(s.mem B).length→Wi s bv ((s.mem B).getD j 0)→j=a) (hN:s.N≤400) :
    ∃h' g' V',C T X qe [p7 b 0,.int .i64 (B:Nat)] h=some (.tuple ⟨[]⟩,h')∧Tn b (fun τ=>τ=.n∨τ=.m) g h g' h'∧Rn g' h' b es (zr s B a) (M++yR (s.mem B).length a L ((s.mem B).length / 2)) k dn V'∧V'.bs=V.bs∧∀n,Far V n→Far V' n:=by
  suffices hx:∃w h',C T X qe [p7 b 0,.int .i64 (B:Nat)] h=some (w,h')∧w=.tuple ⟨[]⟩∧∃g' V',Tn b (fun τ=>τ=.n∨τ=.m) g h g' h'∧Rn g' h' b es (zr s B a) (M++yR (s.mem B).length a L ((s.mem B).length / 2)) k dn V'∧V'.bs=V.bs∧∀n,Far V n→Far V' n by
    obtain⟨w,h',c,rfl,g',V',q⟩:=hx;exact⟨h',g',V',c,q⟩
  have cb:=X2 (X:=X) (i:=B) R hu hM (by omega) hB
  rw[←hbv] at cb;obtain⟨n,hn⟩:∃n,n=(s.mem B).length:=⟨_,rfl⟩;rw[←hn] at n3 n9 nodd hLl ha hun ⊢;have rB:=R.rg B hB;have nln:=Fk rB.rows;rw[←hn] at nln;have nl:=R.nld hB;unfold ndR uu at nl;simp only at nl;refine wU xN rfl ?_;unfold vd;simp only[cb,R.chk,R.fa,R.ld3,R.nia hB,nl,nln,Nat.zero_add,zj,zi,List.prefix_refl,go_sem];obtain⟨c5,hc5⟩:∃c5:List Value,c5=[V.rv B,V.lv B,.int .i64 (V.bs B:Nat),.int .i64 (s.z B),.int .i64 (upI (s.up B)),.bool (s.gone B)]:=⟨_,rfl⟩
  refine zT n (fun i t' loc h'=>h'=h∧t' 0=p7 b 0∧t' 1=.int .i64 (B:Nat)∧t' 4=.int .i64 (bv:Nat)∧t' 6=.int .i64 (n:Nat)∧t' 8=.int .i64 (i:Nat)∧loc 5=some c5∧t' 7=.int .i64 ((if a<i then a else 0:Nat):Int)) ⟨rfl,rfl,rfl,rfl,rfl,rfl,by rw[hc5];rfl,rfl⟩ ?_
  rintro i t' loc h' hi ⟨rfl,t0,t1,t4,t6,t8,l5,t7⟩;simp only[t6,t8,go_sem]
  refine zt (by simp only[go_sem];rfl) ?_ ?_<;>intro hc
  · have hi1:i<n:=by omega
    have hw:IntKind.i64.wrap ((i:Int)+1)=((i+1:Nat):Int):=w64 (by omega) (by omega)
    obtain⟨e1,e2⟩:=vK rB.rows (i:=i) (by rw[←hn];exact hi1)
    have cw:=uR (X:=X) (t:=(s.mem B).getD i 0) R hu hbN
    by_cases w:Wi s bv ((s.mem B).getD i 0)
    · rw[xt w] at cw
      have hia:=hun i hi1 w;simp only[t0,t1,t4,t6,t7,t8,l5,hc5,e1,e2,cw,hw,Nat.zero_add,List.prefix_refl,go_sem]
      exact⟨hi1,by rw[if_pos (by omega),hia]⟩
    · rw[Ku w] at cw
      have hia:i≠a:=fun q=>w (by rw[q];exact hin)
      simp only[t0,t1,t4,t6,t7,t8,l5,hc5,e1,e2,cw,hw,Nat.zero_add,List.prefix_refl,go_sem];refine⟨hi1,?_⟩
      by_cases q:a<i
      · rw[if_pos q,if_pos (by omega)]
      · rw[if_neg q,if_neg (by omega)]
  have hin':i=n:=by omega
  rw[hin',if_pos ha] at t7
  clear hc hi
  simp only[t0,t1,t4,t6,t7,t8,l5,go_sem]
  refine zT n (fun i t' loc hh=>t' 0=p7 b 0∧t' 1=.int .i64 (B:Nat)∧t' 6=.int .i64 (n:Nat)∧t' 7=.int .i64 (a:Nat)∧t' 9=.int .i64 (i:Nat)∧loc 5=some c5∧Tn b (·=.n) g h' g hh∧hh.length=h'.length∧Rn g hh b es (opU s B i) M k dn V) ⟨rfl,rfl,rfl,rfl,rfl,by rw[hc5];rfl,Tn.refl R.ok,rfl,R.congr rfl rfl (fun _ _=>rfl) fun i _=>⟨rfl,rfl,by show (if i∈(s.mem B).take 0 then none else s.up i)=s.up i;simp,rfl,rfl,rfl⟩⟩ ?_
  clear t0 t1 t4 t6 t7 t8 l5 hin'
  clear t' loc i
  rintro i t' loc hh hi ⟨t0,t1,t6,t7,t9,l5,f1,hlen,R1⟩;simp only[t6,t9,go_sem]
  refine zt (by simp only[go_sem];rfl) ?_ ?_<;>intro hc
  · have hi1:i<n:=by omega
    have hw:IntKind.i64.wrap ((i:Int)+1)=((i+1:Nat):Int):=w64 (by omega) (by omega)
    have rB1:Has g hh (.rg B) 1 zf (V.rv B) (zq (ZW (s.mem B))):=R1.rg B hB
    obtain⟨e1,e2⟩:=vK rB1.rows (i:=i) (by rw[←hn];exact hi1)
    obtain⟨v,hv⟩:∃v,v=(s.mem B).getD i 0:=⟨_,rfl⟩
    have hvN:v<s.N:=hmem v (by rw[hv];exact zE (d:=0) (by rw[←hn];exact hi1))
    rw[←hv] at e2;obtain⟨h2,q1,q2,q3,q4,q5⟩:=R1.stUp (i:=v) hvN none;have hq1:stC hh (zz V.nv 6 v 4) [.int .i64 (-1)]=some h2:=q1
    have R2:Rn g h2 b es (opU s B (i+1)) M k dn V:=q5.congr rfl rfl (fun _ _=>rfl) fun j _=>⟨rfl,rfl,by
      show (if j∈(s.mem B).take (i+1) then none else s.up j)=if j=v then none else if j∈(s.mem B).take i then none else s.up j
      rw[Zj (d:=0) (by rw[←hn];exact hi1),←hv]
      by_cases z:j=v
      · rw[if_pos (by simp[z]),if_pos z]
      · rw[if_neg z]
        by_cases z2:j∈(s.mem B).take i
        · rw[if_pos (by simp[z2]),if_pos z2]
        · rw[if_neg (by simp[z,z2]),if_neg z2],rfl,rfl,rfl⟩
    have ni:=R1.nia (i:=v) hvN;have nf:=R1.nfa (i:=v) hvN;simp only[t0,t1,t6,t7,t9,l5,hc5,R1.chk,R1.fa,R1.ld3,e1,e2,ni,nf,hq1,hw,Nat.zero_add,List.prefix_refl,go_sem]
    exact⟨hi1,f1.trans q2,by rw[q3,hlen],R2⟩
  have hin':i=n:=by omega
  subst hin'
  clear hc hi
  obtain⟨h2,q1,q2,q3,q4,q5⟩:=R1.stGone (i:=B) hB;have ni:=R1.nia (i:=B) hB;have nf:=R1.nfa (i:=B) hB
  have R2:Rn g h2 b es (zr s B a) M k dn V:=q5.congr rfl rfl (fun _ _=>rfl) fun j _=>⟨rfl,rfl,by
    show (if j∈s.mem B then none else s.up j)=if j∈(s.mem B).take i then none else s.up j
    rw[hn,List.take_length],rfl,rfl,rfl⟩
  have f2:Tn b (fun τ=>τ=.n∨τ=.m) g h' g h2:=(f1.trans q2).mono fun _ q=>.inl q
  simp only[t0,t1,t6,t7,l5,R1.chk,R1.fa,R1.ld3,ni,nf,q1,Nat.zero_add,go_sem]
  refine zT (i / 2) (fun j t' loc hh=>t' 0=p7 b 0∧t' 6=.int .i64 (i:Nat)∧t' 7=.int .i64 (a:Nat)∧t' 10=.int .i64 ((2*j+1:Nat):Int)∧loc 5=some c5∧∃g' V',Tn b (fun τ=>τ=.n∨τ=.m) g h' g' hh∧Rn g' hh b es (zr s B a) (M++yR i a L j) k dn V'∧V'.bs=V.bs∧∀n,Far V n→Far V' n) ⟨rfl,rfl,rfl,rfl,by rw[hc5];rfl,g,V,f2,by simpa[yR] using R2,rfl,fun _ q=>q⟩ ?_
  clear t0 t1 t6 t7 t9 l5 q1
  clear t' loc
  rintro j t' loc h3 hj ⟨t0,t6,t7,t10,l5,g',V',f3,R3,eb,far3⟩;simp only[t6,t10,go_sem]
  refine zt (by simp only[go_sem];rfl) ?_ ?_<;>intro hc
  · have hj1:j<i / 2:=by omega
    have hw:IntKind.i64.wrap (((2*j+1:Nat):Int)+2)=((2*(j+1)+1:Nat):Int):=by rw[w64 (by omega) (by omega)];omega
    have hw2:IntKind.i64.wrap ((a:Int)+((2*j+1:Nat):Int))=((a+(2*j+1):Nat):Int):=w64 (by omega) (by omega)
    have hm:(((a+(2*j+1):Nat):Int)).tmod (i:Int)=(((a+(2*j+1))%i:Nat):Int):=rfl
    have hi0:¬((i:Int)=0):=by omega
    have hq:(a+(2*j+1))%i<L.length:=by rw[hLl];exact Nat.mod_lt _ (by omega)
    have hL3:Has g' h3 (.lk B) 2 zS (V.lv B) (L.map lkR):=hL.tn R.ok f3 (by simp)
    have el:=hL3.rows.el (f:=lkR) l0 hq;obtain⟨x,hx⟩:∃x,x=L.getD ((a+(2*j+1))%i) l0:=⟨_,rfl⟩;rw[←hx] at el
    have hMl:(M++yR i a L j).length<lim:=by
      rw[List.length_append];unfold yR lim;rw[List.length_map,List.length_range];omega
    obtain⟨v',h4,h5,g4,p1,p2,p3',p4,p5,far4⟩:=R3.pushM x hMl;have p6:cellsOf v'=some [v']:=p5.m.rows.cells;unfold lkR at p1 el;simp only[t0,t6,t7,t10,l5,hc5,R3.chk,R3.fa,R3.ld4,hw,hw2,hm,hi0,el.1,el.2.2,p1,xe p2,bZ p2,p3',p6,Nat.zero_add,zj,zi,List.prefix_refl,go_sem]
    refine⟨hj1,g4,{ V' with mv:=v' },f3.trans (p4.mono fun _ q=>.inr q),?_,eb,fun n q=>far4 n (far3 n q)⟩
    rw[dQ,←List.append_assoc,←hx];exact p5
  · have hjn:j=i / 2:=by omega
    subst hjn
    have hne:=R.diffL R3 (by
      rw[List.length_append];unfold yR;rw[List.length_map,List.length_range]
      omega)
    simp only[t0,go_sem];rw[Uj R.bl hne];exact⟨rfl,g',V',f3,R3,eb,far3⟩
end
theorem jz {n a d:Nat}(ha:a<n)(hd:d<n):dst n a ((a+d)%n)=d∧(a+d)%n<n:=by
  have hn:0<n:=by omega
  by_cases q:a+d<n
  · rw[Nat.mod_eq_of_lt q]
    unfold dst
    rw[if_pos (by omega)]
    omega
  · have e:(a+d)%n=a+d-n:=by
      rw[Nat.mod_eq_sub_mod (by omega),Nat.mod_eq_of_lt (by omega)]
    rw[e];unfold dst
    rw[if_neg (by omega)]
    omega
theorem zcI {n a q:Nat}(ha:a<n)(hq:q<n):(a+dst n a q)%n=q:=by
  unfold dst;split
  · rw[show a+(q-a)=q by omega,Nat.mod_eq_of_lt hq]
  · rw[show a+(q+n-a)=q+n by omega,Nat.add_mod_right,Nat.mod_eq_of_lt hq]
theorem zbc {n a d:Nat}(ha:a<n)(hd:d+1<n):pv n ((a+(d+1))%n)=(a+d)%n:=by
  unfold pv
  by_cases q:a+d+1<n
  · rw[Nat.mod_eq_of_lt (show a+(d+1)<n by omega),Nat.mod_eq_of_lt (show a+d<n by omega),if_neg (by omega)]
    omega
  · by_cases q2:a+d+1=n
    · rw[show a+(d+1)=n by omega,Nat.mod_self,if_pos rfl,Nat.mod_eq_of_lt (show a+d<n by omega)]
      omega
    · have e1:(a+(d+1))%n=a+d+1-n:=by rw[Nat.mod_eq_sub_mod (by omega),Nat.mod_eq_of_lt (by omega)];omega
      have e2:(a+d)%n=a+d-n:=by rw[Nat.mod_eq_sub_mod (by omega),Nat.mod_eq_of_lt (by omega)]
      rw[e1,e2,if_neg (by omega)]
      omega
theorem zaQ {n a d:Nat}:((a+d)%n+1)%n=(a+(d+1))%n:=by rw[Nat.mod_add_mod];rfl
section
variable {es:List E}{T:Nat→Prop}{s:Sv}{B a u q t e:Nat}{M L:List Lk}{size:Int}{x:Lk}
theorem cQ (K:Ok0 es T s)(hB:zg s B)(hb:s.up B=none)(hu':uh (zr s B a))(hw:Wi s u t)(ht:s.up t=none)(hne:t≠B):top (zr s B a) u=t:=by
  refine Zo hu' ((Q7 K hB hb).2 ⟨hw,fun q=>absurd q hne⟩) ?_
  show (if t∈s.mem B then none else s.up t)=none;split
  · rfl
  · exact ht
theorem kD (K:Ok0 es T s)(hB:zg s B)(hb:s.up B=none)(hu':uh (zr s B a))(hw:Wi s u t)(ht:t∈s.mem B):top (zr s B a) u=t:=by
  have hne:t≠B:=by have:=(K.memUp hB ht).2.1;omega
  refine Zo hu' ((Q7 K hB hb).2 ⟨hw,fun q=>absurd q hne⟩) ?_
  show (if t∈s.mem B then none else s.up t)=none;rw[if_pos ht]
theorem zcU {d:Nat}(ha:a<(s.mem B).length)(hd:d+1<(s.mem B).length)(hodd:d%2=1):opM s B a ((a+d)%(s.mem B).length)=some ((s.lnk B).getD ((a+d)%(s.mem B).length) 0)∧opM s B a ((a+(d+1))%(s.mem B).length)=some ((s.lnk B).getD ((a+d)%(s.mem B).length) 0):=by
  unfold opM
  rw[(jz ha (show d<_ by omega)).1,(jz ha hd).1,zbc ha hd]
  refine⟨by rw[if_neg (by omega),if_pos hodd],by rw[if_neg (by omega),if_neg (by omega)]⟩
theorem Fq (K : Ok0 es T s) (hB : zg s B) (hb : s.up B = none) (hu' : uh (zr s B a)) (ha : a < (s.mem B).length) (hL : gi es s B L) {j : Nat} (hj : j < (s.mem B).length / 2) :
    ∃q q',q<(s.mem B).length∧q'<(s.mem B).length∧dst (s.mem B).length a q=2*j+1∧dst (s.mem B).length a q'=2*j+2∧IsE es ((s.lnk B).getD q 0) (L.getD ((a+(2*j+1))%(s.mem B).length) l0) ∧
      (zr s B a).mate ((s.mem B).getD q 0)=some ((s.lnk B).getD q 0)∧(zr s B a).mate ((s.mem B).getD q' 0)=some ((s.lnk B).getD q 0)∧Jn es s ((s.lnk B).getD q 0) ((s.mem B).getD q 0) ((s.mem B).getD q' 0):=by
  obtain⟨r1,r2,r3,r4⟩:=K.ring B hB;obtain⟨k1,k2⟩:=K.lnk B hB
  have hd:2*j+1+1<(s.mem B).length:=by omega
  obtain⟨o1,o2⟩:=zcU (s:=s) (B:=B) ha hd (by omega)
  have d1:=jz ha (show 2*j+1<(s.mem B).length by omega)
  have d2:=jz ha hd
  refine⟨(a+(2*j+1))%(s.mem B).length,(a+(2*j+1+1))%(s.mem B).length,d1.2,d2.2,d1.1,d2.1,hL.2 _ (by rw[hL.1,k1];exact d1.2),by rw[Qd K hB d1.2];exact o1,by rw[Qd K hB d2.2];exact o2,?_⟩
  have:=(k2 _ d1.2).1;rw[zaQ] at this;exact this
theorem Yj (K:Ok0 es T s)(hB:zg s B){q q':Nat}(h1:q<(s.mem B).length)(h2:q'<(s.mem B).length)(e:(s.mem B).getD q 0=(s.mem B).getD q' 0):q=q':=by
  have i1:=JP K hB h1;have i2:=JP K hB h2;rw[e,i2] at i1;exact i1.symm
theorem zcJ (K : Ok0 es T s) (hB : zg s B) (hb : s.up B = none) (ha : a < (s.mem B).length) (hh : YQ es s B ((s.mem B).getD a 0)) (hL : gi es s B L) (m : QF es s M) (gk : GOk size es) (hl : M.length + (s.mem B).length ≤ 400) :
    QF es (zr s B a) (M++yR (s.mem B).length a L ((s.mem B).length / 2)):=by
  have hu:=K.upOk;have hu':uh (zr s B a):=(Uv K hB hb ha hh).upOk;obtain⟨r1,r2,r3,r4⟩:=K.ring B hB;have hBT:zc s B:=⟨hB.2.1,hb,hB.2.2⟩;have haM:(s.mem B).getD a 0∈s.mem B:=zw ha
  have notmem:∀ {t},s.up t=none→¬t∈s.mem B:=fun h q=>by have:=(K.memUp hB q).1;rw[h] at this;cases this
  have mate_old:∀ {t},s.up t=none→(zr s B a).mate t=s.mate t:=fun h=>by
    show (if _ then _ else _)=_;rw[if_neg (notmem h)]
  have mate_a:(zr s B a).mate ((s.mem B).getD a 0)=s.mate B:=by
    rw[Qd K hB ha];unfold opM dst;rw[if_pos (Nat.le_refl _),Nat.sub_self,if_pos rfl]
  have one:∀(x:Lk) (e:Nat),IsE es e x→s.mate (top s x.f)=some e→s.mate (top s x.t)=some e→top s x.f≠top s x.t→zc s (top s x.t)→top s x.f=B→top (zr s B a) x.f=(s.mem B).getD a 0∧top (zr s B a) x.t=top s x.t:=fun x e h1 h2 h3 h4 h5 h6=>by
    rw[h6] at h2 h4
    have wf:Wi s x.f B:=by rw[←h6];exact ZO hu
    have wt:Wi s x.t (top s x.t):=ZO hu
    have jn:Jn es s e B (top s x.t):=by
      refine⟨h1.1,?_⟩;rcases h1.2 with⟨q1,q2⟩ | ⟨q1,q2⟩
      · exact .inl ⟨by rw[←q1];exact wf,by rw[←q2];exact wt⟩
      · exact .inr ⟨by rw[←q1];exact wf,by rw[←q2];exact wt⟩
    have ja:=hh.1 e (top s x.t) h2 h5 (Ne.symm h4) h3 jn;refine⟨?_,cQ K hB hb hu' wt h5.2.1 (Ne.symm h4)⟩;rcases yG ja h1 with⟨w1,_⟩ | ⟨_,w2⟩
    · exact kD K hB hb hu' w1 haM
    · exact absurd ((Zo hu wf hb).symm.trans (Zo hu w2 h5.2.1)) h4
  have topA:zc (zr s B a) ((s.mem B).getD a 0):=(Zy K hB).2 (.inr haM)
  have newmem:∀y∈yR (s.mem B).length a L ((s.mem B).length / 2),∃j,j<(s.mem B).length / 2∧y=L.getD ((a+(2*j+1))%(s.mem B).length) l0:=fun y hy=>by
    unfold yR at hy;obtain⟨j,hj,rfl⟩:=List.mem_map.1 hy;exact⟨j,List.mem_range.1 hj,rfl⟩
  refine⟨fun x hx=>?_,fun t e ht he=>?_,?_,?_⟩
  · rcases List.mem_append.1 hx with hx | hx
    · obtain⟨e,h1,h2,h3,h4,h5,h6⟩:=m.of x hx
      by_cases c1:top s x.f=B
      · obtain⟨q1,q2⟩:=one x e h1 h2 h3 h4 h6 c1
        rw[c1] at h2 h4
        refine⟨e,h1,by rw[q1,mate_a];exact h2,by rw[q2,mate_old h6.2.1];exact h3,?_,by rw[q1];exact topA,by rw[q2];exact (Zy K hB).2 (.inl ⟨h6,Ne.symm h4⟩)⟩
        rw[q1,q2]
        exact fun q=>notmem h6.2.1 (q▸haM)
      · by_cases c2:top s x.t=B
        · obtain⟨q1,q2⟩:=one x.rev e h1.rev h3 h2 (Ne.symm h4) h5 c2
          have q1':top (zr s B a) x.t=(s.mem B).getD a 0:=q1;have q2':top (zr s B a) x.f=top s x.f:=q2;rw[c2] at h3
          refine⟨e,h1,by rw[q2',mate_old h5.2.1];exact h2,by rw[q1',mate_a];exact h3,?_,by rw[q2'];exact (Zy K hB).2 (.inl ⟨h5,c1⟩),by rw[q1'];exact topA⟩
          rw[q1',q2']
          exact fun q=>notmem h5.2.1 (q▸haM)
        · have t1:=cQ K hB hb hu' (ZO hu (v:=x.f)) h5.2.1 c1
          have t2:=cQ K hB hb hu' (ZO hu (v:=x.t)) h6.2.1 c2
          exact⟨e,h1,by rw[t1,mate_old h5.2.1];exact h2,by rw[t2,mate_old h6.2.1];exact h3,by rw[t1,t2];exact h4,by rw[t1];exact (Zy K hB).2 (.inl ⟨h5,c1⟩),by rw[t2];exact (Zy K hB).2 (.inl ⟨h6,c2⟩)⟩
    · obtain⟨j,hj,rfl⟩:=newmem x hx
      obtain⟨q,q',z1,z2,z3,z4,z5,z6,z7,z8⟩:=Fq K hB hb hu' ha hL hj;have m1:=zw (l:=s.mem B) z1;have m2:=zw (l:=s.mem B) z2
      have hne:(s.mem B).getD q 0≠(s.mem B).getD q' 0:=fun e=>by
        have:=Yj K hB z1 z2 e;rw[this] at z3;omega
      have T1:zc (zr s B a) ((s.mem B).getD q 0):=(Zy K hB).2 (.inr m1);have T2:zc (zr s B a) ((s.mem B).getD q' 0):=(Zy K hB).2 (.inr m2);rcases yG z8 z5 with⟨w1,w2⟩ | ⟨w1,w2⟩
      · have t1:=kD K hB hb hu' w1 m1
        have t2:=kD K hB hb hu' w2 m2
        exact⟨_,z5,by rw[t1];exact z6,by rw[t2];exact z7,by rw[t1,t2];exact hne,by rw[t1];exact T1,by rw[t2];exact T2⟩
      · have t1:=kD K hB hb hu' w1 m1
        have t2:=kD K hB hb hu' w2 m2
        exact⟨_,z5,by rw[t2];exact z7,by rw[t1];exact z6,by rw[t1,t2];exact Ne.symm hne,by rw[t2];exact T2,by rw[t1];exact T1⟩
  · have fromNew:∀ {d:Nat},d%2=1→d+1<(s.mem B).length→∃x∈M++yR (s.mem B).length a L ((s.mem B).length / 2),IsE es ((s.lnk B).getD ((a+d)%(s.mem B).length) 0) x:=fun {d} h1 h2=>by
      refine⟨L.getD ((a+d)%(s.mem B).length) l0,List.mem_append_right _ ?_,hL.2 _ (by rw[hL.1,(K.lnk B hB).1];exact (jz ha (show d<_ by omega)).2)⟩
      unfold yR
      refine List.mem_map.2 ⟨d / 2,List.mem_range.2 (by omega),?_⟩
      rw[show 2*(d / 2)+1=d by omega]
    rcases (Zy K hB).1 ht with⟨h1,_⟩ | hm
    · rw[mate_old h1.2.1] at he
      obtain⟨x,hx,hx2⟩:=m.all t e h1 he;exact⟨x,List.mem_append_left _ hx,hx2⟩
    · obtain⟨i1,i2⟩:=Yg hm
      obtain⟨q,hq⟩:∃q,q=(s.mem B).idxOf t:=⟨_,rfl⟩;rw[←hq] at i1 i2;rw[←i2,Qd K hB i1] at he;have hmd:=zcI ha i1;have dl:=fO ha i1;obtain⟨d,hd⟩:∃d,d=dst (s.mem B).length a q:=⟨_,rfl⟩;unfold opM at he;rw[←hd] at he hmd dl
      by_cases c0:d=0
      · rw[if_pos c0] at he
        obtain⟨x,hx,hx2⟩:=m.all B e hBT he;exact⟨x,List.mem_append_left _ hx,hx2⟩
      · rw[if_neg c0] at he
        by_cases c1:d%2=1
        · rw[if_pos c1] at he
          cases he
          have:=fromNew c1 (by omega)
          rw[hmd] at this;exact this
        · rw[if_neg c1] at he
          cases he
          have h3:=fromNew (d:=d-1) (by omega) (by omega)
          have:=zbc (a:=a) (d:=d-1) ha (by omega)
          rw[show d-1+1=d by omega,hmd] at this
          rw[this];exact h3
  · rw[List.pairwise_append]
    refine⟨m.nd,?_,fun x hx y hy e h1 h2=>?_⟩
    · unfold yR
      rw[List.pairwise_map];refine List.Pairwise.imp_of_mem ?_ List.pairwise_lt_range;intro j1 j2 hj1 hj2 hlt e h1 h2;obtain⟨q1,p1,a1,a2,a3,a4,a5,_,_,a8⟩:=Fq K hB hb hu' ha hL (List.mem_range.1 hj1);obtain⟨q2,p2,b1,b2,b3,b4,b5,_,_,b8⟩:=Fq K hB hb hu' ha hL (List.mem_range.1 hj2);have e1:=Ul gk h1 a5;have e2:=Ul gk h2 b5;rw[←e1] at a8 a5;rw[←e2] at b8
      have tq:∀ {u q:Nat},q<(s.mem B).length→Wi s u ((s.mem B).getD q 0)→top (zr s B a) u=(s.mem B).getD q 0:=fun hq hw=>kD K hB hb hu' hw (zw hq)
      rcases yG a8 h1 with⟨w1,w2⟩ | ⟨w1,w2⟩<;>rcases yG b8 h1 with⟨v1,v2⟩ | ⟨v1,v2⟩
      · have:=Yj K hB a1 b1 ((tq a1 w1).symm.trans (tq b1 v1))
        rw[this] at a3;omega
      · have:=Yj K hB a1 b2 ((tq a1 w1).symm.trans (tq b2 v2))
        rw[this] at a3;omega
      · have:=Yj K hB a1 b2 ((tq a1 w1).symm.trans (tq b2 v2))
        rw[this] at a3;omega
      · have:=Yj K hB a1 b1 ((tq a1 w1).symm.trans (tq b1 v1))
        rw[this] at a3;omega
    · obtain⟨j,hj,rfl⟩:=newmem y hy
      obtain⟨q,q',z1,z2,z3,z4,z5,z6,z7,z8⟩:=Fq K hB hb hu' ha hL hj;have e2:=Ul gk h2 z5;rw[←e2] at z8;obtain⟨e',h1',_,_,h4,_⟩:=m.of x hx
      have up1:∀ {u q:Nat},q<(s.mem B).length→Wi s u ((s.mem B).getD q 0)→top s u=B:=fun hq hw=>Zo hu (hw.trans (Wi.one (r4 _ (zw hq)))) hb
      rcases yG z8 h1 with⟨w1,w2⟩ | ⟨w1,w2⟩
      · exact h4 ((up1 z1 w1).trans (up1 z2 w2).symm)
      · exact h4 ((up1 z2 w2).trans (up1 z1 w1).symm)
  · rw[List.length_append]
    unfold yR;rw[List.length_map,List.length_range];omega
end
section
variable {es:List E}{T:Nat→Prop}{s:Sv}{B a u q t e:Nat}{M L:List Lk}{size:Int}{x:Lk}
theorem Ge (K:Ok0 es T s){e:Nat}{x:Lk}(h:IsE es e x):x.f<s.n∧x.t<s.n:=by
  have:=K.ed e h.1
  rcases h.2 with⟨h1,h2⟩ | ⟨h1,h2⟩<;>omega
theorem CA (K:Ok0 es T s)(m:QF es s M):∀x∈M,x.f<s.N∧x.t<s.N:=fun x hx=>by
  obtain⟨e,h1,_⟩:=m.of x hx;have:=Ge K h1;have:=K.nN;omega
theorem zaR (K:Ok0 es T s)(h1:∀x∈M,∃e,IsE es e x∧s.mate (top s x.f)=some e)(h2:M.Pairwise fun x y=>∀e,IsE es e x→¬IsE es e y):M.length≤s.n:=by
  have hn:(M.map (·.f)).Nodup:=by
    rw[List.nodup_iff_pairwise_ne,List.pairwise_map];refine List.Pairwise.imp_of_mem ?_ h2;intro x y hx hy hxy e;obtain⟨e1,a1,a2⟩:=h1 x hx;obtain⟨e2,b1,b2⟩:=h1 y hy;rw[e,b2] at a2;cases a2;exact hxy e1 a1 b1
  have:=qw (a:=M.map (·.f)) (b:=List.range s.n) hn fun v hv=>by
    obtain⟨x,hx,rfl⟩:=List.mem_map.1 hv;obtain⟨e1,a1,_⟩:=h1 x hx;exact List.mem_range.2 (Ge K a1).1
  rw[List.length_map,List.length_range] at this;exact this
theorem yL (m:QF es s M)(h:vr s t M=some x):zc s t∧∃e,IsE es e x∧s.mate t=some e∧top s x.f=t:=by
  obtain⟨u,hu,hr⟩:=List.exists_of_findSome?_eq_some h;obtain⟨e,h1,h2,h3,h4,h5,h6⟩:=m.of u hu;unfold yM at hr;split at hr
  · next c=>cases hr;rw[c] at h2 h5;exact⟨h5,e,h1,h2,c⟩
  · split at hr
    · next c=>cases hr;rw[c] at h3 h6;exact⟨h6,e,h1.rev,h3,c⟩
    · cases hr
theorem kN (K:Ok0 es T s)(m:QF es s M)(h:vr s t M=none)(ht:zc s t):s.mate t=none:=by
  cases hm:s.mate t with
  | none=>rfl
  | some e =>
    exfalso;obtain⟨u,hu,h1⟩:=m.all t e ht hm;have h2:=List.findSome?_eq_none_iff.1 h u hu;obtain⟨_,o,ho,hne,hmo,hj⟩:=K.mate t e ht hm;have hi:=K.upOk;unfold yM at h2;rcases yG hj h1 with⟨q,_⟩ | ⟨q,_⟩
    · rw[if_pos (Zo hi q ht.2.1)] at h2;cases h2
    · by_cases c:top s u.f=t
      · rw[if_pos c] at h2;cases h2
      · rw[if_neg c,if_pos (Zo hi q ht.2.1)] at h2;cases h2
theorem wT.opn {bs:Nat→Nat}(hbs:wT s bs)(K:Ok0 es T s)(hB:zg s B)(hb:s.up B=none)(ha:a<(s.mem B).length)(hh:YQ es s B ((s.mem B).getD a 0)):wT (zr s B a) bs:=by
  intro t i ht hm hw hv;have hw1:=((Q7 K hB hb).1 hw).1;have hv1:=((Q7 K hB hb).1 hv).1;have hu:=K.upOk;rcases (Zy K hB).1 ht with⟨h1,h2⟩ | h1
  · have hm':s.mate t=none:=by
      have e:(zr s B a).mate t=s.mate t:=by
        show (if t∈s.mem B then _ else s.mate t)=_
        rw[if_neg fun q=>by have:=(K.memUp hB q).1;rw[h1.2.1] at this;cases this]
      rw[←e];exact hm
    exact hbs t i h1 hm' hw1 hv1
  · obtain⟨q,hq,rfl⟩:=Zv (d:=0) h1
    rw[Qd K hB hq] at hm
    have hq0:dst (s.mem B).length a q=0:=by
      by_cases z:dst (s.mem B).length a q=0
      · exact z
      · unfold opM at hm
        rw[if_neg z] at hm
        split at hm<;>cases hm
    have hqa:q=a:=by unfold dst at hq0;split at hq0<;>omega
    have hmB:s.mate B=none:=by unfold opM at hm;rw[if_pos hq0] at hm;exact hm
    have mu:=(K.memUp hB h1).1;have hBT:zc s B:=⟨hB.2.1,hb,hB.2.2⟩;have hbw:=hh.2 hmB;obtain⟨j,hj,ej⟩:=K.baseM B hB;obtain⟨c1,c2,c3,c4⟩:=K.memUp hB hj;have hbj:=(K.base j c3 c4).2
    have key:∀ {p q:Nat},s.up p=some B→s.up q=some B→Wi s p q→p=q:=fun {p q} hp hq hpq=>by
      cases hpq with
      | refl=>rfl
      | step e k =>
        rw[hp] at e;cases e;have:=(hu _ _ hq).1;have:=k.le hu;omega
    rw[←hqa] at hbw
    have ej2:j=(s.mem B).getD q 0:=by
      rw[←ej] at hbj;rcases hbj.chain hbw with k | k
      · exact key c1 mu k
      · exact (key mu c1 k).symm
    rw[ej2] at ej;refine hbs B i hBT hmB (hw1.trans (.one mu)) ?_;rw[ej];exact hv1
theorem zcb {bs:Nat→Nat}(hbs:wT s bs)(K:Ok0 es T s)(m:QF es s M)(hB:zg s B)(hb:s.up B=none):vT s bs M B<s.n∧∃a,a<(s.mem B).length∧Wi s (vT s bs M B) ((s.mem B).getD a 0)∧(∀j,j<(s.mem B).length→Wi s (vT s bs M B) ((s.mem B).getD j 0)→j=a)∧YQ es s B ((s.mem B).getD a 0):=by
  have hBT:zc s B:=⟨hB.2.1,hb,hB.2.2⟩;have hu:=K.upOk
  have hbB:s.mate B=none→bs B=s.base B:=fun q=>hbs B B hBT q (.refl _) (K.base B hB.2.1 hB.2.2).2
  obtain⟨h1,h2⟩:vT s bs M B<s.n∧Wi s (vT s bs M B) B:=by
    unfold vT
    cases hm:vr s B M with
    | some x =>
      obtain⟨_,e,q1,_,q3⟩:=yL m hm
      exact⟨(Ge K q1).1,by rw[←q3];exact ZO hu⟩
    | none =>
      show bs B<s.n∧Wi s (bs B) B;rw[hbB (kN K m hm hBT)];exact K.base B hB.2.1 hB.2.2
  refine⟨h1,?_⟩
  obtain⟨v,hv,hw⟩:∃v,s.up v=some B∧Wi s (vT s bs M B) v:=by
    rcases h2.last with e | q
    · have:=hB.1;omega
    · exact q
  obtain⟨a,ha,e⟩:=Zv (d:=0) (K.up v B hv).2.2.2
  refine⟨a,ha,by rw[e];exact hw,fun j hj hwj=>?_,?_⟩
  · have uj:=(K.memUp hB (zw hj)).1
    have key:∀ {p q:Nat},s.up p=some B→s.up q=some B→Wi s p q→p=q:=fun {p q} hp hq hpq=>by
      cases hpq with
      | refl=>rfl
      | step e k =>
        rw[hp] at e;cases e;have:=(hu _ _ hq).1;have:=k.le hu;omega
    refine Yj K hB hj ha ?_;rw[e];rcases hwj.chain hw with k | k
    · exact key uj hv k
    · exact (key hv uj k).symm
  · rw[e]
    refine⟨fun f o h1' h2' h3' h4' h5'=>?_,fun hn=>?_⟩
    · cases hm:vr s B M with
      | none=>rw[kN K m hm hBT] at h1';cases h1'
      | some x =>
        obtain⟨_,f',q1,q2,q3⟩:=yL m hm;rw[h1'] at q2;cases q2
        have hbx:vT s bs M B=x.f:=by unfold vT;rw[hm]
        rw[hbx] at hw;refine⟨q1.1,?_⟩;rcases yG h5' q1 with⟨w1,w2⟩ | ⟨w1,w2⟩
        · rcases q1.2 with⟨p1,p2⟩ | ⟨p1,p2⟩
          · exact .inl ⟨by rw[←p1];exact hw,by rw[←p2];exact w2⟩
          · exact .inr ⟨by rw[←p1];exact hw,by rw[←p2];exact w2⟩
        · exact absurd (q3.symm.trans (Zo hu w2 h2'.2.1)) (Ne.symm h3')
    · cases hm:vr s B M with
      | some x =>
        obtain⟨_,f',_,q2,_⟩:=yL m hm;rw[hn] at q2;cases q2
      | none =>
        have hbx:vT s bs M B=s.base B:=by rw[←hbB hn];unfold vT;rw[hm]
        rw[hbx] at hw;exact hw
theorem zbk (K:Ok0 es T s)(hB:zg s B):(s.mem B).length≤s.n:=by
  have hu:=K.upOk
  have hn:((s.mem B).map s.base).Nodup:=by
    rw[List.nodup_iff_pairwise_ne,List.pairwise_map];refine List.Pairwise.imp_of_mem ?_ (List.nodup_iff_pairwise_ne.1 (K.ring B hB).2.2.1);intro p q hp hq hpq e;obtain⟨p1,p2,p3,p4⟩:=K.memUp hB hp;obtain⟨q1,q2,q3,q4⟩:=K.memUp hB hq;have b1:=(K.base p p3 p4).2;have b2:=(K.base q q3 q4).2;rw[e] at b1
    have key:∀ {p q:Nat},s.up p=some B→s.up q=some B→Wi s p q→p=q:=fun {p q} hp hq hpq=>by
      cases hpq with
      | refl=>rfl
      | step e k =>
        rw[hp] at e;cases e;have:=(hu _ _ hq).1;have:=k.le hu;omega
    rcases b1.chain b2 with k | k
    · exact hpq (key p1 q1 k)
    · exact hpq (key q1 p1 k).symm
  have:=qw (a:=(s.mem B).map s.base) (b:=List.range s.n) hn fun v hv=>by
    obtain⟨p,hp,rfl⟩:=List.mem_map.1 hv;obtain⟨_,_,p3,p4⟩:=K.memUp hB hp;exact List.mem_range.2 (K.base p p3 p4).1
  rw[List.length_map,List.length_range] at this;exact this
end
section
variable {X:Zb}{g:Ql}{h:za}{b k B:Nat}{es:List E}{T:Nat→Prop}{s:Sv}{M:List Lk}{dn:Bool}{V:RV}{size:Int}
theorem J2 (hbs : wT s V.bs) (R : Rn g h b es s M k dn V) (K : Ok0 es T s) (m : QF es s M) (gk : GOk size es) (hn : s.n ≤ 9) (hN : s.N ≤ 400) (hB : zg s B) (hb : s.up B = none) :
    ∃a h' g' V' M',C Ab.T X qe [p7 b 0,.int .i64 (B:Nat)] h=some (.tuple ⟨[]⟩,h')∧Tn b (fun τ=>τ=.n∨τ=.m) g h g' h'∧Rn g' h' b es (zr s B a) M' k dn V'∧QF es (zr s B a) M'∧a<(s.mem B).length∧YQ es s B ((s.mem B).getD a 0)∧(V'.bs=V.bs∧wT (zr s B a) V'.bs)∧∀n,Far V n→Far V' n:=by
  obtain⟨b1,a,a1,a2,a3,a4⟩:=zcb hbs K m hB hb;obtain⟨r1,r2,r3,r4⟩:=K.ring B hB;obtain⟨L,l1,l2⟩:=R.lk B hB.2.1;have rl:=zbk K hB
  have ml:=zaR K (fun x hx=>by obtain⟨e,q1,q2,_⟩:=m.of x hx;exact⟨e,q1,q2⟩) m.nd
  have nN:=K.nN
  obtain⟨h',g',V',c,f,R',eb,far⟩:=dD (X:=X) R K.upOk (CA K m) (by omega) hB.2.1 r1 (by omega) r2 (fun v hv=>(K.memUp hB hv).2.2.1) r3 l1 (by rw[l2.1,(K.lnk B hB).1]) rfl (by omega) a1 a2 a3 hN
  exact⟨a,h',g',V',_,c,f,R',zcJ K hB hb a1 a4 l2 m gk (by omega),a1,a4,⟨eb,by rw[eb];exact hbs.opn K hB hb a1 a4⟩,far⟩
end
def Wa (l:Lb)(xs:List Nat):List Nat:=xs.filter fun t=>decide (l.lab t=2)
def woL (s:Sv)(zs:List Nat)(y:Lk):Bool:=zs.all fun t=>woP s t y
theorem cU {s:Sv}{xs ys:List Nat}{y:Lk}:woL s (xs++ys) y=true↔∀t,t∈xs∨t∈ys→top s y.f≠t∧top s y.t≠t:=by
  unfold woL woP;rw[List.all_eq_true];simp only[List.mem_append,decide_eq_true_eq]
theorem zbU {s:Sv}{zs:List Nat}{t:Nat}{M:List Lk}:(M.filter (woL s zs)).filter (woP s t)=M.filter (woL s (zs++[t])):=by
  rw[List.filter_filter]
  refine List.filter_congr fun y _=>?_
  unfold woL;rw[List.all_append,Bool.and_comm];simp
section
variable {es:List E}{s:Sv}{l:Lb}{rk:Nat→Nat}{e f j t u:Nat}{xs ys:List Nat}{M A':List Lk}{L Q:List Nat}{A:List Lk}{size:Int}{x y:Lk}
theorem zbO {m:Nat→Option Nat}:top (Z6 s m) u=top s u:=by
  have:∀n v,kC (Z6 s m) n v=kC s n v:=by
    intro n
    induction n with
    | zero=>intro v;rfl
    | succ n ih =>
      intro v
      show (match s.up v with | none=>v | some p=>kC (Z6 s m) n p)=match s.up v with | none=>v | some p=>kC s n p
      cases s.up v with
      | none=>rfl
      | some p=>exact ih p
  exact this _ _
theorem zaC {m:Nat→Option Nat}:zc (Z6 s m) t↔zc s t:=Iff.rfl
theorem BF (G : Aug es s l rk e xs ys) (K : Ok es s) (D : Tl es s l L A Q) (hj : j < xs.length) (ho : l.lab (xs.getD j 0) = 2) :
    ∃f,IsE es f (A.getD (xs.getD j 0) l0)∧j+1<xs.length∧j%2=1∧top s (A.getD (xs.getD j 0) l0).f=xs.getD (j+1) 0∧top s (A.getD (xs.getD j 0) l0).t=xs.getD j 0∧uC l e xs j=some f∧uC l e xs (j+1)=some f:=by
  have hl:=ZA G.F G.wx G.x0 j hj
  have hodd:j%2=1:=by omega
  have hlen:=gf G.F G.wx G.x0
  have hj1:j+1<xs.length:=by omega
  have hn:=qf G.wx hj1
  have hT:=G.F.top (xs.getD j 0) (by omega)
  obtain⟨f,f1,f2,f3,f4⟩:=D.ah _ _ hT.1 hn;refine⟨f,f2,hj1,hodd,f3,f4,?_,?_⟩
  · unfold uC
    rw[if_neg (by omega),if_pos hodd,f1]
  · unfold uC
    rw[if_neg (by omega),if_neg (by omega),show j+1-1=j by omega,f1]
theorem Aug.flip (G:Aug es s l rk e xs ys):Aug es s l rk e ys xs:=⟨G.F,G.wy,G.wx,G.y0,G.x0,G.tight,⟨G.cn.1,G.cn.2.symm.imp (fun q=>⟨q.2,q.1⟩) fun q=>⟨q.2,q.1⟩⟩,fun t h1 h2=>G.dis t h2 h1⟩
theorem gz (h1:¬t∈xs)(h2:¬t∈ys):qL s l e xs ys t=s.mate t:=by unfold qL;rw[if_neg h1,if_neg h2]
theorem zeq (G : Aug es s l rk e xs ys) (K : Ok es s) (D : Tl es s l L A Q) (m : QF es s M) (gk : GOk size es) (h9 : s.n ≤ 9) (he : IsE es e x) (hx : (top s x.f = xs.getD 0 0 ∧ top s x.t = ys.getD 0 0)) :
    QF es (Z6 s (qL s l e xs ys)) ((M.filter (woL s (xs++ys)))++x::(Wa l xs++Wa l ys).map fun t=>A.getD t l0):=by
  have hu:=K.upOk;have hxp:=VE G.wx;have hyp:=VE G.wy;have K':=gA G K
  have mx:∀ {j},j<xs.length→qL s l e xs ys (xs.getD j 0)=uC l e xs j:=fun h=>G.fx h
  have my:∀ {j},j<ys.length→qL s l e xs ys (ys.getD j 0)=uC l e ys j:=fun h=>G.fy h
  have topx:∀ {j},j<xs.length→zc s (xs.getD j 0):=fun h=>G.F.top _ (by rw[ZA G.F G.wx G.x0 _ h];omega)
  have topy:∀ {j},j<ys.length→zc s (ys.getD j 0):=fun h=>G.F.top _ (by rw[ZA G.F G.wy G.y0 _ h];omega)
  have odd:∀t∈Wa l xs++Wa l ys,l.lab t=2∧∃f o,IsE es f (A.getD t l0)∧top s (A.getD t l0).f=o∧top s (A.getD t l0).t=t∧l.lab o=1∧zc s o∧zc s t∧qL s l e xs ys o=some f∧qL s l e xs ys t=some f∧(t∈xs∨t∈ys)∧(o∈xs∨o∈ys):=fun t ht=>by
    rcases List.mem_append.1 ht with h | h
    · obtain⟨h1,h2⟩:=List.mem_filter.1 h
      have h2':l.lab t=2:=by simpa using h2
      obtain⟨j,hj,hjt⟩:=Zv (d:=0) h1;rw[←hjt] at h2' ⊢;obtain⟨f,a1,a2,a3,a4,a5,a6,a7⟩:=BF G K D hj h2'
      refine⟨h2',f,_,a1,a4,a5,?_,topx a2,topx hj,by rw[mx a2];exact a7,by rw[mx hj];exact a6,.inl (zE (d:=0) hj),.inl (zE (d:=0) a2)⟩
      rw[ZA G.F G.wx G.x0 _ a2];omega
    · obtain⟨h1,h2⟩:=List.mem_filter.1 h
      have h2':l.lab t=2:=by simpa using h2
      obtain⟨j,hj,hjt⟩:=Zv (d:=0) h1;rw[←hjt] at h2' ⊢;obtain⟨f,a1,a2,a3,a4,a5,a6,a7⟩:=BF G.flip K D hj h2'
      refine⟨h2',f,_,a1,a4,a5,?_,topy a2,topy hj,by rw[my a2];exact a7,by rw[my hj];exact a6,.inr (zE (d:=0) hj),.inr (zE (d:=0) a2)⟩
      rw[ZA G.F G.wy G.y0 _ a2];omega
  have hof:∀y∈(M.filter (woL s (xs++ys)))++x::(Wa l xs++Wa l ys).map fun t=>A.getD t l0,∃e',IsE es e' y∧(Z6 s (qL s l e xs ys)).mate (top (Z6 s (qL s l e xs ys)) y.f)=some e'∧(Z6 s (qL s l e xs ys)).mate (top (Z6 s (qL s l e xs ys)) y.t)=some e'∧top (Z6 s (qL s l e xs ys)) y.f≠top (Z6 s (qL s l e xs ys)) y.t∧zc (Z6 s (qL s l e xs ys)) (top (Z6 s (qL s l e xs ys)) y.f)∧zc (Z6 s (qL s l e xs ys)) (top (Z6 s (qL s l e xs ys)) y.t):=fun y hy=>by
    simp only[zbO,zaC];show ∃e',IsE es e' y∧qL s l e xs ys (top s y.f)=some e'∧qL s l e xs ys (top s y.t)=some e'∧_;rcases List.mem_append.1 hy with hy | hy
    · obtain⟨h1,h2⟩:=List.mem_filter.1 hy
      have h2':=cU.1 h2;obtain⟨e',q1,q2,q3,q4,q5,q6⟩:=m.of y h1
      have o1:qL s l e xs ys (top s y.f)=s.mate (top s y.f):=gz (fun q=>(h2' _ (.inl q)).1 rfl) fun q=>(h2' _ (.inr q)).1 rfl
      have o2:qL s l e xs ys (top s y.t)=s.mate (top s y.t):=gz (fun q=>(h2' _ (.inl q)).2 rfl) fun q=>(h2' _ (.inr q)).2 rfl
      exact⟨e',q1,by rw[o1];exact q2,by rw[o2];exact q3,q4,q5,q6⟩
    · rcases List.mem_cons.1 hy with hy | hy
      · rw[hy,hx.1,hx.2]
        refine⟨e,he,by rw[mx hxp];rfl,by rw[my hyp];rfl,fun q=>?_,topx hxp,topy hyp⟩
        exact G.dis _ (zE (d:=0) hxp) (by rw[q];exact zE (d:=0) hyp)
      · obtain⟨t,ht,rfl⟩:=List.mem_map.1 hy
        obtain⟨lt,f,o,a1,a2,a3,a4,a5,a6,a7,a8,_,_⟩:=odd t ht;rw[a2,a3]
        exact⟨f,a1,a7,a8,fun q=>(by rw[q,lt] at a4;cases a4),a5,a6⟩
  have hnd:((M.filter (woL s (xs++ys)))++x::(Wa l xs++Wa l ys).map fun t=>A.getD t l0).Pairwise fun x y=>∀e,IsE es e x→¬IsE es e y:=by
    have same:∀ {y z:Lk} {e':Nat},IsE es e' y→IsE es e' z→(top s y.f=top s z.f∧top s y.t=top s z.t)∨(top s y.f=top s z.t∧top s y.t=top s z.f):=fun h1 h2=>by
      rcases h1.2 with⟨p1,p2⟩ | ⟨p1,p2⟩<;>rcases h2.2 with⟨q1,q2⟩ | ⟨q1,q2⟩<;>rw[p1,p2,q1,q2]<;>simp
    rw[List.pairwise_append,List.pairwise_cons]
    refine⟨m.nd.filter _,⟨fun z hz e' h1 h2=>?_,?_⟩,fun y hy z hz e' h1 h2=>?_⟩
    · obtain⟨t,ht,rfl⟩:=List.mem_map.1 hz
      obtain⟨lt,f,o,a1,a2,a3,a4,_⟩:=odd t ht;rcases same h1 h2 with⟨_,q⟩ | ⟨q,_⟩
      · rw[a3,hx.2] at q;have:=G.y0;rw[q,lt] at this;cases this
      · rw[a3,hx.1] at q;have:=G.x0;rw[q,lt] at this;cases this
    · rw[List.pairwise_map]
      have hnd:(Wa l xs++Wa l ys).Nodup:=by
        rw[List.nodup_append]
        refine⟨(FD G.F G.wx G.x0).filter _,(FD G.F G.wy G.y0).filter _,fun a ha c hc q=>?_⟩
        rw[q] at ha;exact G.dis _ (List.mem_filter.1 ha).1 (List.mem_filter.1 hc).1
      refine List.Pairwise.imp_of_mem ?_ (List.nodup_iff_pairwise_ne.1 hnd);intro t t' ht ht' hne e' h1 h2;obtain⟨lt,f,o,a1,a2,a3,a4,_⟩:=odd t ht;obtain⟨lt',f',o',b1,b2,b3,b4,_⟩:=odd t' ht';rcases same h1 h2 with⟨_,q⟩ | ⟨_,q⟩
      · rw[a3,b3] at q;exact hne q
      · rw[a3,b2] at q;rw[q,b4] at lt;cases lt
    · obtain⟨hy1,hy2⟩:=List.mem_filter.1 hy
      have hy3:=cU.1 hy2;rcases List.mem_cons.1 hz with hz | hz
      · rw[hz] at h2
        rcases same h1 h2 with⟨q,_⟩ | ⟨_,q⟩
        · exact (hy3 _ (.inl (zE (d:=0) hxp))).1 (q.trans hx.1)
        · exact (hy3 _ (.inl (zE (d:=0) hxp))).2 (q.trans hx.1)
      · obtain⟨t,ht,rfl⟩:=List.mem_map.1 hz
        obtain⟨lt,f,o,a1,a2,a3,a4,_,_,_,_,a9,_⟩:=odd t ht;rcases same h1 h2 with⟨_,q⟩ | ⟨q,_⟩
        · exact (hy3 t a9).2 (q.trans a3)
        · exact (hy3 t a9).1 (q.trans a3)
  have hle:_≤s.n:=zaR (s:=Z6 s (qL s l e xs ys)) K'.ok0 (fun y hy=>by obtain⟨e',q1,q2,_⟩:=hof y hy;exact⟨e',q1,q2⟩) hnd
  refine⟨hof,fun t f ht hf=>?_,hnd,by omega⟩
  have hf':qL s l e xs ys t=some f:=hf
  have way:∀ {zs:List Nat} {ws:List Nat},Aug es s l rk e zs ws→(∀ {j},j<zs.length→qL s l e xs ys (zs.getD j 0)=uC l e zs j)→(∀q∈Wa l zs,q∈Wa l xs++Wa l ys)→t∈zs→∃y∈x::(Wa l xs++Wa l ys).map fun t=>A.getD t l0,IsE es f y:=fun {zs ws} G' hm hin hz=>by
    obtain⟨j,hj,hjt⟩:=Zv (d:=0) hz;rw[←hjt,hm hj] at hf';have hlj:=ZA G'.F G'.wx G'.x0 j hj
    by_cases c0:j=0
    · unfold uC at hf'
      rw[if_pos c0] at hf';cases hf';exact⟨x,List.mem_cons_self,he⟩
    · have key:∀i,i<zs.length→i%2=1→uC l e zs i=some f→∃y∈x::(Wa l xs++Wa l ys).map fun t=>A.getD t l0,IsE es f y:=fun i hi h1 h2=>by
        have hl:l.lab (zs.getD i 0)=2:=by rw[ZA G'.F G'.wx G'.x0 i hi];omega
        obtain⟨f',a1,a2,a3,a4,a5,a6,a7⟩:=BF G' K D hi hl;rw[h2] at a6;cases a6
        exact⟨_,List.mem_cons_of_mem _ (List.mem_map.2 ⟨_,hin _ (List.mem_filter.2 ⟨zE (d:=0) hi,by simpa using hl⟩),rfl⟩),a1⟩
      by_cases c1:j%2=1
      · exact key j hj c1 hf'
      · refine key (j-1) (by omega) (by omega) ?_
        unfold uC at hf' ⊢;rw[if_neg c0,if_neg c1] at hf'
        rw[if_neg (by omega),if_pos (by omega)]
        exact hf'
  by_cases c1:t∈xs
  · obtain⟨y,hy,h1⟩:=way G mx (fun q hq=>List.mem_append_left _ hq) c1
    exact⟨y,List.mem_append_right _ hy,h1⟩
  · by_cases c2:t∈ys
    · obtain⟨y,hy,h1⟩:=way G.flip my (fun q hq=>List.mem_append_right _ hq) c2
      exact⟨y,List.mem_append_right _ hy,h1⟩
    · rw[gz c1 c2] at hf'
      obtain⟨y,hy,h1⟩:=m.all t f ht hf';refine⟨y,List.mem_append_left _ (List.mem_filter.2 ⟨hy,cU.2 ?_⟩),h1⟩;obtain⟨f',q1,q2,q3,q4,q5,q6⟩:=m.of y hy;have:=Ul gk h1 q1;subst this;intro u hu'
      have nx:∀ {o},s.mate o=some f→¬(o∈xs∨o∈ys):=fun {o} ho hq=>by
        rcases hq with q | q
        · exact c1 (Jt G.F K G.wx G.x0 q ho ht hf')
        · exact c2 (Jt G.F K G.wy G.y0 q ho ht hf')
      exact⟨fun q=>nx q2 (by rw[q];exact hu'),fun q=>nx q3 (by rw[q];exact hu')⟩
end
structure Un (lo hi:Nat)(h3 hh:za)(g:Ql):Prop where
  same:∀c,lo≤c→c<hi→hh[c]?=h3[c]?
  tag:∀c,lo≤c→c<hi→g c=none
  len:hi≤hh.length
section
variable {g g':Ql}{h h' h3 hh:za}{b lo hi N sz:Nat}{T:Tg→Prop}{ty:TypeId}{v:Value}{rws:List (List Value)}{L Q:List Nat}{A:List Lk}{es:List E}{s s':Sv}{m:Nat→Option Nat}
theorem Un.tn (u:Un lo hi h3 hh g)(f:Tn b T g hh g' h')(hb:b<lo):Un lo hi h3 h' g':=by
  refine⟨fun c h1 h2=>?_,fun c h1 h2=>?_,Nat.le_trans u.len f.len⟩
  · have:=u.len
    rw[f.blk c (by omega) (by omega) fun τ q=>by rw[u.tag c h1 h2] at q;cases q]
    exact u.same c h1 h2
  · cases q:g' c with
    | none=>rfl
    | some τ =>
      have:=f.new c τ (by have:=u.len;omega) q
      rw[u.tag c h1 h2] at this;cases this
theorem Own.un {lo' hi':Nat}(o:Own h3 lo' hi' sz ty v rws)(u:Un lo hi h3 hh g)(h1:lo≤lo')(h2:hi'≤hi):Own hh lo' hi' sz ty v rws:=by
  refine⟨o.len,?_⟩;rcases o.is with q | ⟨c,l1,l2,l3,l4⟩
  · exact .inl q
  · exact .inr ⟨c,l1,l2,l3,by rw[u.same c (by omega) (by omega)];exact l4⟩
theorem Tp.un (P:Tp h3 lo N L A Q)(u:Un lo hi h3 hh g)(h2:lo+4≤hi):Tp hh lo N L A Q :=
  ⟨by rw[u.same _ (by omega) (by omega)];exact P.blk,P.l.un u (by omega) (by omega),P.a.un u (by omega) (by omega),P.q.un u (by omega) (by omega),P.ln⟩
theorem Tn.low (f:Tn b T g h g' h')(ok:vi b g h)(hb:b<h.length):∀c,c+1<b→h'[c]?=h[c]?:=fun c hc=>f.blk c (by omega) (by omega) fun τ q=>by have:=(ok c τ q).1;omega
theorem Sm.mate (hs:Sm s):Sm (Z6 s m):=⟨hs.n,hs.N,hs.y,hs.z⟩
theorem Sm.opn {B a:Nat}(hs:Sm s):Sm (zr s B a):=⟨hs.n,hs.N,hs.y,hs.z⟩
theorem cq {s1:Sv}{B a:Nat}(h:Uf es s s1)(hB:zg s1 B)(ht:s1.up B=none)(hz:s1.z B=0)(ha:a<(s1.mem B).length)(hh:YQ es s1 B ((s1.mem B).getD a 0)):Uf es s (zr s1 B a):=by
  induction h with
  | refl s=>exact .step hB ht hz ha hh (.refl _)
  | step hB' ht' hz' ha' hh' _ ih=>exact .step hB' ht' hz' ha' hh' (ih hB ht hz ha hh)
end
def U5 (xs ys:List Nat)(j:Nat):List Nat:=([xs,ys].take j).flatten
section
variable {X:Zb}{g:Ql}{h:za}{b k lo i:Nat}{es:List E}{s:Sv}{l:Lb}{rk:Nat→Nat}{M:List Lk}{dn:Bool}{V:RV}{size:Int}{L Q:List Nat}{A:List Lk}{xs ys:List Nat}
theorem zdz:M.filter (woL s [])=M:=List.filter_eq_self.2 fun _ _=>rfl
set_option maxRecDepth 100000 in
theorem fZ (hbs : wT s V.bs) (R : Rn g h b es s M k dn V) (K : Ok es s) (hs : Sm s) (m : QF es s M) (gk : GOk size es) (P : Tp h lo s.N L A Q) (D : Tl es s l L A Q) (G : Aug es s l rk i xs ys) (hi : i < es.length) (hx0 : top s (vA es i) = xs.getD 0 0) (hy0 : top s (vB es i) = ys.getD 0 0) (hlo : b < lo) (hg : ∀ c τ, g c = some τ → c < lo) :
    ∃h' g' V' s' M',C T X Qe [p7 b 0,p3 (lo+3) 0,QN (es.getD i e0)] h=some (.tuple ⟨[]⟩,h')∧Rn g' h' b es s' M' k dn V'∧Uf es (Z6 s (qL s l i xs ys)) s'∧QF es s' M'∧(∀c,c+1<b→h'[c]?=h[c]?)∧h.length≤h'.length∧wT s' V'.bs∧Far V' h.length:=by
  suffices hx:∃w h',C T X Qe [p7 b 0,p3 (lo+3) 0,QN (es.getD i e0)] h=some (w,h')∧w=.tuple ⟨[]⟩∧∃g' V' s' M',Rn g' h' b es s' M' k dn V'∧Uf es (Z6 s (qL s l i xs ys)) s'∧QF es s' M'∧(∀c,c+1<b→h'[c]?=h[c]?)∧h.length≤h'.length∧wT s' V'.bs∧Far V' h.length by
    obtain⟨w,h',c,rfl,g',V',s',M',q⟩:=hx;exact⟨h',g',V',s',M',c,q⟩
  have hu:=K.upOk;have nN:=K.nN;have h9:=hs.N;obtain⟨hE,hEB⟩:=K.ed i hi;obtain⟨ga,gb,_⟩:=wG gk hi;obtain⟨q,hq⟩:∃q,q=es.getD i e0:=⟨_,rfl⟩;rw[←hq] at ga gb ⊢
  have lxs:=Js G.F G.wx (by rw[G.x0];omega)
  have lys:=Js G.F G.wy (by rw[G.y0];omega)
  obtain⟨vx,h1,cx,p1,ox⟩:=jL (X:=X) R K hs P D G.F G.wx (by rw[G.x0];omega)
  obtain⟨vy,h2,cy,p2,oy⟩:=jL (X:=X) (R.up p1) K hs (P.up p1) D G.F G.wy (by rw[G.y0];omega)
  have cta:=ZL (X:=X) R hu (v:=vA es i) (by omega)
  have ctb:=ZL (X:=X) (R.up p1) hu (v:=vB es i) (by omega)
  rw[hx0] at cta;rw[hy0] at ctb;obtain⟨h3,hh3⟩:∃h3:za,h3=h2++[⟨[vx,vy],1,jl,true⟩]:=⟨_,rfl⟩;have l1:=zy p1;have l2:=zy p2
  have l3:h3.length=h2.length+1:=by rw[hh3];simp
  have p3':h2 <+: h3:=by rw[hh3];exact List.prefix_append _ _
  have ph3:h <+: h3:=(p1.trans p2).trans p3';have hlo4:=zG P.blk;refine wU Jk rfl ?_;unfold Q3 QN ZT;simp only[ga,gb,cta,cx,ctb,cy,ox.cells,oy.cells,←hh3,zj,zi,List.prefix_refl,List.cons_append,List.nil_append,go_sem];obtain⟨wv,hwv⟩:∃wv:Value,wv=.slice (some ⟨h2.length,0,none⟩) 2 2:=⟨_,rfl⟩;obtain⟨cE,hcE⟩:∃cE:List Value,cE=[.int .i64 (vA es i:Int),.int .i64 (vB es i:Int),.int .i64 q.w1,.int .i64 q.w2,.int .i64 q.w3]:=⟨_,rfl⟩;have R3:=R.up ph3
  have u0:Un lo h3.length h3 h3 g:=⟨fun _ _ _=>rfl,fun c h1 _=>by
    cases q:g c with
    | none=>rfl
    | some τ=>have:=hg c τ q;omega,Nat.le_refl _⟩
  have P3:=P.up ph3
  have ow:Own h3 h2.length (h2.length+1) 1 jl wv ([vx,vy].map fun v=>[v]):=by
    rw[hwv,hh3]
    exact⟨fun r hr=>by obtain⟨x,_,rfl⟩:=List.mem_map.1 hr;rfl,.inr ⟨h2.length,Nat.le_refl _,Nat.lt_succ_self _,rfl,by simp⟩⟩
  have orow:∀j,j<2→∃a c,lo≤a∧c≤h3.length∧Own h3 a c 1 zf ([vx,vy].getD j zh) (zq (ZW ([xs,ys].getD j []))):=fun j hj=>by
    rcases (show j=0∨j=1 by omega) with rfl | rfl
    · exact⟨h.length,h1.length,by omega,by omega,(ox.up p2).up p3'⟩
    · exact⟨h1.length,h2.length,by omega,by omega,oy.up p3'⟩
  have wlen:∀j,j<2→([xs,ys].getD j []).length≤400:=fun j hj=>by
    rcases (show j=0∨j=1 by omega) with rfl | rfl
    · exact Nat.le_trans lxs h9
    · exact Nat.le_trans lys h9
  have rd:∀ {hh:za} {gg:Ql},Un lo h3.length h3 hh gg→∀j,j<2→iaV hh 1 wv (.int .i64 (j:Nat))=some (zz wv 1 j 0)∧ldC hh (zz wv 1 j 0) 1=some [[vx,vy].getD j zh]∧Rows hh 1 ([vx,vy].getD j zh) (zq (ZW ([xs,ys].getD j []))):=fun u j hj=>by
    have o2:=ow.un u (by omega) (by omega)
    have el:=o2.rows.el (f:=fun v:Value=>[v]) zh (i:=j) (by simpa using hj)
    obtain⟨a,c,a1,a2,a3⟩:=orow j hj;exact⟨el.1,el.2.2,(a3.un u a1 a2).rows⟩
  have hMs:∀ {zs:List Nat},(∀x∈M.filter (woL s zs),x.f<s.N∧x.t<s.N)∧(M.filter (woL s zs)).length≤400:=fun {zs}=>⟨fun x hx=>CA K.ok0 m x (List.mem_filter.1 hx).1,Nat.le_trans (List.length_filter_le _ _) m.le⟩
  refine zT 2 (fun j t' loc hh=>t' 0=p7 b 0∧t' 1=p3 (lo+3) 0∧t' 6=wv∧loc 5=some cE∧t' 7=.int .i64 (j:Nat)∧∃g' V',Un lo h3.length h3 hh g'∧Tn b (·=.m) g h3 g' hh∧V'.bs=V.bs∧Rn g' hh b es s (M.filter (woL s (U5 xs ys j))) k dn V'∧(j=0∨Far V' h.length)) ⟨rfl,rfl,by rw[hwv];rfl,by rw[hcE];rfl,rfl,g,V,u0,Tn.refl R3.ok,rfl,by simpa[zdz,U5] using R3,.inl rfl⟩ ?_
  rintro j t' loc hh hj ⟨t0,t1,t6,l5,t7,g',V',u,f,eb,R',far⟩;simp only[t7,go_sem]
  refine zt (by simp only[go_sem];rfl) ?_ ?_<;>intro hc
  · have hj2:j<2:=by omega
    have hw:IntKind.i64.wrap ((j:Int)+1)=((j+1:Nat):Int):=w64 (by omega) (by omega)
    have hwj:=wlen j hj2
    have hpos:0<([xs,ys].getD j []).length:=by
      rcases (show j=0∨j=1 by omega) with rfl | rfl
      · exact VE G.wx
      · exact VE G.wy
    have hfl:U5 xs ys (j+1)=U5 xs ys j++[xs,ys].getD j []:=by
      rcases (show j=0∨j=1 by omega) with rfl | rfl<;>simp[U5]
    obtain⟨zs,hzs⟩:∃zs,zs=U5 xs ys j:=⟨_,rfl⟩;obtain⟨ws,hws⟩:∃ws,ws=[xs,ys].getD j []:=⟨_,rfl⟩;rw[←hzs] at R' hfl;rw[←hws] at hwj hpos hfl;simp only[t0,t1,t6,t7,l5,go_sem]
    refine zT ws.length (fun jj t' loc hh=>t' 0=p7 b 0∧t' 1=p3 (lo+3) 0∧t' 6=wv∧loc 5=some cE∧t' 7=.int .i64 (j:Nat)∧t' 8=.int .i64 (jj:Nat)∧∃g' V',Un lo h3.length h3 hh g'∧Tn b (·=.m) g h3 g' hh∧V'.bs=V.bs∧Rn g' hh b es s (M.filter (woL s (zs++ws.take jj))) k dn V'∧(jj=0∨Far V' h.length)) ⟨rfl,rfl,rfl,by rw[←l5];rfl,rfl,rfl,g',V',u,f,eb,by simpa using R',.inl rfl⟩ ?_
    clear t0 t1 t6 l5 t7 u f eb R' far hc
    clear t' loc hh g' V'
    rintro jj t' loc hh hjj ⟨t0,t1,t6,l5,t7,t8,g',V',u,f,eb,R',far⟩;obtain⟨a1,a2,a3⟩:=rd u j hj2;rw[←hws] at a3;have aln:=Fk a3;simp only[t6,t7,t8,a1,a2,aln,go_sem]
    refine zt (by simp only[t6,t7,t8,a1,a2,aln,go_sem];rfl) ?_ ?_<;>intro hc
    · have hjj1:jj<ws.length:=by omega
      have hw':IntKind.i64.wrap ((jj:Int)+1)=((jj+1:Nat):Int):=w64 (by omega) (by omega)
      obtain⟨b1,b2⟩:=vK a3 hjj1;obtain⟨h4,g4,v4,c4,f4,R4,far4⟩:=f0 (X:=X) (t:=ws.getD jj 0) R' hu hMs.1 hMs.2;simp only[t0,t1,t6,t7,t8,l5,a1,a2,b1,b2,c4,hw',go_sem];refine⟨hjj1,g4,{ V' with mv:=v4 },u.tn f4 hlo,f.trans f4,eb,?_,?_⟩
      · rw[Zj (d:=0) hjj1,←List.append_assoc,←zbU]
        exact R4
      · obtain⟨c,n,q1,q2⟩:=far4
        have:=u.len
        exact⟨c,n,by omega,q2⟩
    · have hjj2:jj=ws.length:=by omega
      subst hjj2;rw[List.take_length] at R';simp only[t0,t1,t6,t7,t8,l5,hw,go_sem]
      refine⟨hj2,g',V',u,f,eb,?_,far.resolve_left (by omega)⟩
      rw[hfl];exact R'
  have hj2:j=2:=by omega
  subst hj2
  have far2:Far V' h.length:=far.resolve_left (by omega)
  have hfl:U5 xs ys 2=xs++ys:=by simp[U5]
  rw[hfl] at R'
  clear far hc hj
  obtain⟨M2,hM2⟩:∃M2,M2=M.filter (woL s (xs++ys)):=⟨_,rfl⟩;rw[←hM2] at R'
  have hM2l:M2.length≤400:=by rw[hM2];exact hMs.2
  obtain⟨v4,h4,h5,g5,e1,e2,e3,f5,R5,far5⟩:=R'.pushM ⟨vA es i,vB es i⟩ (by unfold lim;omega)
  have e4:cellsOf v4=some [v4]:=R5.m.rows.cells;unfold lkR at e1;have u5:=u.tn f5 hlo;have F5:=f.trans f5;have far5':Far { V' with mv:=v4 } h.length:=far5 _ far2;simp only[t0,t1,t6,l5,hcE,R'.chk,R'.fa,R'.ld4,e1,xe e2,bZ e2,e3,e4,Nat.zero_add,zj,zi,List.prefix_refl,go_sem]
  clear t0 t1 t6 l5 t7 u f R' far2 e1 e2 e3 e4 far5 f5
  refine zT 2 (fun j t' loc hh=>t' 0=p7 b 0∧t' 1=p3 (lo+3) 0∧t' 6=wv∧t' 9=.int .i64 (j:Nat)∧∃g' V',Un lo h3.length h3 hh g'∧Tn b (·=.m) g h3 g' hh∧V'.bs=V.bs∧Rn g' hh b es s (M2++⟨vA es i,vB es i⟩::(Wa l (U5 xs ys j)).map fun t=>A.getD t l0) k dn V'∧Far V' h.length) ⟨rfl,rfl,rfl,rfl,g5,_,u5,F5,eb,by simpa[Wa,U5] using R5,far5'⟩ ?_
  clear u5 F5 R5 far5' eb
  clear hh g' V'
  rintro j t' loc hh hj ⟨t0,t1,t6,t9,g',V',u,f,eb,R',far⟩;simp only[t9,go_sem]
  refine zt (by simp only[go_sem];rfl) ?_ ?_<;>intro hc
  · have hj2:j<2:=by omega
    have hw:IntKind.i64.wrap ((j:Int)+1)=((j+1:Nat):Int):=w64 (by omega) (by omega)
    have hwj:=wlen j hj2
    have hfl:U5 xs ys (j+1)=U5 xs ys j++[xs,ys].getD j []:=by
      rcases (show j=0∨j=1 by omega) with rfl | rfl<;>simp[U5]
    have hin:∀t∈[xs,ys].getD j [],zc s t:=fun t ht=>by
      rcases (show j=0∨j=1 by omega) with rfl | rfl
      · exact G.F.top t (jg G.F G.wx (by rw[G.x0];omega) t ht).1
      · exact G.F.top t (jg G.F G.wy (by rw[G.y0];omega) t ht).1
    have hzl:(U5 xs ys j).length≤400:=by
      rcases (show j=0∨j=1 by omega) with rfl | rfl
      · simp[U5]
      · simp[U5];omega
    obtain⟨zs,hzs⟩:∃zs,zs=U5 xs ys j:=⟨_,rfl⟩;obtain⟨ws,hws⟩:∃ws,ws=[xs,ys].getD j []:=⟨_,rfl⟩;rw[←hzs] at R' hfl hzl;rw[←hws] at hwj hfl hin;simp only[t0,t1,t6,t9,go_sem]
    refine zT ws.length (fun jj t' loc hh=>t' 0=p7 b 0∧t' 1=p3 (lo+3) 0∧t' 6=wv∧t' 9=.int .i64 (j:Nat)∧t' 10=.int .i64 (jj:Nat)∧∃g' V',Un lo h3.length h3 hh g'∧Tn b (·=.m) g h3 g' hh∧V'.bs=V.bs∧Rn g' hh b es s (M2++⟨vA es i,vB es i⟩::(Wa l (zs++ws.take jj)).map fun t=>A.getD t l0) k dn V'∧Far V' h.length) ⟨rfl,rfl,rfl,rfl,rfl,g',V',u,f,eb,by simpa using R',far⟩ ?_
    clear t0 t1 t6 t9 u f eb R' far hc
    clear t' loc hh g' V'
    rintro jj t' loc hh hjj ⟨t0,t1,t6,t9,t10,g',V',u,f,eb,R',far⟩;obtain⟨a1,a2,a3⟩:=rd u j hj2;rw[←hws] at a3;have aln:=Fk a3;simp only[t6,t9,t10,a1,a2,aln,go_sem]
    refine zt (by simp only[t6,t9,t10,a1,a2,aln,go_sem];rfl) ?_ ?_<;>intro hc
    · have hjj1:jj<ws.length:=by omega
      have hw':IntKind.i64.wrap ((jj:Int)+1)=((jj+1:Nat):Int):=w64 (by omega) (by omega)
      obtain⟨b1,b2⟩:=vK a3 hjj1;have hTt:=hin (ws.getD jj 0) (zE (d:=0) hjj1);have htk:ws.take (jj+1)=ws.take jj++[ws.getD jj 0]:=Zj (d:=0) hjj1;obtain⟨t,ht⟩:∃t,t=ws.getD jj 0:=⟨_,rfl⟩;rw[←ht] at b2 hTt htk
      have P':=P3.un u (by omega)
      obtain⟨d1,d2⟩:=P'.lel hTt.1;rw[D.lab t hTt.1] at d2
      by_cases c2:l.lab t=2
      · have n2:((2:Nat):Int)=2:=rfl
        rw[c2,n2] at d2;obtain⟨q1,q2,q3⟩:=P'.ael hTt.1
        have hlen:(M2++⟨vA es i,vB es i⟩::(Wa l (zs++ws.take jj)).map fun t=>A.getD t l0).length<lim:=by
          have:=List.length_filter_le (fun t=>decide (l.lab t=2)) (zs++ws.take jj)
          have h8:(zs++ws.take jj).length≤800:=by rw[List.length_append,List.length_take];omega
          rw[List.length_append,List.length_cons,List.length_map];unfold Wa lim;omega
        obtain⟨v4,h4,h5,g5,e1,e2,e3,f5,R5,far5⟩:=R'.pushM (A.getD t l0) hlen;have e4:cellsOf v4=some [v4]:=R5.m.rows.cells;unfold lkR at e1 q3;simp only[t0,t1,t6,t9,t10,a1,a2,b1,b2,P'.chk,P'.fa,P'.ld0,P'.ld1,d1,d2,q1,q3,R'.chk,R'.fa,R'.ld4,e1,xe e2,bZ e2,e3,e4,hw',Nat.zero_add,zj,zi,List.prefix_refl,go_sem];refine⟨hjj1,g5,{ V' with mv:=v4 },u.tn f5 hlo,f.trans f5,eb,?_,far5 _ far⟩
        have:Wa l (zs++ws.take (jj+1))=Wa l (zs++ws.take jj)++[t]:=by
          unfold Wa;rw[htk,←List.append_assoc,List.filter_append (zs++ws.take jj)];simp[c2]
        rw[this,List.map_append,List.map_singleton];rw[List.append_assoc,List.cons_append] at R5;exact R5
      · have n2:¬((l.lab t:Nat):Int)=2:=by omega
        simp only[t0,t1,t6,t9,t10,a1,a2,b1,b2,P'.chk,P'.fa,P'.ld0,d1,d2,n2,hw',Nat.zero_add,zj,zi,List.prefix_refl,go_sem];refine⟨hjj1,g',V',u,f,eb,?_,far⟩
        have:Wa l (zs++ws.take (jj+1))=Wa l (zs++ws.take jj):=by
          unfold Wa;rw[htk,←List.append_assoc,List.filter_append (zs++ws.take jj)];simp[c2]
        rw[this];exact R'
    · have hjj2:jj=ws.length:=by omega
      subst hjj2;rw[List.take_length] at R';simp only[t0,t1,t6,t9,t10,hw,go_sem];refine⟨hj2,g',V',u,f,eb,?_,far⟩;rw[hfl];exact R'
  have hj2:j=2:=by omega
  subst hj2
  have hfl:U5 xs ys 2=xs++ys:=by simp[U5]
  rw[hfl] at R'
  have hod:Wa l (xs++ys)=Wa l xs++Wa l ys:=by unfold Wa;rw[List.filter_append]
  rw[hod,hM2] at R';have mA:=zeq G K D m gk hs.n (x:=⟨vA es i,vB es i⟩) ⟨hi,.inl ⟨rfl,rfl⟩⟩ ⟨hx0,hy0⟩;have KA:=gA G K;have sA:Sm (Z6 s (qL s l i xs ys)):=hs.mate
  have RA:Rn g' hh b es (Z6 s (qL s l i xs ys)) _ k dn V':=R'.congr (s':=Z6 s (qL s l i xs ys)) rfl rfl (fun _ _=>rfl) fun _ _=>⟨rfl,rfl,rfl,rfl,rfl,rfl⟩
  have bA:wT (Z6 s (qL s l i xs ys)) V'.bs:=fun t j ht hm hw hv=>by
    rw[eb];exact hbs t j ht (jr G K hm).1 (vN.1 hw) (vN.1 hv)
  have low:∀c,c+1<b→hh[c]?=h[c]?:=fun c hc=>by
    rw[f.low R3.ok R3.bl c hc]
    exact ZE ph3 (by have:=R.bl;omega)
  have hlen:h.length≤hh.length:=by have:=f.len;omega
  clear hj hc
  have first:∀ {hh:za} {g1:Ql} {s1:Sv} {M1:List Lk} {V1:RV},Rn g1 hh b es s1 M1 k dn V1→Sm s1→s1.n≤s1.N→∃r:Int,C T X ZZ [p7 b 0,.slice (some ⟨hh.length,0,none⟩) 0 0] (hh++[⟨[],1,zf,true⟩])=some (.int .i64 r,hh++[⟨[],1,zf,true⟩])∧(r=-1∨∃B:Nat,r=B∧zg s1 B∧s1.up B=none∧s1.z B=0):=fun R1 hs1 nN1=>by
    obtain⟨r,c,q⟩:=GK (X:=X) (L:=[]) (R1.up (List.prefix_append _ _)) hs1 nN1 (Acc.new (sz:=1) (ty:=zf)).own.rows (.inl rfl);refine⟨r,c,?_⟩;rcases q with q | ⟨B,q1,q2,q3,q4,q5,_⟩
    · exact .inl q.1
    · exact .inr ⟨B,q1,⟨q2,q3,q4.2.2⟩,q4.2.1,q5⟩
  obtain⟨r,cf,hr⟩:=first RA sA nN;simp only[t0,t1,t6,t9,cf,zj,zi,List.prefix_append,go_sem]
  refine WI (Zh (Z6 s (qL s l i xs ys))).length (fun mm t' loc hh=>t' 0=p7 b 0∧∃(s1:Sv) (M1:List Lk) (g1:Ql) (V1:RV) (r:Int),t' 11=.int .i64 r∧Uf es (Z6 s (qL s l i xs ys)) s1∧Ok es s1∧Sm s1∧QF es s1 M1∧Rn g1 hh b es s1 M1 k dn V1∧wT s1 V1.bs∧Far V1 h.length∧(∀c,c+1<b→hh[c]?=h[c]?)∧h.length≤hh.length∧mm=(Zh s1).length∧(r=-1∨∃B:Nat,r=B∧zg s1 B∧s1.up B=none∧s1.z B=0))
    ⟨rfl,_,_,_,_,r,rfl,.refl _,KA,sA,mA,RA.up (List.prefix_append _ _),bA,far,fun c hc=>by rw[List.getElem?_append_left (by have:=RA.bl;omega)];exact low c hc,by simp;omega,rfl,hr⟩ ?_
  clear t0 t1 t6 t9 u f eb bA R' far RA low hlen hr cf mA
  rintro mm t' loc hh ⟨t0,s1,M1,g1,V1,r,t11,O,K1,hs1,m1,R1,bs1,far1,low1,len1,hmm,hr⟩;rcases hr with rfl | ⟨B,rfl,hB,hb,hz⟩
  · have hn:¬((-1:Int)≥0):=by omega
    simp only[t0,t11,hn,go_sem];rw[Uj R.bl (R.diff R1 far1)];exact⟨rfl,g1,V1,s1,M1,R1,O,m1,low1,len1,bs1,far1⟩
  · have hp:((B:Int)≥0):=by omega
    obtain⟨a,h4,g4,V4,M4,c4,f4,R4,m4,a4,hh4,bs4,far4⟩:=J2 (X:=X) bs1 R1 K1.ok0 m1 gk hs1.n hs1.N hB hb;have K4:=Ym K1 hB hb hz a4 hh4
    obtain⟨r',cf,hr'⟩:=first R4 hs1.opn (show s1.n≤s1.N from K1.nN)
    have cnt:=(Y6 K1 hB hb a4).2.2;simp only[t0,t11,hp,c4,cf,zj,zi,List.prefix_append,go_sem]
    refine⟨(Zh (zr s1 B a)).length,by omega,zr s1 B a,M4,g4,V4,r',rfl,cq O hB hb hz a4 hh4,K4,hs1.opn,m4,R4.up (List.prefix_append _ _),bs4.2,far4 _ far1,fun c hc=>?_,?_,rfl,hr'⟩
    · rw[List.getElem?_append_left (by have:=R4.bl;omega),f4.low R1.ok R1.bl c hc]
      exact low1 c hc
    · have:=f4.len
      simp;omega
end
section
variable {es:List E}{s:Sv}{l:Lb}{rk:Nat→Nat}{e f j t u i k v:Nat}{xs ys ms ls:List Nat}{M:List Lk}{L Q:List Nat}{A:List Lk}{size:Int}{x y:Lk}
theorem zcH (F : Fo es s l rk) (K : Ok es s) (at_ : BA es s l e) (wx : qc l xs) (wy : qc l ys) (hx0 : xs.getD 0 0 = top s (vA es e)) (hy0 : ys.getD 0 0 = top s (vB es e)) (hr : xs.getD (xs.length - 1) 0 = ys.getD (ys.length - 1) 0) :
    ∃i k,uY es s l rk e xs ys i k∧∀q,q<k→ys.getD q 0≠xs.getD i 0:=by
  obtain⟨a1,a2,a3,a4,a5⟩:=at_;have hxp:0<xs.length:=VE wx;have hyp:0<ys.length:=VE wy
  have ex:∃i,i<xs.length∧xs.getD i 0∈ys:=⟨xs.length-1,by omega,by rw[hr];exact zw (by omega)⟩
  have fst:∀n,(∃i,i<n∧i<xs.length∧xs.getD i 0∈ys)→∃i,i<xs.length∧xs.getD i 0∈ys∧∀j,j<i→¬xs.getD j 0∈ys:=fun n=>by
    induction n with
    | zero=>rintro⟨i,h,_⟩;omega
    | succ n ih =>
      rintro⟨i,h1,h2,h3⟩
      by_cases c:∃i,i<n∧i<xs.length∧xs.getD i 0∈ys
      · exact ih c
      · have:i=n:=by
          rcases Nat.lt_or_ge i n with q | q
          · exact absurd ⟨i,q,h2,h3⟩ c
          · omega
        subst this
        exact⟨i,h2,h3,fun j hj hm=>c ⟨j,hj,by omega,hm⟩⟩
  obtain⟨i0,i1,i2⟩:=ex;obtain⟨i,b1,b2,b3⟩:=fst (i0+1) ⟨i0,Nat.lt_succ_self _,i1,i2⟩;have hk:=List.idxOf_lt_length_iff.2 b2
  have hg:ys.getD (ys.idxOf (xs.getD i 0)) 0=xs.getD i 0:=by
    rw[List.getD_eq_getElem?_getD (l:=ys),List.getElem?_eq_getElem hk,Option.getD_some,List.getElem_idxOf hk]
  refine⟨i,ys.idxOf (xs.getD i 0),⟨F,wx,wy,by rw[hx0];exact a4,by rw[hy0];exact a5,by rw[hx0,hy0];exact a3,a2,by rw[hx0,hy0];exact KU K a1,b1,hk,hg.symm,b3⟩,fun q hq he=>?_⟩
  have:=U3 F wy (by rw[hy0];exact a5) (by omega) hk (he.trans hg.symm)
  omega
theorem zbP (K:Ok es s)(R:QJ es s ms ls j)(hv:v<s.N)(hg:s.gone v=false):top (zU s ms ls j) v=if top s v∈ms then s.N else top s v:=by
  have K':=yu K R;have h1:=V8 K R (K.topTop hv hg);rw[←h1];exact top_eq K'.upOk ((U4 K R hv).2 (.inl (ZO K.upOk)))
def J4 (s:Sv)(ms:List Nat)(x:Lk):Bool:=decide (¬(top s x.f∈ms∧top s x.t∈ms))
theorem zep (K:Ok es s)(R:QJ es s ms ls j)(m:QF es s M)(gk:GOk size es):QF es (zU s ms ls j) (M.filter (J4 s ms)):=by
  obtain⟨n1,n2⟩:=Ur R;have K':=yu K R
  have tv:∀ {v},v<s.n→top (zU s ms ls j) v=if top s v∈ms then s.N else top s v:=fun h=>zbP K R (Nat.lt_of_lt_of_le h K.nN) (K.ngone h)
  have one:∀ {a c f},zc s a→zc s c→a≠c→s.mate a=some f→s.mate c=some f→a∈ms→¬c∈ms→a=j:=fun {a c f} ha hc hne h1 h2 h3 h4=>by
    by_cases q:a=j
    · exact q
    · exact absurd (R.mates a f c h3 q h1 hc h2) h4
  refine⟨fun x hx=>?_,fun t e ht he=>?_,m.nd.filter _,Nat.le_trans (List.length_filter_le _ _) m.le⟩
  · obtain⟨hx1,hx2⟩:=List.mem_filter.1 hx
    obtain⟨e,q1,q2,q3,q4,q5,q6⟩:=m.of x hx1;have hx2':¬(top s x.f∈ms∧top s x.t∈ms):=of_decide_eq_true hx2;obtain⟨f1,t1⟩:=jA K q1;rw[tv f1,tv t1]
    by_cases c1:top s x.f∈ms
    · have c2:¬top s x.t∈ms:=fun q=>hx2' ⟨c1,q⟩
      rw[if_pos c1,if_neg c2];have hj:=one q5 q6 q4 q2 q3 c1 c2
      have hne:top s x.t≠s.N:=by have:=q6.1;omega
      exact⟨e,q1,by rw[n1,←hj];exact q2,by rw[n2 _ hne c2];exact q3,fun q=>hne q.symm,(Z3 K R).2 (.inl rfl),(Z3 K R).2 (.inr ⟨q6,c2⟩)⟩
    · have hne1:top s x.f≠s.N:=by have:=q5.1;omega
      by_cases c2:top s x.t∈ms
      · rw[if_neg c1,if_pos c2]
        have hj:=one q6 q5 (Ne.symm q4) q3 q2 c2 c1
        exact⟨e,q1,by rw[n2 _ hne1 c1];exact q2,by rw[n1,←hj];exact q3,hne1,(Z3 K R).2 (.inr ⟨q5,c1⟩),(Z3 K R).2 (.inl rfl)⟩
      · have hne:top s x.t≠s.N:=by have:=q6.1;omega
        rw[if_neg c1,if_neg c2]
        exact⟨e,q1,by rw[n2 _ hne1 c1];exact q2,by rw[n2 _ hne c2];exact q3,q4,(Z3 K R).2 (.inr ⟨q5,c1⟩),(Z3 K R).2 (.inr ⟨q6,c2⟩)⟩
  · rcases (Z3 K R).1 ht with q | ⟨q,hq⟩
    · subst q
      rw[n1] at he;have hjT:=R.top j R.jm;obtain⟨x,hx,h1⟩:=m.all j e hjT he;obtain⟨e',q1,q2,q3,q4,q5,q6⟩:=m.of x hx;have:=Ul gk h1 q1;subst this;refine⟨x,List.mem_filter.2 ⟨hx,?_⟩,h1⟩;unfold J4;rw[decide_eq_true_eq];rintro⟨w1,w2⟩
      by_cases c:top s x.f=j
      · exact R.out e _ he q6 (fun q=>q4 (c.trans q.symm)) q3 w2
      · exact R.out e _ he q5 c q2 w1
    · have hne:t≠s.N:=by have:=q.1;omega
      rw[n2 _ hne hq] at he;obtain⟨x,hx,h1⟩:=m.all t e q he;obtain⟨e',q1,q2,q3,q4,q5,q6⟩:=m.of x hx;have:=Ul gk h1 q1;subst this;refine⟨x,List.mem_filter.2 ⟨hx,?_⟩,h1⟩;unfold J4;rw[decide_eq_true_eq];rintro⟨w1,w2⟩;rcases K.mate2 q5 q6 q q2 q3 he (Ne.symm q4) with c | c
      · rw[←c] at w1;exact hq w1
      · rw[←c] at w2;exact hq w2
theorem wT.add {bs:Nat→Nat}(hbs:wT s bs)(K:Ok es s)(R:QJ es s ms ls j)(m:QF es s M):wT (zU s ms ls j) (fun t=>if t=s.N then vT s bs M j else bs t):=by
  obtain⟨n1,n2⟩:=Ur R;have K':=yu K R;have hu:=K.upOk;have hu':=K'.upOk;have hjT:=R.top j R.jm;intro t i ht hm hw hv
  have b0:∀q,q<s.N→(zU s ms ls j).base q=s.base q:=fun q hq=>by
    show (if q=s.N then s.base j else s.base q)=_
    rw[if_neg (by omega)]
  have bN:(zU s ms ls j).base s.N=s.base j:=by
    show (if s.N=s.N then s.base j else s.base s.N)=_;rw[if_pos rfl]
  show (if i=s.N then vT s bs M j else bs i)=_;have hbjT:=K.base j hjT.1 hjT.2.2;rcases (Z3 K R).1 ht with q | ⟨q,hq⟩
  · subst q
    rw[n1] at hm;rw[bN] at hv;have hbj:bs j=s.base j:=hbs j j hjT hm (.refl _) hbjT.2
    by_cases c:i=s.N
    · rw[if_pos c,c,bN,←hbj]
      unfold vT
      cases hmL:vr s j M with
      | none=>rfl
      | some x =>
        obtain⟨_,e,_,h2,_⟩:=UP K m hmL;rw[hm] at h2;cases h2
    · have hi:i<s.N:=by have:=hw.le hu';omega
      rw[if_neg c,b0 i hi];obtain⟨p,hp,hip⟩:=(FE K R hi).1 hw
      have hvi:=(WJ K R (by have:=K.nN;omega) hi).1 hv
      have e1:=Zo hu (hvi.trans hip) (R.top p hp).2.1;have e2:=Zo hu hbjT.2 hjT.2.1;have hpj:p=j:=e1.symm.trans e2;rw[hpj] at hip;exact hbs j i hjT hm hip hvi
  · have hne:t≠s.N:=by have:=q.1;omega
    rw[n2 _ hne hq] at hm
    have hi:i<s.N:=by have:=hw.le hu';have:=q.1;omega
    rw[b0 t q.1] at hv
    rw[if_neg (by omega),b0 i hi]
    have hbt:=K.base t q.1 q.2.2
    exact hbs t i q hm ((WJ K R hi q.1).1 hw) ((WJ K R (by have:=K.nN;omega) hi).1 hv)
def Ls (es:List E)(a:List Nat)(X:List Lk):Prop:=X.length=a.length∧∀j,j<X.length→IsE es (a.getD j 0) (X.getD j l0)
theorem Ls.app {a c:List Nat}{X Y:List Lk}(h:Ls es a X)(h2:Ls es c Y):Ls es (a++c) (X++Y):=by
  refine⟨by rw[List.length_append,List.length_append,h.1,h2.1],fun j hj=>?_⟩
  rw[List.length_append] at hj
  by_cases q:j<X.length
  · have e1:(a++c).getD j 0=a.getD j 0:=JO (by rw[←h.1];exact q)
    have e2:(X++Y).getD j l0=X.getD j l0:=by rw[List.getD_eq_getElem?_getD,List.getElem?_append_left q,←List.getD_eq_getElem?_getD]
    rw[e1,e2];exact h.2 j q
  · have e1:(a++c).getD j 0=c.getD (j-a.length) 0:=Yd (by rw[←h.1];omega)
    have e2:(X++Y).getD j l0=Y.getD (j-X.length) l0:=by rw[List.getD_eq_getElem?_getD,List.getElem?_append_right (by omega),←List.getD_eq_getElem?_getD]
    rw[e1,e2,h.1]
    exact h2.2 _ (by rw[←h.1];omega)
theorem Ls.cons {a:List Nat}{X:List Lk}(h1:IsE es e x)(h:Ls es a X):Ls es (e::a) (x::X):=by
  refine⟨by rw[List.length_cons,List.length_cons,h.1],fun j hj=>?_⟩
  cases j with
  | zero=>exact h1
  | succ j =>
    rw[List.getD_cons_succ,List.getD_cons_succ]
    exact h.2 j (by simpa using hj)
theorem Ls.map {f:Nat→Nat}{g:Nat→Lk}:∀ {zs:List Nat},(∀t∈zs,IsE es (f t) (g t))→Ls es (zs.map f) (zs.map g)
  | [],_=>⟨rfl,fun j hj=>by simp at hj⟩
  | t::zs,h=>.cons (h t List.mem_cons_self) (Ls.map fun u hu=>h u (List.mem_cons_of_mem _ hu))
def newL (es:List E)(e:Nat)(A:List Lk)(xs ys:List Nat)(i k:Nat):List Lk:=(xs.take i).reverse.map (fun t=>A.getD t l0)++⟨vA es e,vB es e⟩::(ys.take k).map fun t=>(A.getD t l0).rev
theorem uY.newLs (M:uY es s l rk e xs ys i k)(D:Tl es s l L A Q)(he:e<es.length):Ls es (qz l e xs ys i k) (newL es e A xs ys i k):=by
  have way:∀ {zs:List Nat} {n},qc l zs→l.lab (zs.getD 0 0)=1→n<zs.length→∀t∈zs.take n,IsE es ((l.byE t).getD 0) (A.getD t l0):=fun {zs n} wz z0 hn t ht=>by
    obtain⟨j,hj,rfl⟩:=Zv (d:=0) ht;rw[List.length_take] at hj
    rw[V9 (by omega)]
    have hn':=qf (j:=j) wz (by omega)
    have hl:=ZA M.F wz z0 j (by omega)
    obtain⟨e',e1,e2,_⟩:=D.ah _ _ (M.F.top (zs.getD j 0) (by omega)).1 hn'
    rw[e1];exact e2
  unfold qz newL
  refine (Ls.map fun t ht=>?_).app (.cons ⟨he,.inl ⟨rfl,rfl⟩⟩ (Ls.map fun t ht=>?_))
  · exact way M.wx M.x0 M.hi t (List.mem_reverse.1 ht)
  · exact (way M.wy M.y0 M.hk t ht).rev
end
section
variable {X:Zb}{h:za}{a:Value}{l:List Int}{n:Int}{k:Nat}
theorem Kr (ha:Rows h 1 a (zq l))(hl:l.length≤lim)(hk:k<l.length)(hg:l.getD k 0=n)(hf:∀q,q<k→l.getD q 0≠n):C T X Wy [a,.int .i64 n] h=some (.int .i64 (k:Nat),h):=by
  unfold lim at hl;refine qH KD rfl ?_;unfold Wk;simp only[go_sem]
  refine zT k (fun i t loc h'=>h'=h∧t 0=a∧t 1=.int .i64 n∧t 5=.int .i64 i) ⟨rfl,rfl,rfl,rfl⟩ ?_
  rintro i t loc h' hi ⟨rfl,t0,t1,t5⟩;simp only[t0,t5,zI ha,go_sem]
  refine zt (by simp only[go_sem];rfl) ?_ ?_<;>intro hc
  · have hi1:i<l.length:=by omega
    have hw:IntKind.i64.wrap ((i:Int)+1)=((i+1:Nat):Int):=w64 (by omega) (by omega)
    have hel:=ZU ha hi1
    by_cases e:i=k
    · subst e
      simp only[t0,t1,t5,hel.1,hel.2,hg,go_sem]
    · have hne:=hf i (by omega)
      simp only[t0,t1,t5,hel.1,hel.2,hne,hw,go_sem];omega
  · exfalso
    omega
end
theorem bO {t:Nat}{l:List Nat}:((t:Int)∈ZW l)↔t∈l:=by
  unfold ZW;rw[List.mem_map];constructor
  · rintro⟨u,hu,e⟩
    have:u=t:=by omega
    rwa [←this]
  · exact fun h=>⟨t,h,rfl⟩
theorem bM {l:List Nat}{t:Nat}:zq (ZW (l++[t]))=zq (ZW l)++[[.int .i64 (t:Nat)]]:=by simp[zq,ZW]
def kR (s:Sv)(ms ls:List Nat)(c:Nat):Sv where
  n:=s.n
  N:=s.N+1
  y:=s.y
  up:=fun v=>if v∈ms.take c then some s.N else if v=s.N then none else s.up v
  mem:=fun p=>if p=s.N then ms else s.mem p
  lnk:=fun p=>if p=s.N then ls else s.lnk p
  mate:=s.mate
  base:=s.base
  z:=fun p=>if p=s.N then 0 else s.z p
  gone:=fun p=>if p=s.N then false else s.gone p
def RV.more (V:RV)(N:Nat)(nv rv lv:Value)(u:Nat):RV:=⟨V.ev,V.yv,nv,V.mv,fun i=>if i=N then rv else V.rv i,fun i=>if i=N then lv else V.lv i,fun i=>if i=N then u else V.bs i⟩
section
variable {g g':Ql}{h h':za}{b k u:Nat}{T:Tg→Prop}{es:List E}{s:Sv}{M L:List Lk}{dn:Bool}{V:RV}{rv lv:Value}{ms ls:List Nat}
theorem Rn.tnF (R:Rn g h b es s M k dn V)(f:Tn b T g h g' h')(hb:h'[b]?=h[b]?)(hT:∀ τ,T τ→τ=.rg s.N∨τ=.lk s.N):Rn g' h' b es s M k dn V:=by
  have n1:∀ {τ},τ≠Tg.rg s.N→τ≠.lk s.N→¬T τ:=fun h1 h2 q=>(hT _ q).elim h1 h2
  refine⟨f.ok,by rw[hb];exact R.blk,by rw[f.take R.ok R.bl];exact R.e,R.y.tn R.ok f (n1 (by simp) (by simp)),R.nd.tn R.ok f (n1 (by simp) (by simp)),R.m.tn R.ok f (n1 (by simp) (by simp)),fun i hi=>(R.rg i hi).tn R.ok f (n1 (by simp;omega) (by simp)),fun i hi=>?_⟩
  obtain⟨L,h1,h2⟩:=R.lk i hi
  exact⟨L,h1.tn R.ok f (n1 (by simp) (by simp;omega)),h2⟩
theorem Rn.pushN (R : Rn g h b es s M k dn V) (hN : s.N < lim) (hr : Has g h (.rg s.N) 1 zf rv (zq (ZW ms))) (hl : Has g h (.lk s.N) 2 zS lv (L.map lkR)) (hL : Ls es ls L) :
    ∃nv' h1 h2 g',qS h 6 Yw 1 V.nv (some (ndR ⟨rv,lv,(u:Nat),0,-1,false⟩))=some (nv',h1)∧h1[b]?=some (QE s V k dn)∧stC h1 (p7 b 3) [nv']=some h2∧cellsOf nv'=some [nv']∧Tn b (·=.n) g h g' h2∧Rn g' h2 b es (kR s ms ls 0) M k dn (V.more s.N nv' rv lv u):=by
  obtain⟨nv',h1,g',e1,e2,e3,e4,_⟩:=R.nd.push R.ok R.bl (cs:=ndR ⟨rv,lv,(u:Nat),0,-1,false⟩) rfl (by rw[List.length_map,uU];exact hN)
  have hb':h1[b]?=some (QE s V k dn):=by rw[e3];exact R.blk
  have f2:Tn b (fun _=>False) g' h1 g' (h1.set b (QE (kR s ms ls 0) (V.more s.N nv' rv lv u) k dn)):=Tn.set e2.ok
  have hbl:=zG hb'
  have f3:Tn b (·=.n) g h g' (h1.set b (QE (kR s ms ls 0) (V.more s.N nv' rv lv u) k dn)):=e2.trans (f2.mono fun _ q=>q.elim)
  have hn:(vU (kR s ms ls 0) (V.more s.N nv' rv lv u)).map ndR=(vU s V).map ndR++[ndR ⟨rv,lv,(u:Nat),0,-1,false⟩]:=by
    have e0:vU (kR s ms ls 0) (V.more s.N nv' rv lv u)=vU s V++[⟨rv,lv,(u:Nat),0,-1,false⟩]:=by
      unfold vU;show (List.range (s.N+1)).map _=_;rw[List.range_succ,List.map_append,List.map_singleton]
      congr 1
      · refine List.map_congr_left fun v hv=>?_
        have:v≠s.N:=by have:=List.mem_range.1 hv;omega
        simp[uu,kR,RV.more,this]
      · simp[uu,kR,RV.more,upI]
    rw[e0,List.map_append,List.map_singleton]
  have rgN:∀i,i<s.N+1→Has g' (h1.set b (QE (kR s ms ls 0) (V.more s.N nv' rv lv u) k dn)) (.rg i) 1 zf (if i=s.N then rv else V.rv i) (zq (ZW (if i=s.N then ms else s.mem i))):=fun i hi=>by
    by_cases c:i=s.N
    · rw[if_pos c,if_pos c,c];exact hr.tn R.ok f3 (by simp)
    · rw[if_neg c,if_neg c];exact (R.rg i (by omega)).tn R.ok f3 (by simp)
  refine⟨nv',h1,_,g',e1,hb',by simp[stC,p7,hb',QE,putAt,kR,RV.more],e4.rows.cells,f3,⟨f3.ok,List.getElem?_set_self hbl,by rw[f3.take R.ok R.bl];exact R.e,R.y.tn R.ok f3 (by simp),?_,R.m.tn R.ok f3 (by simp),rgN,fun i hi=>?_⟩⟩
  · rw[hn]
    exact e4.tn e2.ok f2 id
  · show ∃L:List Lk,Has _ _ _ _ _ (if i=s.N then lv else V.lv i) _∧gi es _ i L
    unfold gi;show ∃L:List Lk,Has _ _ _ _ _ (if i=s.N then lv else V.lv i) _∧(L.length=(if i=s.N then ls else s.lnk i).length∧∀j,j<L.length→IsE es ((if i=s.N then ls else s.lnk i).getD j 0) (L.getD j l0))
    by_cases c:i=s.N
    · rw[if_pos c,if_pos c,c];exact⟨L,hl.tn R.ok f3 (by simp),hL⟩
    · rw[if_neg c,if_neg c]
      have hi':i<s.N+1:=hi
      obtain⟨L',q1,q2⟩:=R.lk i (by omega)
      exact⟨L',q1.tn R.ok f3 (by simp),q2⟩
end
end Go.Proofs.Ytafhipglhnfgnaa.Ab
