/- Joined. No conditions. -/
import Derived.Test.YtafhipglhnfgnaaM14
import Derived.Test.YtafhipglhnfgnaaM13
set_option linter.unusedSimpArgs false
set_option linter.unusedVariables false
set_option linter.unnecessarySimpa false
set_option maxHeartbeats 4000000
namespace Go.Proofs.Ytafhipglhnfgnaa.Ab
open Go.RowKit
noncomputable def tP (p:Prop):Bool:=@decide p (Classical.propDecidable p)
theorem xt {p:Prop}(h:p):tP p=true:=by unfold tP;exact @decide_eq_true p (Classical.propDecidable p) h
theorem Ku {p:Prop}(h:¬p):tP p=false:=by unfold tP;exact @decide_eq_false p (Classical.propDecidable p) h
structure Sm (s:Sv):Prop where
  n:s.n≤9
  N:s.N≤400
  y:∀v,v<s.n→-100000000≤s.y v∧s.y v≤100000000
  z:∀p,p<s.N→-100000000≤s.z p∧s.z p≤100000000
def yM (s:Sv)(i:Nat)(x:Lk):Option Lk:=if top s x.f=i then some x else if top s x.t=i then some x.rev else none
def vr (s:Sv)(i:Nat)(M:List Lk):Option Lk:=M.findSome? (yM s i)
structure QF (es:List E)(s:Sv)(M:List Lk):Prop where
  of:∀x∈M,∃e,IsE es e x∧s.mate (top s x.f)=some e∧s.mate (top s x.t)=some e∧top s x.f≠top s x.t∧zc s (top s x.f)∧zc s (top s x.t)
  all:∀t e,zc s t→s.mate t=some e→∃x∈M,IsE es e x
  nd:M.Pairwise fun x y=>∀e,IsE es e x→¬IsE es e y
  le:M.length≤400
theorem Bx {s:Sv}{a c:Nat}:∀ {k},k≤s.n→qJ s a c k=0
  | 0,_=>rfl
  | k+1,h=>by
    unfold qJ
    rw[Bx (by omega),if_neg (fun q=>by omega)]
    rfl
theorem Xb {s:Sv}(hs:Sm s){a c:Nat}:∀ {k},k≤s.N→-100000000*(k:Int)≤qJ s a c k∧qJ s a c k≤100000000*(k:Int)
  | 0,_=>by unfold qJ;omega
  | k+1,h=>by
    have ih:=Xb hs (a:=a) (c:=c) (k:=k) (by omega)
    have hz:=hs.z k (by omega)
    unfold qJ
    split<;>omega
theorem jA {es:List E}{s:Sv}(K:Ok es s){e:Nat}{x:Lk}(h:IsE es e x):x.f<s.n∧x.t<s.n:=by
  have:=K.ed e h.1
  rcases h.2 with⟨h1,h2⟩ | ⟨h1,h2⟩<;>omega
theorem Ul {es:List E}{size:Int}(g:GOk size es){e e':Nat}{x:Lk}(h:IsE es e x)(h':IsE es e' x):e=e':=by
  have a1:=wG g h.1;have a2:=wG g h'.1;have i1:=KW g h.1;have i2:=KW g h'.1
  have e1:vA es e=vA es e'∧vB es e=vB es e':=by
    rcases h.2 with⟨h1,h2⟩ | ⟨h1,h2⟩<;>rcases h'.2 with⟨h3,h4⟩ | ⟨h3,h4⟩<;>omega
  rw[a1.1,a1.2.1,e1.1,e1.2,←a2.1,←a2.2.1] at i1;have:(e:Int)=e':=i1.symm.trans i2;omega
theorem yG {es:List E}{s:Sv}{e a c:Nat}(hj:Jn es s e a c):∀ {x:Lk},IsE es e x→(Wi s x.f a∧Wi s x.t c)∨(Wi s x.t a∧Wi s x.f c):=fun h=>by
  rcases h.2 with⟨h1,h2⟩ | ⟨h1,h2⟩<;>rcases hj.2 with⟨h3,h4⟩ | ⟨h3,h4⟩<;>rw[h1,h2]
  · exact .inl ⟨h3,h4⟩
  · exact .inr ⟨h3,h4⟩
  · exact .inr ⟨h3,h4⟩
  · exact .inl ⟨h3,h4⟩
section
variable {es:List E}{s:Sv}{M:List Lk}{i e:Nat}{x:Lk}
theorem UP (K:Ok es s)(m:QF es s M)(h:vr s i M=some x):zc s i∧∃e,IsE es e x∧s.mate i=some e∧top s x.f=i∧zc s (top s x.t)∧s.mate (top s x.t)=some e∧top s x.t≠i:=by
  obtain⟨u,hu,hr⟩:=List.exists_of_findSome?_eq_some h;obtain⟨e,h1,h2,h3,h4,h5,h6⟩:=m.of u hu;unfold yM at hr;split at hr
  · next c =>
    cases hr;rw[c] at h2 h4 h5
    exact⟨h5,e,h1,h2,c,h6,h3,fun q=>h4 q.symm⟩
  · split at hr
    · next c =>
      cases hr;rw[c] at h3 h4 h6;exact⟨h6,e,h1.rev,h3,c,h5,h2,h4⟩
    · cases hr
theorem GR (K:Ok es s)(m:QF es s M)(h:vr s i M=none)(ht:zc s i):s.mate i=none:=by
  cases hm:s.mate i with
  | none=>rfl
  | some e =>
    exfalso;obtain⟨u,hu,h1⟩:=m.all i e ht hm;have h2:=List.findSome?_eq_none_iff.1 h u hu;obtain⟨_,o,ho,hne,hmo,hj⟩:=K.mate i e ht hm;have hi:=K.upOk;unfold yM at h2;rcases yG hj h1 with⟨q,_⟩ | ⟨q,_⟩
    · rw[if_pos (Zo hi q ht.2.1)] at h2;cases h2
    · by_cases c:top s u.f=i
      · rw[if_pos c] at h2;cases h2
      · rw[if_neg c,if_pos (Zo hi q ht.2.1)] at h2;cases h2
theorem JY (K:Ok es s)(m:QF es s M)(ht:zc s i):(vr s i M).isSome=true↔∃e,s.mate i=some e:=by
  constructor
  · intro h
    cases hm:vr s i M with
    | none=>rw[hm] at h;cases h
    | some x=>obtain⟨_,e,_,h2,_⟩:=UP K m hm;exact⟨e,h2⟩
  · rintro⟨e,he⟩
    cases hm:vr s i M with
    | none=>rw[GR K m hm ht] at he;cases he
    | some x=>rfl
end
section
variable {X:Zb}{g:Ql}{h:za}{b k v t i:Nat}{es:List E}{s:Sv}{M:List Lk}{dn:Bool}{V:RV}
open Classical in
theorem uR (R:Rn g h b es s M k dn V)(hu:uh s)(hv:v<s.N):C T X qb [p7 b 0,.int .i64 (v:Nat),.int .i64 (t:Nat)] h=some (.bool (tP (Wi s v t)),h):=by
  refine qH kw rfl ?_;unfold wE;simp only[go_sem]
  refine WI (s.N+1) (fun m t' loc h'=>h'=h∧t' 0=p7 b 0∧t' 2=.int .i64 (t:Nat)∧((∃u:Nat,t' 1=.int .i64 (u:Nat)∧u<s.N∧m+u=s.N+1+v∧v≤u∧(Wi s u t↔Wi s v t))∨(t' 1=.int .i64 (-1)∧¬Wi s v t))) ⟨rfl,rfl,rfl,.inl ⟨v,rfl,hv,by omega,Nat.le_refl _,Iff.rfl⟩⟩ ?_
  rintro m t' loc h' ⟨rfl,t0,t2,⟨u,t1,hul,hm,hvu,hw⟩ | ⟨t1,hw⟩⟩
  · by_cases c:(u:Int)=(t:Int)
    · have e:u=t:=by omega
      subst e
      have hc:((u:Int)≥0):=by omega
      have hy:Wi s v u:=hw.1 (.refl _);simp only[t0,t1,t2,hc,go_sem];exact (xt hy).symm
    · have hc:((u:Int)≥0):=by omega
      have n4:=R.n4 hul
      cases hup:s.up u with
      | none =>
        rw[hup] at n4;have n4':ldC h' (zz V.nv 6 u 4) 1=some [.int .i64 (-1)]:=n4
        have hn:¬Wi s v t:=fun q=>by
          have:=(hw.2 q).top_eq hup;omega
        simp only[t0,t1,t2,c,hc,R.chk,R.fa,R.ld3,R.nia hul,R.nfa hul,n4',Nat.zero_add,go_sem]
        exact⟨m-1,by omega,.inr hn⟩
      | some p =>
        rw[hup] at n4;have n4':ldC h' (zz V.nv 6 u 4) 1=some [.int .i64 (p:Nat)]:=n4;have hp:=hu _ _ hup
        have hw':Wi s p t↔Wi s v t:=by
          rw[←hw];constructor
          · exact fun q=>.step hup q
          · intro q
            cases q with
            | refl=>omega
            | step e q=>rw[hup] at e;cases e;exact q
        simp only[t0,t1,t2,c,hc,R.chk,R.fa,R.ld3,R.nia hul,R.nfa hul,n4',Nat.zero_add,go_sem]
        exact⟨m-(p-u),by omega,p,rfl,hp.2,by omega,by omega,hw'⟩
  · have hc:¬((-1:Int)=(t:Int)):=by omega
    simp only[t0,t1,t2,hc,go_sem];exact (Ku hw).symm
theorem zdL {o:Option Nat}:(upI o<0)↔o=none:=by
  cases o with
  | none=>exact⟨fun _=>rfl,fun _=>by show (-1:Int)<0;omega⟩
  | some p=>exact⟨fun q=>by have:(p:Int)<0:=q;omega,fun q=>by cases q⟩
open Classical in
theorem um (R:Rn g h b es s M k dn V)(hi:i<s.N):C T X Z0 [p7 b 0,.int .i64 (i:Nat)] h=some (.bool (tP (zc s i)),h):=by
  refine qH KH rfl ?_;unfold Wo;have n5:=R.n5 hi;have n4:=R.n4 hi
  cases hg:s.gone i with
  | true =>
    rw[hg] at n5;simp only[R.chk,R.fa,R.ld3,R.nia hi,R.nfa hi,n5,Nat.zero_add,List.prefix_refl,go_sem]
    exact (Ku fun q=>by rw[q.2.2] at hg;cases hg).symm
  | false =>
    rw[hg] at n5
    by_cases c:upI (s.up i)<0
    · simp only[R.chk,R.fa,R.ld3,R.nia hi,R.nfa hi,n5,n4,c,Nat.zero_add,List.prefix_refl,go_sem]
      exact (xt ⟨hi,zdL.1 c,hg⟩).symm
    · simp only[R.chk,R.fa,R.ld3,R.nia hi,R.nfa hi,n5,n4,c,Nat.zero_add,List.prefix_refl,go_sem]
      exact (Ku fun q=>c (zdL.2 q.2.1)).symm
def X5 (o:Option Lk):Value:=.tuple ⟨[.agg ⟨lkR (o.getD l0)⟩,.bool o.isSome]⟩
theorem Yi (R:Rn g h b es s M k dn V)(hu:uh s)(hM:∀x∈M,x.f<s.N∧x.t<s.N)(hl:M.length≤400):C T X QA [p7 b 0,.int .i64 (i:Nat)] h=some (X5 (vr s i M),h):=by
  refine qH xL rfl ?_;unfold vc X5;simp only[go_sem]
  refine zT M.length (fun j t loc h'=>h'=h∧t 0=p7 b 0∧t 1=.int .i64 (i:Nat)∧t 6=.int .i64 (j:Nat)∧loc 4=some [.int .i64 0,.int .i64 0]∧∀q,q<j→yM s i (M.getD q l0)=none) ⟨rfl,rfl,rfl,rfl,rfl,fun q hq=>by omega⟩ ?_
  rintro j t loc h' hj ⟨rfl,t0,t1,t6,l4,hq⟩;simp only[t0,t6,R.chk,R.fa,R.ld4,R.mln,Nat.zero_add,go_sem]
  refine zt (by simp only[go_sem];rfl) ?_ ?_<;>intro hc
  · have hj1:j<M.length:=by omega
    have hw:IntKind.i64.wrap ((j:Int)+1)=((j+1:Nat):Int):=w64 (by omega) (by omega)
    obtain⟨m1,m2,m3⟩:=R.mia hj1;obtain⟨hx1,hx2⟩:=hM _ (zE (d:=l0) hj1);obtain⟨x,hx⟩:∃x,x=M.getD j l0:=⟨_,rfl⟩;rw[←hx] at m3 hx1 hx2;have c1:=ZL (X:=X) R hu hx1;have c2:=ZL (X:=X) R hu hx2
    have found:∀y,yM s i x=some y→vr s i M=some y:=fun y hy=>by
      unfold vr
      have e:M=M.take j++x::M.drop (j+1):=by rw[hx,List.getD_eq_getElem?_getD,List.getElem?_eq_getElem hj1,Option.getD_some,←List.drop_eq_getElem_cons hj1,List.take_append_drop]
      rw[e,List.findSome?_append]
      have:(M.take j).findSome? (yM s i)=none:=by
        rw[List.findSome?_eq_none_iff];intro u hu';obtain⟨q,hq1,hq2⟩:=Zv (d:=l0) hu';rw[List.length_take] at hq1
        have:=hq q (by omega)
        rw[←hq2]
        have e2:(M.take j).getD q l0=M.getD q l0:=by simp[List.getD_eq_getElem?_getD,List.getElem?_take,show q<j by omega]
        rw[e2];exact this
      rw[this];simp[hy]
    by_cases d1:(top s x.f:Int)=(i:Int)
    · have hm:=found x (by unfold yM;rw[if_pos (by omega)])
      rw[hm];simp only[t0,t1,t6,l4,R.chk,R.fa,R.ld4,m1,m2,m3,lkR,c1,d1,Nat.zero_add,List.prefix_refl,go_sem];rfl
    · by_cases d2:(top s x.t:Int)=(i:Int)
      · have hm:=found x.rev (by unfold yM;rw[if_neg (by omega),if_pos (by omega)])
        rw[hm];simp only[t0,t1,t6,l4,R.chk,R.fa,R.ld4,m1,m2,m3,lkR,c1,c2,d1,d2,Nat.zero_add,List.prefix_refl,go_sem];rfl
      · simp only[t0,t1,t6,l4,R.chk,R.fa,R.ld4,m1,m2,m3,lkR,c1,c2,d1,d2,hw,Nat.zero_add,List.prefix_refl,go_sem]
        refine⟨hj1,fun q hq'=>?_⟩
        by_cases e:q=j
        · rw[e,←hx]
          unfold yM
          rw[if_neg (by omega),if_neg (by omega)]
        · exact hq q (by omega)
  · have hm:vr s i M=none:=by
      unfold vr;rw[List.findSome?_eq_none_iff];intro u hu';obtain⟨q,hq1,hq2⟩:=Zv (d:=l0) hu';rw[←hq2]
      exact hq q (by omega)
    rw[hm];simp only[t0,t1,t6,l4,go_sem];rfl
def vT (s:Sv)(bs:Nat→Nat)(M:List Lk)(i:Nat):Nat:=match vr s i M with
  | some x=>x.f
  | none=>bs i
theorem X2 (R:Rn g h b es s M k dn V)(hu:uh s)(hM:∀x∈M,x.f<s.N∧x.t<s.N)(hl:M.length≤400)(hi:i<s.N):C T X wh [p7 b 0,.int .i64 (i:Nat)] h=some (.int .i64 ((vT s V.bs M i:Nat):Int),h):=by
  have c:=Yi (X:=X) (i:=i) R hu hM hl;unfold X5 at c;refine qH xK rfl ?_;unfold W9 vT
  cases hm:vr s i M with
  | some x =>
    rw[hm] at c;simp only[Option.getD_some,Option.isSome_some,lkR] at c;simp only[c,R.chk,R.fa,R.ld3,R.nia hi,R.nfa hi,R.n2 hi,Nat.zero_add,List.prefix_refl,go_sem]
  | none =>
    rw[hm] at c;simp only[Option.getD_none,Option.isSome_none,lkR] at c;simp only[c,R.chk,R.fa,R.ld3,R.nia hi,R.nfa hi,R.n2 hi,Nat.zero_add,List.prefix_refl,go_sem]
def ut (a b:Int):Int:=if a<0∨b<a then b else a
theorem uo {a c:Int}:C T X qi [.int .i64 a,.int .i64 c] h=some (.int .i64 (ut a c),h):=by
  refine qH KJ rfl ?_;unfold Wq ut
  by_cases c1:a<0
  · rw[if_pos (.inl c1)]
    simp only[c1,go_sem]
  · by_cases c2:c<a
    · rw[if_pos (.inr c2)]
      simp only[c1,c2,go_sem]
    · rw[if_neg (by omega)]
      simp only[c1,c2,go_sem]
end
section
variable {X:Zb}{g:Ql}{h:za}{b k v t i:Nat}{es:List E}{s:Sv}{M:List Lk}{dn:Bool}{V:RV}
open Classical in
theorem GL {size:Int}(R:Rn g h b es s M k dn V)(K:Ok es s)(hs:Sm s)(gk:GOk size es)(hi:i<es.length):C T X qW [p7 b 0,QN (es.getD i e0)] h=some (.int .i64 (slk es s i),h):=by
  obtain⟨hE,hEB⟩:=K.ed i hi;obtain⟨ga,gb,_⟩:=wG gk hi;obtain⟨w0,w1⟩:=zav gk hi;have hu:=K.upOk;have nN:=K.nN;have cs:=Vy (X:=X) (h:=h) (e:=es.getD i e0) (XT (uO gk (zE (d:=e0) hi)));obtain⟨q,hq⟩:∃q,q=es.getD i e0:=⟨_,rfl⟩;have hsc:ZJ (es.getD i e0).w1 (es.getD i e0).w2 (es.getD i e0).w3=vW es i:=rfl;rw[hsc] at cs;rw[←hq] at cs ga gb ⊢;unfold QN ZT at cs ⊢;rw[ga,gb] at cs ⊢;obtain⟨y1,y2⟩:=hs.y _ hE;obtain⟨y3,y4⟩:=hs.y _ hEB.1;obtain⟨a1,a2⟩:=R.yia hE;obtain⟨b1,b2⟩:=R.yia hEB.1
  have x1:IntKind.i64.wrap (s.y (vA es i)+s.y (vB es i))=s.y (vA es i)+s.y (vB es i):=w64 (by omega) (by omega)
  have x2:IntKind.i64.wrap (2*vW es i)=2*vW es i:=w64 (by omega) (by omega)
  have x3:IntKind.i64.wrap (s.y (vA es i)+s.y (vB es i)-2*vW es i)=s.y (vA es i)+s.y (vB es i)-2*vW es i:=w64 (by omega) (by omega)
  refine qH KL rfl ?_;unfold Ws;simp only[cs,R.chk,R.fa,R.ld0,R.ld2,a1,a2,b1,b2,x1,x2,x3,Nat.zero_add,List.prefix_refl,zj,zi,go_sem]
  refine zT (s.N-s.n) (fun j t' loc h'=>h'=h∧t' 0=p7 b 0∧t' 6=.int .i64 ((s.n+j:Nat):Int)∧loc 3=some [.int .i64 (vA es i:Int),.int .i64 (vB es i:Int),.int .i64 q.w1,.int .i64 q.w2,.int .i64 q.w3]∧t' 5=.int .i64 (s.y (vA es i)+s.y (vB es i)-2*vW es i+qJ s (vA es i) (vB es i) (s.n+j))) ⟨rfl,rfl,rfl,rfl,by rw[Bx (by omega),Int.add_zero];rfl⟩ ?_
  rintro j t' loc h' hj ⟨rfl,t0,t6,l3,t5⟩;simp only[t0,t6,R.chk,R.fa,R.ld3,R.nln,Nat.zero_add,go_sem]
  refine zt (by simp only[go_sem];rfl) ?_ ?_<;>intro hc
  · have hj1:s.n+j<s.N:=by omega
    have h9:=hs.N
    have hw:IntKind.i64.wrap (((s.n+j:Nat):Int)+1)=((s.n+(j+1):Nat):Int):=w64 (by omega) (by omega)
    have n5:=R.n5 hj1;have n3:=R.n3 hj1
    have d1:=uR (X:=X) (t:=s.n+j) R hu (v:=vA es i) (by omega)
    have d2:=uR (X:=X) (t:=s.n+j) R hu (v:=vB es i) (by omega)
    obtain⟨z1,z2⟩:=hs.z _ hj1
    obtain⟨z3,z4⟩:=Xb hs (a:=vA es i) (c:=vB es i) (k:=s.n+j) (by omega)
    have h9:=hs.N;have zs:qJ s (vA es i) (vB es i) (s.n+(j+1))=qJ s (vA es i) (vB es i) (s.n+j)+if s.n≤s.n+j∧Wi s (vA es i) (s.n+j)∧Wi s (vB es i) (s.n+j) then s.z (s.n+j) else 0:=rfl
    cases hg:s.gone (s.n+j) with
    | true =>
      rw[hg] at n5
      have nw:¬(s.n≤s.n+j∧Wi s (vA es i) (s.n+j)∧Wi s (vB es i) (s.n+j)):=fun q=>by
        rcases q.2.1.last with e | ⟨m,e,_⟩
        · omega
        · have:=(K.up _ _ e).2.1.2.2;rw[hg] at this;cases this
      rw[if_neg nw,Int.add_zero] at zs;simp only[t0,t5,t6,l3,R.chk,R.fa,R.ld3,R.nia hj1,R.nfa hj1,n5,hw,Nat.zero_add,List.prefix_refl,go_sem]
      exact⟨by omega,by rw[zs]⟩
    | false =>
      rw[hg] at n5
      by_cases c1:Wi s (vA es i) (s.n+j)
      · rw[xt c1] at d1
        by_cases c2:Wi s (vB es i) (s.n+j)
        · rw[xt c2] at d2
          rw[if_pos ⟨by omega,c1,c2⟩] at zs
          have x4:IntKind.i64.wrap (s.y (vA es i)+s.y (vB es i)-2*vW es i+qJ s (vA es i) (vB es i) (s.n+j)+s.z (s.n+j))=s.y (vA es i)+s.y (vB es i)-2*vW es i+qJ s (vA es i) (vB es i) (s.n+j)+s.z (s.n+j):=w64 (by omega) (by omega)
          simp only[t0,t5,t6,l3,R.chk,R.fa,R.ld3,R.nia hj1,R.nfa hj1,n5,n3,d1,d2,x4,hw,Nat.zero_add,List.prefix_refl,go_sem]
          exact⟨by omega,by rw[zs,Int.add_assoc]⟩
        · rw[Ku c2] at d2
          rw[if_neg (fun q=>c2 q.2.2),Int.add_zero] at zs
          simp only[t0,t5,t6,l3,R.chk,R.fa,R.ld3,R.nia hj1,R.nfa hj1,n5,d1,d2,hw,Nat.zero_add,List.prefix_refl,go_sem]
          exact⟨by omega,by rw[zs]⟩
      · rw[Ku c1] at d1
        rw[if_neg (fun q=>c1 q.2.1),Int.add_zero] at zs
        simp only[t0,t5,t6,l3,R.chk,R.fa,R.ld3,R.nia hj1,R.nfa hj1,n5,d1,hw,Nat.zero_add,List.prefix_refl,go_sem]
        exact⟨by omega,by rw[zs]⟩
  · have:s.n+j=s.N:=by omega
    simp only[t5,go_sem];rw[this];rfl
def UD (s:Sv)(L:List Nat)(i:Nat):Prop:=zc s i∧s.z i=0∧(L=[]∨L.getD i 0=2)
theorem GK {lv : Value} {L : List Nat} (R : Rn g h b es s M k dn V) (hs : Sm s) (nN : s.n ≤ s.N) (hL : Rows h 1 lv (zq (ZW L))) (hl : L = [] ∨ L.length = s.N) :
    ∃r:Int,C T X ZZ [p7 b 0,lv] h=some (.int .i64 r,h)∧((r=-1∧∀i,s.n≤i→i<s.N→¬UD s L i)∨∃i:Nat,r=i∧s.n≤i∧i<s.N∧UD s L i):=by
  suffices hx:∃w hh,C T X ZZ [p7 b 0,lv] h=some (w,hh)∧hh=h∧∃r:Int,w=.int .i64 r∧((r=-1∧∀i,s.n≤i→i<s.N→¬UD s L i)∨∃i:Nat,r=i∧s.n≤i∧i<s.N∧UD s L i) by
    obtain⟨w,hh,c,rfl,r,rfl,q⟩:=hx;exact⟨r,c,q⟩
  refine wU KG rfl ?_;unfold Wn;simp only[R.chk,R.fa,R.ld0,Nat.zero_add,go_sem]
  refine zT (s.N-s.n) (fun j t' loc h'=>h'=h∧t' 0=p7 b 0∧t' 1=lv∧t' 5=.int .i64 ((s.n+j:Nat):Int)∧∀q,s.n≤q→q<s.n+j→¬UD s L q) ⟨rfl,rfl,rfl,rfl,fun q h1 h2=>by omega⟩ ?_
  rintro j t' loc h' hj ⟨rfl,t0,t1,t5,hq⟩;have h9:=hs.N;simp only[t0,t5,R.chk,R.fa,R.ld3,R.nln,Nat.zero_add,go_sem]
  refine zt (by simp only[go_sem];rfl) ?_ ?_<;>intro hc
  · have hj1:s.n+j<s.N:=by omega
    have hw:IntKind.i64.wrap (((s.n+j:Nat):Int)+1)=((s.n+(j+1):Nat):Int):=w64 (by omega) (by omega)
    have n3:=R.n3 hj1;have d1:=um (X:=X) R hj1
    have next:¬UD s L (s.n+j)→∀q,s.n≤q→q<s.n+(j+1)→¬UD s L q:=fun hn q h1 h2=>by
      by_cases e:q=s.n+j
      · rw[e];exact hn
      · exact hq q h1 (by omega)
    by_cases c1:zc s (s.n+j)
    rotate_left
    · rw[Ku c1] at d1
      simp only[t0,t1,t5,R.chk,R.fa,R.ld3,R.nia hj1,R.nfa hj1,n3,d1,hw,Nat.zero_add,List.prefix_refl,go_sem]
      exact⟨by omega,next fun q=>c1 q.1⟩
    rw[xt c1] at d1
    by_cases c2:s.z (s.n+j)=0
    rotate_left
    · simp only[t0,t1,t5,R.chk,R.fa,R.ld3,R.nia hj1,R.nfa hj1,n3,d1,c2,hw,Nat.zero_add,List.prefix_refl,go_sem]
      exact⟨by omega,next fun q=>c2 q.2.1⟩
    have hln:lnV h' lv=some (.int .i64 (L.length:Nat)):=by
      have:=hL.ln;rw[z9] at this;unfold ZW at this;rw[List.length_map] at this;exact this
    by_cases c3:(L.length:Int)=0
    · simp only[t0,t1,t5,hln,R.chk,R.fa,R.ld3,R.nia hj1,R.nfa hj1,n3,d1,c2,c3,hw,Nat.zero_add,List.prefix_refl,go_sem]
      exact⟨_,rfl,.inr ⟨s.n+j,rfl,by omega,hj1,c1,c2,.inl (List.length_eq_zero_iff.1 (by omega))⟩⟩
    · have hll:L.length=s.N:=by
        rcases hl with q | q
        · rw[q] at c3;simp at c3
        · exact q
      have hlj:s.n+j<(ZW L).length:=by unfold ZW;rw[List.length_map];omega
      have el:=hL.el (f:=fun n:Int=>[.int .i64 n]) (l:=ZW L) 0 hlj
      have hg:(ZW L).getD (s.n+j) 0=((L.getD (s.n+j) 0:Nat):Int):=by
        unfold ZW
        simp[List.getD_eq_getElem?_getD,show s.n+j<L.length by omega]
      rw[hg] at el
      by_cases c4:((L.getD (s.n+j) 0:Nat):Int)=2
      · simp only[t0,t1,t5,hln,el.1,el.2.2,R.chk,R.fa,R.ld3,R.nia hj1,R.nfa hj1,n3,d1,c2,c3,c4,hw,Nat.zero_add,List.prefix_refl,go_sem]
        exact⟨_,rfl,.inr ⟨s.n+j,rfl,by omega,hj1,c1,c2,.inr (by omega)⟩⟩
      · simp only[t0,t1,t5,hln,el.1,el.2.2,R.chk,R.fa,R.ld3,R.nia hj1,R.nfa hj1,n3,d1,c2,c3,c4,hw,Nat.zero_add,List.prefix_refl,go_sem]
        refine⟨by omega,next fun q=>?_⟩
        rcases q.2.2 with e | e
        · rw[e] at c3;simp at c3
        · omega
  · simp only[go_sem]
    exact⟨_,rfl,.inl ⟨rfl,fun i h1 h2=>hq i h1 (by omega)⟩⟩
end
structure Tl (es:List E)(s:Sv)(l:Lb)(L:List Nat)(A:List Lk)(Q:List Nat):Prop where
  ln:L.length=s.N∧A.length=s.N∧Q.length=s.N
  lab:∀t,t<s.N→L.getD t 0=l.lab t
  ah:∀t o,t<s.N→l.ahead t=some o→∃e,l.byE t=some e∧IsE es e (A.getD t l0)∧top s (A.getD t l0).f=o∧top s (A.getD t l0).t=t
  rt:∀t,t<s.N→l.lab t≠0→∃ws,qc l ws∧ws.getD 0 0=t∧Q.getD t 0=ws.getD (ws.length-1) 0
def slv (c n:Nat):Value:=.slice (some ⟨c,0,none⟩) n n
def p3 (b k:Nat):Value:=.pointer (some ⟨b,k,some 3⟩)
structure Tp (h:za)(lo N:Nat)(L:List Nat)(A:List Lk)(Q:List Nat):Prop where
  blk:h[lo+3]?=some ⟨[slv lo N,slv (lo+1) N,slv (lo+2) N],3,UB,true⟩
  l:Own h lo (lo+1) 1 zf (slv lo N) (zq (ZW L))
  a:Own h (lo+1) (lo+2) 2 zS (slv (lo+1) N) (A.map lkR)
  q:Own h (lo+2) (lo+3) 1 zf (slv (lo+2) N) (zq (ZW Q))
  ln:L.length=N∧A.length=N∧Q.length=N
theorem GW {l:List Nat}{i:Nat}(h:i<l.length):(ZW l).getD i 0=((l.getD i 0:Nat):Int):=by
  unfold ZW;simp[List.getD_eq_getElem?_getD,h]
theorem qP {l:List Nat}:(ZW l).length=l.length:=by unfold ZW;rw[List.length_map]
section
variable {h h':za}{lo N i:Nat}{L Q:List Nat}{A:List Lk}
theorem Tp.up (P:Tp h lo N L A Q)(hp:h <+: h'):Tp h' lo N L A Q:=⟨WD hp P.blk,P.l.up hp,P.a.up hp,P.q.up hp,P.ln⟩
theorem Tp.tn {g g':Ql}{b:Nat}{T:Tg→Prop}(P:Tp h lo N L A Q)(f:Tn b T g h g' h')(hb:b<lo)(hg:∀c,lo≤c→c<lo+4→g c=none):Tp h' lo N L A Q:=by
  have hl:=zG P.blk
  have key:∀c,lo≤c→c<lo+4→h'[c]?=h[c]?:=fun c h1 h2=>f.blk c (by omega) (by omega) fun τ q=>by rw[hg c h1 h2] at q;cases q
  have own:∀ {c sz:Nat} {ty:TypeId} {v:Value} {rws:List (List Value)},lo≤c→c<lo+4→Own h c (c+1) sz ty v rws→Own h' c (c+1) sz ty v rws:=fun h1 h2 o=>by
    refine⟨o.len,?_⟩;rcases o.is with q | ⟨x,l1,l2,l3,l4⟩
    · exact .inl q
    · exact .inr ⟨x,l1,l2,l3,by rw[key x (by omega) (by omega)];exact l4⟩
  exact⟨by rw[key _ (by omega) (by omega)];exact P.blk,own (by omega) (by omega) P.l,own (by omega) (by omega) P.a,own (by omega) (by omega) P.q,P.ln⟩
theorem Tp.chk (P:Tp h lo N L A Q):jw h (p3 (lo+3) 0)=some (p3 (lo+3) 0):=by simp[jw,ldC,p3,P.blk]
theorem Tp.fa (P:Tp h lo N L A Q):∀i j,faV h (p3 (lo+3) i) j=some (p3 (lo+3) (i+j)):=fun i j=>by simp[faV,p3,P.blk]
theorem Tp.ld0 (P:Tp h lo N L A Q):ldC h (p3 (lo+3) 0) 1=some [slv lo N]:=by simp[ldC,p3,P.blk]
theorem Tp.ld1 (P:Tp h lo N L A Q):ldC h (p3 (lo+3) 1) 1=some [slv (lo+1) N]:=by simp[ldC,p3,P.blk]
theorem Tp.ld2 (P:Tp h lo N L A Q):ldC h (p3 (lo+3) 2) 1=some [slv (lo+2) N]:=by simp[ldC,p3,P.blk]
theorem vK {v:Value}{l:List Nat}(r:Rows h 1 v (zq (ZW l)))(hi:i<l.length):iaV h 1 v (.int .i64 (i:Nat))=some (zz v 1 i 0)∧ldC h (zz v 1 i 0) 1=some [.int .i64 ((l.getD i 0:Nat):Int)]:=by
  have el:=r.el (f:=fun n:Int=>[.int .i64 n]) (l:=ZW l) 0 (i:=i) (by rw[qP];exact hi)
  rw[GW hi] at el;exact⟨el.1,el.2.2⟩
theorem Fk {v:Value}{l:List Nat}(r:Rows h 1 v (zq (ZW l))):lnV h v=some (.int .i64 (l.length:Nat)):=by
  have:=r.ln;rw[z9,qP] at this;exact this
theorem Tp.lel (P:Tp h lo N L A Q)(hi:i<N):iaV h 1 (slv lo N) (.int .i64 (i:Nat))=some (zz (slv lo N) 1 i 0)∧ldC h (zz (slv lo N) 1 i 0) 1=some [.int .i64 ((L.getD i 0:Nat):Int)]:=vK P.l.rows (by rw[P.ln.1];exact hi)
theorem Tp.qel (P:Tp h lo N L A Q)(hi:i<N):iaV h 1 (slv (lo+2) N) (.int .i64 (i:Nat))=some (zz (slv (lo+2) N) 1 i 0)∧ldC h (zz (slv (lo+2) N) 1 i 0) 1=some [.int .i64 ((Q.getD i 0:Nat):Int)]:=vK P.q.rows (by rw[P.ln.2.2];exact hi)
theorem Tp.ael (P:Tp h lo N L A Q)(hi:i<N):iaV h 2 (slv (lo+1) N) (.int .i64 (i:Nat))=some (zz (slv (lo+1) N) 2 i 0)∧(∀o j,faV h (zz (slv (lo+1) N) 2 i o) j=some (zz (slv (lo+1) N) 2 i (o+j)))∧ldC h (zz (slv (lo+1) N) 2 i 0) 2=some (lkR (A.getD i l0)) :=
  P.a.rows.el l0 (by rw[P.ln.2.1];exact hi)
theorem Tp.a0 (P:Tp h lo N L A Q)(hi:i<N):ldC h (zz (slv (lo+1) N) 2 i 0) 1=some [.int .i64 ((A.getD i l0).f:Nat)]:=P.a.rows.cell l0 (by rw[P.ln.2.1];exact hi) (by omega)
end
section
variable {es:List E}{s:Sv}{l:Lb}{rk:Nat→Nat}{t:Nat}{L Q:List Nat}{A:List Lk}{ws:List Nat}
theorem jg (F:Fo es s l rk):∀ {ws:List Nat},qc l ws→l.lab (ws.getD 0 0)≠0→∀t∈ws,l.lab t≠0∧rk t≤rk (ws.getD 0 0)
  | [a],_,h0,t,ht=>by
    rw[List.mem_singleton.1 ht];exact⟨h0,Nat.le_refl _⟩
  | a::o::xs,h,h0,t,ht=>by
    obtain⟨h1,h2⟩:=h;have ha:l.lab a≠0:=h0;obtain⟨r1,r2,_⟩:=F.rkAhead ha h1;rcases List.mem_cons.1 ht with e | ht
    · rw[e];exact⟨ha,Nat.le_refl _⟩
    · have:=jg F (ws:=o::xs) h2 r2 t ht
      refine⟨this.1,?_⟩;have h3:rk t≤rk o:=this.2;show rk t≤rk a;omega
theorem Tl.root_iff (T:Tl es s l L A Q)(F:Fo es s l rk)(ht:t<s.N)(h0:l.lab t≠0):Q.getD t 0=t↔l.ahead t=none:=by
  obtain⟨ws,w1,w2,w3⟩:=T.rt t ht h0;rw[w3]
  match ws,w1,w2 with
  | [a],w1,w2 =>
    have e:a=t:=w2;subst e
    exact⟨fun _=>w1,fun _=>rfl⟩
  | a::o::xs,w1,w2 =>
    have e:a=t:=w2;subst e;obtain⟨h1,h2⟩:=w1;have r:=F.rkAhead h0 h1;constructor
    · intro q
      exfalso
      have hm:(a::o::xs).getD ((a::o::xs).length-1) 0∈o::xs:=by
        have:(a::o::xs).getD ((a::o::xs).length-1) 0=(o::xs).getD ((o::xs).length-1) 0:=by simp
        rw[this]
        exact zE (d:=0) (by simp)
      have:=(jg F (ws:=o::xs) h2 r.2.1 _ hm).2;rw[q] at this;have h3:rk a≤rk o:=this;omega
    · intro q
      rw[q] at h1;cases h1
end
section
variable {X:Zb}{g:Ql}{h:za}{b k t lo:Nat}{es:List E}{s:Sv}{l:Lb}{rk:Nat→Nat}{M:List Lk}{dn:Bool}{V:RV}{L Q:List Nat}{A:List Lk}{ws:List Nat}
theorem CZ (F:Fo es s l rk):∀ {ws:List Nat},qc l ws→l.lab (ws.getD 0 0)≠0→ws.Nodup
  | [a],_,_=>by simp
  | a::o::xs,h,h0=>by
    obtain⟨h1,h2⟩:=h;have ha:l.lab a≠0:=h0;obtain⟨r1,r2,_⟩:=F.rkAhead ha h1
    refine List.nodup_cons.2 ⟨fun q=>?_,CZ F (ws:=o::xs) h2 r2⟩
    have h3:rk a≤rk o:=(jg F (ws:=o::xs) h2 r2 a q).2;omega
theorem Js (F:Fo es s l rk)(hw:qc l ws)(h0:l.lab (ws.getD 0 0)≠0):ws.length≤s.N:=by
  have h1:=qw (a:=ws) (b:=List.range s.N) (CZ F hw h0) fun t ht=>List.mem_range.2 (F.top t (jg F hw h0 t ht).1).1
  rwa [List.length_range] at h1
theorem jL (R : Rn g h b es s M k dn V) (K : Ok es s) (hs : Sm s) (P : Tp h lo s.N L A Q) (D : Tl es s l L A Q) (F : Fo es s l rk) (hw : qc l ws) (h0 : l.lab (ws.getD 0 0) ≠ 0) :
    ∃v h',C T X Qj [p7 b 0,p3 (lo+3) 0,.int .i64 (ws.getD 0 0:Nat)] h=some (v,h')∧h <+: h'∧Own h' h.length h'.length 1 zf v (zq (ZW ws)):=by
  refine wU XL rfl ?_;unfold Vs;have hu:=K.upOk;have h9:=hs.N;have hlen:=Js F hw h0
  obtain⟨a0,ws',hws⟩:∃a ws',ws=a::ws':=by
    cases ws with
    | nil=>exact hw.elim
    | cons a ws'=>exact⟨a,ws',rfl⟩
  have ha0:ws.getD 0 0=a0:=by rw[hws];rfl
  have hlab:=jg F hw h0;simp only[zj,zi,go_sem]
  refine WI ws.length (fun m t' loc h'=>t' 0=p7 b 0∧t' 1=p3 (lo+3) 0∧h <+: h'∧∃(pre rest:List Nat) (c:Nat) (v:Value),t' 2=.int .i64 (c:Nat)∧t' 7=v∧ws=pre++c::rest∧qc l (c::rest)∧m=rest.length+1∧Own h' h.length h'.length 1 zf v (zq (ZW (pre++[c])))) ⟨rfl,rfl,List.prefix_append _ _,[],ws',a0,.slice (some ⟨h.length,0,none⟩) 1 1,by rw[←ha0];rfl,rfl,hws,by rw[←hws];exact hw,by rw[hws];rfl,?_⟩ ?_
  · rw[ha0]
    have:=Own.made (h:=h) (ty:=zf) (rws:=zq (ZW ([]++[a0]))) (sz:=1) (fun r hr=>by simp[zq,ZW] at hr;rw[hr];rfl)
    simpa[zq,ZW] using this
  · rintro m t' loc h' ⟨t0,t1,hp,pre,rest,c,v,t2,t7,hw1,hw2,hm,o⟩
    have R':=R.up hp;have P':=P.up hp
    have hc:=hlab c (by rw[hw1];simp)
    have hcN:c<s.N:=(F.top c hc.1).1;have hri:=D.root_iff F hcN hc.1;obtain⟨q1,q2⟩:=P'.qel hcN
    have hlen2:(pre++[c]).length≤s.N:=by
      rw[hw1] at hlen;simp only[List.length_append,List.length_cons,List.length_nil] at hlen ⊢;omega
    cases rest with
    | nil =>
      have ha:l.ahead c=none:=hw2
      have hq:((Q.getD c 0:Nat):Int)=(c:Int):=by rw[hri.2 ha]
      simp only[t0,t1,t2,t7,P'.chk,P'.fa,P'.ld2,q1,q2,hq,Nat.zero_add,go_sem];refine⟨o.live,?_⟩;obtain⟨f1,f2⟩:=o.fin hp;rw[hw1];exact⟨f1,f2⟩
    | cons o' rest =>
      obtain⟨ha,hw3⟩:=hw2
      have hq:¬((Q.getD c 0:Nat):Int)=(c:Int):=fun q=>by
        have:=hri.1 (by omega)
        rw[ha] at this;cases this
      obtain⟨e,e1,e2,e3,e4⟩:=D.ah c o' hcN ha;obtain⟨x1,x2⟩:=jA K e2;have nN:=K.nN;obtain⟨a1,a2,a3⟩:=P'.ael hcN;have a4:=P'.a0 hcN
      have ct:=ZL (X:=X) R' hu (v:=(A.getD c l0).f) (by omega)
      rw[e3] at ct
      obtain⟨v2,h2,c3,p1,p2,o2⟩:=o.push1 (zy hp) [.int .i64 (o':Nat)] rfl (by rw[z9,qP];unfold lim;omega)
      rw[Nat.max_eq_right p1] at o2;simp only[t0,t1,t2,t7,P'.chk,P'.fa,P'.ld1,P'.ld2,q1,q2,hq,a1,a2,a4,ct,zj,zi,c3,Nat.zero_add,List.prefix_refl,go_sem]
      refine⟨rest.length+1,by rw[hm];simp,QY hp (Nat.le_refl _) p1 p2,pre++[c],rest,o',v2,rfl,rfl,by rw[hw1];simp,hw3,rfl,?_⟩
      simpa[zq,ZW] using o2
end
theorem zfT {α:Type}{l:List α}{i j:Nat}{v d:α}:(l.set i v).getD j d=if i=j∧j<l.length then v else l.getD j d:=by
  rw[List.getD_eq_getElem?_getD,List.getD_eq_getElem?_getD,List.getElem?_set]
  by_cases h:i=j
  · subst h
    by_cases q:i<l.length
    · rw[if_pos rfl,if_pos q,if_pos ⟨rfl,q⟩];rfl
    · rw[if_pos rfl,if_neg q,if_neg (fun k=>q k.2),List.getElem?_eq_none (by omega)]
  · rw[if_neg h,if_neg (fun k=>h k.1)]
theorem WL {α:Type}{l:List α}{i:Nat}{v d:α}(h:i<l.length):(l.set i v).getD i d=v:=by rw[zfT,if_pos ⟨rfl,h⟩]
theorem vp {α:Type}{l:List α}{i j:Nat}{v d:α}(h:i≠j):(l.set i v).getD j d=l.getD j d:=by rw[zfT,if_neg (fun k=>h k.1)]
def Xr (N:Nat)(l:Lb):Nat:=((List.range N).filter fun t=>decide (l.lab t=0)).length
theorem Ch {p q:Nat→Bool}:∀ {l:List Nat},(∀x∈l,q x=true→p x=true)→(∃x∈l,p x=true∧q x=false)→(l.filter q).length<(l.filter p).length
  | [],_,h=>by obtain⟨x,hx,_⟩:=h;cases hx
  | a::l,h1,h2=>by
    have le:(l.filter q).length≤(l.filter p).length:=by
      have:∀ {l:List Nat},(∀x∈l,q x=true→p x=true)→(l.filter q).length≤(l.filter p).length:=by
        intro l
        induction l with
        | nil=>intro _;exact Nat.le_refl _
        | cons b l ih =>
          intro h
          have ih:=ih fun x hx=>h x (List.mem_cons_of_mem _ hx)
          have hb:=h b List.mem_cons_self;rw[List.filter_cons,List.filter_cons]
          cases hq:q b with
          | true=>rw[hb hq];simpa using ih
          | false =>
            cases p b<;>simp<;>omega
      exact this fun x hx=>h1 x (List.mem_cons_of_mem _ hx)
    rw[List.filter_cons,List.filter_cons]
    by_cases c:p a=true∧q a=false
    · rw[c.1,c.2]
      simp;omega
    · have ih:=Ch (l:=l) (fun x hx=>h1 x (List.mem_cons_of_mem _ hx)) (by
        obtain⟨x,hx,hp⟩:=h2;rcases List.mem_cons.1 hx with e | e
        · rw[e] at hp;exact absurd hp c
        · exact⟨x,e,hp⟩)
      cases hq:q a with
      | true=>rw[h1 a List.mem_cons_self hq];simpa using ih
      | false =>
        cases hp:p a with
        | true=>exact absurd ⟨hp,hq⟩ c
        | false=>simpa using ih
def Dn (es:List E)(s:Sv)(l:Lb)(e:Nat):Prop:=Ze es s e→top s (vA es e)≠top s (vB es e)→¬((l.lab (top s (vA es e))=1∧l.lab (top s (vB es e))≠2)∨(l.lab (top s (vB es e))=1∧l.lab (top s (vA es e))≠2))
section
variable {es:List E}{s:Sv}{l:Lb}{rk:Nat→Nat}{a b c e f t:Nat}{L Q:List Nat}{A:List Lk}{x y:Lk}
theorem cB (K:Ok es s)(h:∀e,e<es.length→Dn es s l e):VF es s l:=by
  intro e a b he ht hj ha hb hab la;have hu:=K.upOk;have hp:=h e he ht;rcases hj.2 with⟨w1,w2⟩ | ⟨w1,w2⟩
  · have e1:=Zo hu w1 ha.2.1
    have e2:=Zo hu w2 hb.2.1;rw[e1,e2] at hp;apply Classical.byContradiction
    intro q;exact hp hab (.inl ⟨la,q⟩)
  · have e1:=Zo hu w1 ha.2.1
    have e2:=Zo hu w2 hb.2.1;rw[e1,e2] at hp;apply Classical.byContradiction
    intro q;exact hp (Ne.symm hab) (.inr ⟨la,q⟩)
theorem xY (hb:l.lab b=0)(hc:l.lab c=0)(F:Fo es s l rk):∀ {ws:List Nat},qc l ws→l.lab (ws.getD 0 0)≠0→qc (uP l a b c e f) ws
  | [t],h,h0=>by
    have h0':l.lab t≠0:=h0
    have n1:t≠c:=fun q=>h0' (q▸hc)
    have n2:t≠b:=fun q=>h0' (q▸hb)
    show (if t=c then some b else if t=b then some a else l.ahead t)=none;rw[if_neg n1,if_neg n2];exact h
  | t::o::xs,h,h0=>by
    have h0':l.lab t≠0:=h0
    have n1:t≠c:=fun q=>h0' (q▸hc)
    have n2:t≠b:=fun q=>h0' (q▸hb)
    have r:=F.rkAhead h0' h.1;refine⟨?_,xY hb hc F (ws:=o::xs) h.2 r.2.1⟩;show (if t=c then some b else if t=b then some a else l.ahead t)=some o;rw[if_neg n1,if_neg n2];exact h.1
theorem Cr (D : Tl es s l L A Q) (F : Fo es s l rk) (ha : zc s a) (hb : zc s b) (hc : zc s c) (la : l.lab a = 1) (lb : l.lab b = 0) (lc : l.lab c = 0) (hbc : b ≠ c) (he : IsE es e x) (hf : IsE es f y)
    (x1:top s x.f=a) (x2:top s x.t=b) (y1:top s y.f=b) (y2:top s y.t=c):Tl es s (uP l a b c e f) ((L.set b 2).set c 1) ((A.set b x).set c y) ((Q.set b (Q.getD a 0)).set c (Q.getD a 0)):=by
  have hab:a≠b:=fun q=>by rw[q,lb] at la;cases la
  have hac:a≠c:=fun q=>by rw[q,lc] at la;cases la
  obtain⟨n1,n2,n3⟩:=D.ln;have bN:=hb.1;have cN:=hc.1
  obtain⟨wa,w1,w2,w3⟩:=D.rt a ha.1 (by omega)
  have wg:=xY (a:=a) (e:=e) (f:=f) lb lc F w1 (by rw[w2];omega)
  obtain⟨wt,hwa⟩:∃wt,wa=a::wt:=by
    cases wa with
    | nil=>exact w1.elim
    | cons z wt=>exact⟨wt,by have:z=a:=w2;rw[this]⟩
  have wb:qc (uP l a b c e f) (b::wa):=by
    rw[hwa] at wg ⊢;refine⟨?_,wg⟩;show (if b=c then some b else if b=b then some a else l.ahead b)=some a;rw[if_neg hbc,if_pos rfl]
  have wc:qc (uP l a b c e f) (c::b::wa):=⟨if_pos rfl,wb⟩
  have last1:(b::wa).getD ((b::wa).length-1) 0=wa.getD (wa.length-1) 0:=by rw[hwa];simp
  have last2:(c::b::wa).getD ((c::b::wa).length-1) 0=wa.getD (wa.length-1) 0:=by rw[hwa];simp
  refine⟨⟨by rw[List.length_set,List.length_set];exact n1,by rw[List.length_set,List.length_set];exact n2,by rw[List.length_set,List.length_set];exact n3⟩,fun t ht=>?_,fun t o ht ho=>?_,fun t ht h0=>?_⟩
  · show _=if t=c then 1 else if t=b then 2 else l.lab t
    by_cases q1:t=c
    · rw[if_pos q1,q1,WL (by rw[List.length_set];omega)]
    · rw[if_neg q1,vp (Ne.symm q1)]
      by_cases q2:t=b
      · rw[if_pos q2,q2,WL (by omega)]
      · rw[if_neg q2,vp (Ne.symm q2)]
        exact D.lab t ht
  · have ho':(if t=c then some b else if t=b then some a else l.ahead t)=some o:=ho
    show ∃e',(if t=c then some f else if t=b then some e else l.byE t)=some e'∧_
    by_cases q1:t=c
    · rw[if_pos q1] at ho' ⊢
      cases ho'
      rw[q1,WL (by rw[List.length_set];omega)]
      exact⟨f,rfl,hf,y1,y2⟩
    · rw[if_neg q1] at ho' ⊢
      rw[vp (Ne.symm q1)]
      by_cases q2:t=b
      · rw[if_pos q2] at ho' ⊢
        cases ho'
        rw[q2,WL (by omega)]
        exact⟨e,rfl,he,x1,x2⟩
      · rw[if_neg q2] at ho' ⊢
        rw[vp (Ne.symm q2)];exact D.ah t o ht ho'
  · by_cases q1:t=c
    · rw[q1,WL (by rw[List.length_set];omega)]
      exact⟨_,wc,rfl,by rw[last2,w3]⟩
    · rw[vp (Ne.symm q1)]
      by_cases q2:t=b
      · rw[q2,WL (by omega)]
        exact⟨_,wb,rfl,by rw[last1,w3]⟩
      · rw[vp (Ne.symm q2)]
        have h0':l.lab t≠0:=fun q=>h0 (by show (if t=c then 1 else if t=b then 2 else l.lab t)=0;rw[if_neg q1,if_neg q2,q])
        obtain⟨ws,v1,v2,v3⟩:=D.rt t ht h0'
        exact⟨ws,xY lb lc F v1 (by rw[v2];exact h0'),v2,v3⟩
theorem bf {N:Nat}(hb:b<N)(lb:l.lab b=0)(hbc:b≠c)(lc:l.lab c=0):Xr N (uP l a b c e f)<Xr N l:=by
  refine Ch (fun t _ h=>?_) ⟨b,List.mem_range.2 hb,by simpa using lb,?_⟩
  · simp only[uP,decide_eq_true_eq] at h ⊢
    split at h
    · cases h
    · split at h
      · cases h
      · simpa using h
  · simp only[uP,hbc,if_false,if_true,decide_eq_false_iff_not]
    omega
theorem zal (h1:L.length=s.N∧A.length=s.N∧Q.length=s.N)(h2:∀j,j<s.N→L.getD j 0=(qU s).lab j)(h3:∀j,j<s.N→(qU s).lab j≠0→Q.getD j 0=j):Tl es s (qU s) L A Q :=
  ⟨h1,h2,fun t o _ h=>(by cases h),fun t ht h0=>⟨[t],rfl,rfl,h3 t ht h0⟩⟩
end
section
variable {h:za}{lo N i:Nat}{L Q:List Nat}{A:List Lk}
theorem bP {l:List Nat}{i v:Nat}:ZW (l.set i v)=(ZW l).set i (v:Int):=by unfold ZW;rw[List.map_set]
theorem JS {l:List Int}{i:Nat}{v:Int}:(zq l).set i [.int .i64 v]=zq (l.set i v):=by unfold zq;rw[List.map_set]
theorem Tp.stl (P:Tp h lo N L A Q)(hi:i<N)(v:Nat):∃h',stC h (zz (slv lo N) 1 i 0) [.int .i64 (v:Nat)]=some h'∧Qq lo (lo+4) h h'∧Tp h' lo N (L.set i v) A Q:=by
  have hl:i<(zq (ZW L)).length:=by rw[z9,qP,P.ln.1];exact hi
  obtain⟨h',e1,e2,e3⟩:=P.l.st (k:=0) (vs:=[.int .i64 (v:Nat)]) hl (by simp)
  refine⟨h',e1,e2.wide (Nat.le_refl _) (by omega),⟨by rw[e2.blk _ (.inr (by omega))];exact P.blk,?_,P.a.same e2 (.inr (by omega)),P.q.same e2 (.inr (by omega)),by rw[List.length_set];exact P.ln⟩⟩
  have hr:(zq (ZW L))[i]=[.int .i64 ((ZW L).getD i 0)]:=by simp[zq,List.getD_eq_getElem?_getD,show i<(ZW L).length by rw[qP,P.ln.1];exact hi]
  rw[hr] at e3;have hp:putAt [Value.int .i64 ((ZW L).getD i 0)] 0 [.int .i64 (v:Nat)]=[.int .i64 ((v:Nat):Int)]:=rfl;rw[hp,JS,←bP] at e3;exact e3
theorem Tp.stq (P:Tp h lo N L A Q)(hi:i<N)(v:Nat):∃h',stC h (zz (slv (lo+2) N) 1 i 0) [.int .i64 (v:Nat)]=some h'∧Qq lo (lo+4) h h'∧Tp h' lo N L A (Q.set i v):=by
  have hl:i<(zq (ZW Q)).length:=by rw[z9,qP,P.ln.2.2];exact hi
  obtain⟨h',e1,e2,e3⟩:=P.q.st (k:=0) (vs:=[.int .i64 (v:Nat)]) hl (by simp)
  refine⟨h',e1,e2.wide (by omega) (by omega),⟨by rw[e2.blk _ (.inr (by omega))];exact P.blk,P.l.same e2 (.inl (by omega)),P.a.same e2 (.inl (by omega)),?_,by rw[List.length_set];exact P.ln⟩⟩
  have hr:(zq (ZW Q))[i]=[.int .i64 ((ZW Q).getD i 0)]:=by simp[zq,List.getD_eq_getElem?_getD,show i<(ZW Q).length by rw[qP,P.ln.2.2];exact hi]
  rw[hr] at e3;have hp:putAt [Value.int .i64 ((ZW Q).getD i 0)] 0 [.int .i64 (v:Nat)]=[.int .i64 ((v:Nat):Int)]:=rfl;rw[hp,JS,←bP] at e3;exact e3
theorem Tp.sta (P:Tp h lo N L A Q)(hi:i<N)(x:Lk):∃h',stC h (zz (slv (lo+1) N) 2 i 0) (lkR x)=some h'∧Qq lo (lo+4) h h'∧Tp h' lo N L (A.set i x) Q:=by
  have hl:i<(A.map lkR).length:=by rw[List.length_map,P.ln.2.1];exact hi
  obtain⟨h',e1,e2,e3⟩:=P.a.st (k:=0) (vs:=lkR x) hl (by simp[lkR])
  refine⟨h',e1,e2.wide (by omega) (by omega),⟨by rw[e2.blk _ (.inr (by omega))];exact P.blk,P.l.same e2 (.inl (by omega)),?_,P.q.same e2 (.inr (by omega)),by rw[List.length_set];exact P.ln⟩⟩
  have hr:(A.map lkR)[i]=lkR (A.getD i l0):=JX (d:=l0) (by rw[P.ln.2.1];exact hi)
  rw[hr] at e3;have hp:putAt (lkR (A.getD i l0)) 0 (lkR x)=lkR x:=rfl;rw[hp,←List.map_set] at e3;exact e3
end
def BA (es:List E)(s:Sv)(l:Lb)(e:Nat):Prop:=e<es.length∧Ze es s e∧top s (vA es e)≠top s (vB es e)∧l.lab (top s (vA es e))=1∧l.lab (top s (vB es e))=1
section
variable {X:Zb}{g:Ql}{h:za}{b k t:Nat}{es:List E}{s:Sv}{M:List Lk}{dn:Bool}{V:RV}{size:Int}
theorem FG:∀ {n:Nat},zj [Value.int .i64 0] n=(zq (ZW (List.replicate n 0))).flatten
  | 0=>rfl
  | n+1=>by
    have ih:=FG (n:=n);show [Value.int .i64 0]++zj [Value.int .i64 0] n=_;rw[ih,List.replicate_succ];rfl
theorem zbW:∀ {n:Nat},zj [Value.int .i64 0,Value.int .i64 0] n=((List.replicate n l0).map lkR).flatten
  | 0=>rfl
  | n+1=>by
    have ih:=zbW (n:=n);show [Value.int .i64 0,Value.int .i64 0]++zj [Value.int .i64 0,Value.int .i64 0] n=_;rw[ih,List.replicate_succ];rfl
theorem Cy {h:za}{sz N:Nat}{ty:TypeId}{z:List Value}(hN:N≤lim):mkW h sz ty z (.int .i64 (N:Nat))=some (slv h.length N,h++[⟨zj z N,sz,ty,true⟩]):=by
  unfold mkW;simp only
  rw[if_pos ⟨by omega,by omega⟩]
  rfl
def tpH (h:za)(N:Nat):za:=h++[⟨zj [.int .i64 0] N,1,zf,true⟩]++[⟨zj [.int .i64 0,.int .i64 0] N,2,zS,true⟩]++[⟨zj [.int .i64 0] N,1,zf,true⟩]++[⟨[slv h.length N,slv (h.length+1) N,slv (h.length+2) N],3,UB,true⟩]
theorem zfp {N:Nat}:Tp (tpH h N) h.length N (List.replicate N 0) (List.replicate N l0) (List.replicate N 0):=by
  unfold tpH
  refine⟨by simp,⟨fun r hr=>?_,.inr ⟨h.length,Nat.le_refl _,Nat.lt_succ_self _,?_,?_⟩⟩,⟨fun r hr=>?_,.inr ⟨h.length+1,Nat.le_refl _,Nat.lt_succ_self _,?_,?_⟩⟩,⟨fun r hr=>?_,.inr ⟨h.length+2,Nat.le_refl _,Nat.lt_succ_self _,?_,?_⟩⟩,by simp⟩
  · simp[zq] at hr;obtain⟨x,_,rfl⟩:=hr;rfl
  · rw[z9,qP,List.length_replicate];rfl
  · rw[←FG];simp
  · obtain⟨x,_,rfl⟩:=List.mem_map.1 hr;rfl
  · rw[List.length_map,List.length_replicate];rfl
  · rw[←zbW];simp
  · simp[zq] at hr;obtain⟨x,_,rfl⟩:=hr;rfl
  · rw[z9,qP,List.length_replicate];rfl
  · rw[←FG];simp
theorem zfo {N:Nat}:(tpH h N).length=h.length+4:=by unfold tpH;simp
theorem zfq {N:Nat}:h <+: tpH h N:=by unfold tpH;simp[List.append_assoc]
theorem bK {v a:Nat}(K:Ok es s)(w:Wi s v a)(hv:v<s.n):s.gone a=false:=by
  rcases w.last with e | ⟨m,e,_⟩
  · cases hg:s.gone a with
    | false=>rfl
    | true=>have:=(K.gone a hg).1;omega
  · exact (K.up _ _ e).2.1.2.2
set_option maxRecDepth 100000 in
open Classical in
theorem BX (R : Rn g h b es s M k dn V) (K : Ok es s) (hs : Sm s) (m : QF es s M) (gk : GOk size es) (he9 : es.length ≤ 1000) :
    ∃hh l rk L A Q,∃r:Int,C T X QU [p7 b 0] h=some (.tuple ⟨[p3 (h.length+3) 0,.int .i64 r]⟩,hh)∧h <+: hh∧hh.length=h.length+4∧Fo es s l rk∧Tl es s l L A Q∧Tp hh h.length s.N L A Q∧((r=-1∧VF es s l)∨∃e:Nat,r=e∧BA es s l e):=by
  suffices hx:∃w hh,C T X QU [p7 b 0] h=some (w,hh)∧∃l rk L A Q,∃r:Int,w=.tuple ⟨[p3 (h.length+3) 0,.int .i64 r]⟩∧h <+: hh∧hh.length=h.length+4∧Fo es s l rk∧Tl es s l L A Q∧Tp hh h.length s.N L A Q∧((r=-1∧VF es s l)∨∃e:Nat,r=e∧BA es s l e) by
    obtain⟨w,hh,c,l,rk,L,A,Q,r,rfl,q⟩:=hx;exact⟨hh,l,rk,L,A,Q,r,c,q⟩
  refine wU KI rfl ?_;unfold Wp;have hu:=K.upOk;have h9:=hs.N;have nN:=K.nN
  have hM:∀x∈M,x.f<s.N∧x.t<s.N:=fun x hx=>by
    obtain⟨e,h1,_⟩:=m.of x hx;have:=jA K h1;omega
  have hlim:(0:Int)≤((s.N:Nat):Int)∧((s.N:Nat):Int)≤(lim:Int):=⟨by omega,by unfold lim;omega⟩
  have sc:∀c n,cellsOf (slv c n)=some [slv c n]:=fun _ _=>rfl
  obtain⟨h1,hh1⟩:∃h1:za,h1=h++[⟨zj [.int .i64 0] s.N,1,zf,true⟩]:=⟨_,rfl⟩;obtain⟨h2,hh2⟩:∃h2:za,h2=h1++[⟨zj [.int .i64 0,.int .i64 0] s.N,2,zS,true⟩]:=⟨_,rfl⟩;obtain⟨h3,hh3⟩:∃h3:za,h3=h2++[⟨zj [.int .i64 0] s.N,1,zf,true⟩]:=⟨_,rfl⟩
  have ln1:h1.length=h.length+1:=by rw[hh1];simp
  have ln2:h2.length=h.length+2:=by rw[hh2];simp[ln1]
  have ln3:h3.length=h.length+3:=by rw[hh3];simp[ln2]
  have m1:mkW h 1 zf [.int .i64 0] (.int .i64 (s.N:Nat))=some (slv h.length s.N,h1):=by rw[hh1];exact Cy (by unfold lim;omega)
  have m2:mkW h1 2 zS [.int .i64 0,.int .i64 0] (.int .i64 (s.N:Nat))=some (slv (h.length+1) s.N,h2):=by rw[hh2,←ln1];exact Cy (by unfold lim;omega)
  have m3:mkW h2 1 zf [.int .i64 0] (.int .i64 (s.N:Nat))=some (slv (h.length+2) s.N,h3):=by rw[hh3,←ln2];exact Cy (by unfold lim;omega)
  have m4:bxW h3 UB 3 (.agg ⟨[slv h.length s.N,slv (h.length+1) s.N,slv (h.length+2) s.N]⟩)=some (p3 (h.length+3) 0,tpH h s.N):=by
    have e:tpH h s.N=h3++[⟨[slv h.length s.N,slv (h.length+1) s.N,slv (h.length+2) s.N],3,UB,true⟩]:=by rw[hh3,hh2,hh1];rfl
    rw[e,←ln3];rfl
  simp only[R.chk,R.fa,R.ld3,R.nln,Nat.zero_add,hlim,m1,m2,m3,m4,sc,List.cons_append,List.nil_append,List.length_cons,List.length_nil,go_sem]
  refine zT s.N (fun i t loc h'=>t 0=p7 b 0∧t 4=.int .i64 (s.N:Nat)∧t 5=p3 (h.length+3) 0∧t 6=.int .i64 (i:Nat)∧h <+: h'∧h'.length=h.length+4∧∃L Q,Tp h' h.length s.N L (List.replicate s.N l0) Q∧(∀j,j<i→L.getD j 0=(qU s).lab j∧((qU s).lab j≠0→Q.getD j 0=j))∧∀j,i≤j→L.getD j 0=0) ⟨rfl,rfl,rfl,rfl,zfq,zfo,_,_,zfp,fun j hj=>by omega,fun j _=>?_⟩ ?_
  · rw[List.getD_eq_getElem?_getD,List.getElem?_replicate]
    split<;>rfl
  rintro i t loc h' hi ⟨t0,t4,t5,t6,hp,hl,L,Q,P,hj,hj0⟩;simp only[t4,t6,go_sem]
  refine zt (by simp only[go_sem];rfl) ?_ ?_<;>intro hc
  · have hi1:i<s.N:=by omega
    have hw:IntKind.i64.wrap ((i:Int)+1)=((i+1:Nat):Int):=w64 (by omega) (by omega)
    have R':=R.up hp;have c1:=Yi (X:=X) (i:=i) R' hu hM m.le;unfold X5 at c1;have c2:=um (X:=X) R' hi1
    have keep:(qU s).lab i=0→(∀j,j<i+1→L.getD j 0=(qU s).lab j∧((qU s).lab j≠0→Q.getD j 0=j))∧∀j,i+1≤j→L.getD j 0=0:=fun h0=>⟨fun j hj'=>by
      by_cases e:j=i
      · rw[e];exact⟨by rw[hj0 i (Nat.le_refl _),h0],fun q=>absurd h0 q⟩
      · exact hj j (by omega),fun j hj'=>hj0 j (by omega)⟩
    by_cases ht:zc s i
    · rw[xt ht] at c2
      have hiff:=JY K m ht
      cases hm:vr s i M with
      | some x =>
        rw[hm] at c1 hiff;obtain⟨e,he⟩:=hiff.1 rfl
        have h0:(qU s).lab i=0:=by simp[qU,he]
        simp only[Option.getD_some,Option.isSome_some,lkR] at c1;obtain⟨k1,k2⟩:=keep h0;simp only[t0,t4,t5,t6,c1,c2,hw,List.prefix_refl,go_sem];exact⟨hi1,hp,hl,L,Q,P,k1,k2⟩
      | none =>
        rw[hm] at c1;have hmn:=GR K m hm ht
        have h1':(qU s).lab i=1:=by simp[qU,hmn,ht]
        simp only[Option.getD_none,Option.isSome_none,lkR] at c1;obtain⟨h4,e4,s4,P4⟩:=P.stl hi1 1;obtain⟨h5,e5,s5,P5⟩:=P4.stq hi1 i;have one:((1:Nat):Int)=1:=rfl;rw[one] at e4;have hp5:h <+: h5:=s5.pre (s4.pre hp (Nat.le_refl _)) (Nat.le_refl _);simp only[t0,t4,t5,t6,c1,c2,hw,P.chk,P.fa,P.ld0,(P.lel hi1).1,e4,P4.chk,P4.fa,P4.ld2,(P4.qel hi1).1,e5,Nat.zero_add,List.prefix_refl,go_sem]
        refine⟨hi1,hp5,by rw[s5.len,s4.len,hl],_,_,P5,fun j hj'=>?_,fun j hj'=>?_⟩
        · by_cases e:j=i
          · rw[e,WL (by rw[P.ln.1];exact hi1),h1']
            exact⟨rfl,fun _=>WL (by rw[P.ln.2.2];exact hi1)⟩
          · rw[vp (Ne.symm e),vp (Ne.symm e)]
            exact hj j (by omega)
        · rw[vp (by omega)]
          exact hj0 j (by omega)
    · rw[Ku ht] at c2
      have h0:(qU s).lab i=0:=by simp[qU,ht]
      obtain⟨k1,k2⟩:=keep h0;simp only[t0,t4,t5,t6,c1,c2,hw,zcF,List.prefix_refl,go_sem];exact⟨hi1,hp,hl,L,Q,P,k1,k2⟩
  have hiN:i=s.N:=by omega
  subst hiN
  have D0:Tl es s (qU s) L (List.replicate s.N l0) Q:=zal P.ln (fun j hj'=>(hj j hj').1) fun j hj'=>(hj j hj').2
  simp only[t0,t5,go_sem]
  refine WI (Xr s.N (qU s)+1) (fun mo t loc h'=>t 0=p7 b 0∧t 5=p3 (h.length+3) 0∧h <+: h'∧h'.length=h.length+4∧∃l rk L A Q fd,t 9=.bool fd∧Fo es s l rk∧Tl es s l L A Q∧Tp h' h.length s.N L A Q∧((fd=true∧mo=Xr s.N l+1)∨(fd=false∧mo=0∧VF es s l))) ⟨rfl,rfl,hp,hl,_,_,_,_,_,true,rfl,zak,D0,P,.inl ⟨rfl,rfl⟩⟩ ?_
  clear hj hj0 D0 P hp hl t0 t4 t5 t6 hc hi
  clear t loc h' L Q
  rintro mo t loc h' ⟨t0,t5,hp,hl,l,rk,L,A,Q,fd,t9,F,D,P,hfd⟩;rcases hfd with⟨rfl,hmo⟩ | ⟨rfl,hmo,hst⟩
  rotate_left
  · simp only[t0,t5,t9,go_sem]
    rw[Q8 rfl];exact⟨rfl,l,rk,L,A,Q,-1,rfl,hp,hl,F,D,P,.inl ⟨rfl,hst⟩⟩
  simp only[t0,t5,t9,go_sem]
  refine WI (es.length+1) (fun mi t loc h'=>t 0=p7 b 0∧t 5=p3 (h.length+3) 0∧h <+: h'∧h'.length=h.length+4∧∃l' rk' L A Q fd,∃i:Nat,t 9=.bool fd∧t 10=.int .i64 (i:Nat)∧i≤es.length∧Fo es s l' rk'∧Tl es s l' L A Q∧Tp h' h.length s.N L A Q∧((fd=false∧mi+i=es.length+1∧Xr s.N l'=Xr s.N l∧∀e,e<i→Dn es s l' e)∨(fd=true∧mi=0∧Xr s.N l'<Xr s.N l))) ⟨rfl,rfl,hp,hl,l,rk,L,A,Q,false,0,rfl,rfl,Nat.zero_le _,F,D,P,.inl ⟨rfl,rfl,rfl,fun e he=>by omega⟩⟩ ?_
  clear F D P hp hl t0 t5 t9
  clear t loc h' L A Q
  rintro mi t loc h' ⟨t0,t5,hp,hl,l',rk',L,A,Q,fd,i,t9,t10,hie,F,D,P,hfd⟩;have R':=R.up hp;rcases hfd with⟨rfl,hmi,hcn,hps⟩ | ⟨rfl,hmi,hcn⟩
  rotate_left
  · -- found: on with the next look
    by_cases ci:(i:Int)<(es.length:Int)
    · simp only[t0,t5,t9,t10,R'.chk,R'.fa,R'.ld1,R'.eln,ci,Nat.zero_add,go_sem]
      exact⟨Xr s.N l'+1,by omega,hp,hl,l',rk',L,A,Q,true,rfl,F,D,P,.inl ⟨rfl,rfl⟩⟩
    · simp only[t0,t5,t9,t10,R'.chk,R'.fa,R'.ld1,R'.eln,ci,Nat.zero_add,go_sem]
      exact⟨Xr s.N l'+1,by omega,hp,hl,l',rk',L,A,Q,true,rfl,F,D,P,.inl ⟨rfl,rfl⟩⟩
  by_cases ci:(i:Int)<(es.length:Int)
  rotate_left
  · simp only[t0,t5,t9,t10,R'.chk,R'.fa,R'.ld1,R'.eln,ci,Nat.zero_add,go_sem]
    exact⟨0,by omega,hp,hl,l',rk',L,A,Q,false,rfl,F,D,P,.inr ⟨rfl,rfl,cB K fun e he=>hps e (by omega)⟩⟩
  have hi1:i<es.length:=by omega
  have hw:IntKind.i64.wrap ((i:Int)+1)=((i+1:Nat):Int):=w64 (by omega) (by omega)
  obtain⟨hE,hEB⟩:=K.ed i hi1;obtain⟨ga,gb,_⟩:=wG gk hi1;have el:=R'.ev.el (f:=ZT) e0 hi1;have csl:=GL (X:=X) R' K hs gk hi1
  have cta:=ZL (X:=X) R' hu (v:=vA es i) (by omega)
  have ctb:=ZL (X:=X) R' hu (v:=vB es i) (by omega)
  obtain⟨q,hq⟩:∃q,q=es.getD i e0:=⟨_,rfl⟩;rw[←hq] at el csl ga gb;unfold QN at csl
  have er:ZT q=[.int .i64 (vA es i:Nat),.int .i64 (vB es i:Nat),.int .i64 q.w1,.int .i64 q.w2,.int .i64 q.w3]:=by unfold ZT;rw[ga,gb]
  rw[er] at el csl;obtain⟨a,hA⟩:∃a,a=top s (vA es i):=⟨_,rfl⟩;obtain⟨c,hC⟩:∃c,c=top s (vB es i):=⟨_,rfl⟩;rw[←hA] at cta;rw[←hC] at ctb
  have aN:a<s.N:=by rw[hA];exact Uc hu (by omega)
  have cN:c<s.N:=by rw[hC];exact Uc hu (by omega)
  have wa:Wi s (vA es i) a:=by rw[hA];exact ZO hu
  have wc:Wi s (vB es i) c:=by rw[hC];exact ZO hu
  have la:=D.lab a aN;have lc:=D.lab c cN;obtain⟨x1,x2⟩:=P.lel aN;obtain⟨y1,y2⟩:=P.lel cN;rw[la] at x2;rw[lc] at y2;have two1:=F.two a;have two2:=F.two c
  have go:Dn es s l' i→∀e,e<i+1→Dn es s l' e:=fun hpi e he=>by
    by_cases h:e=i
    · rw[h];exact hpi
    · exact hps e (by omega)
  by_cases k1:(a:Int)=(c:Int)
  · simp only[t0,t5,t9,t10,R'.chk,R'.fa,R'.ld1,R'.eln,ci,el.1,el.2.1,el.2.2,cta,ctb,k1,hw,Nat.zero_add,zj,zi,List.prefix_refl,go_sem]
    exact⟨mi-1,by omega,hp,hl,l',rk',L,A,Q,false,i+1,rfl,rfl,by omega,F,D,P,.inl ⟨rfl,by omega,hcn,go fun _ h=>absurd (by rw[←hA,←hC];omega) h⟩⟩
  by_cases k2:slk es s i=0
  rotate_left
  · simp only[t0,t5,t9,t10,R'.chk,R'.fa,R'.ld1,R'.eln,ci,el.1,el.2.1,el.2.2,cta,ctb,csl,k1,k2,hw,Nat.zero_add,zj,zi,List.prefix_refl,go_sem]
    exact⟨mi-1,by omega,hp,hl,l',rk',L,A,Q,false,i+1,rfl,rfl,by omega,F,D,P,.inl ⟨rfl,by omega,hcn,go fun h=>absurd h k2⟩⟩
  have hne:a≠c:=by omega
  have passed:(l'.lab a≠1∧l'.lab c≠1)∨l'.lab a=2∨l'.lab c=2→Dn es s l' i:=fun hq _ _ hc=>by
    rw[←hA,←hC] at hc;omega
  have la3:l'.lab a=0∨l'.lab a=1∨l'.lab a=2:=by omega
  have lc3:l'.lab c=0∨l'.lab c=1∨l'.lab c=2:=by omega
  have n0:((0:Nat):Int)=0:=rfl;have n1:((1:Nat):Int)=1:=rfl;have n2:((2:Nat):Int)=2:=rfl;rcases la3 with la' | la' | la'
  · rw[la',n0] at x2
    rcases lc3 with lc' | lc' | lc'
    · rw[lc',n0] at y2
      simp only[t0,t5,t9,t10,R'.chk,R'.fa,R'.ld1,R'.eln,ci,el.1,el.2.1,el.2.2,cta,ctb,csl,k1,k2,P.chk,P.fa,P.ld0,x1,x2,y1,y2,hw,Nat.zero_add,zj,zi,List.prefix_refl,go_sem]
      exact⟨mi-1,by omega,hp,hl,l',rk',L,A,Q,false,i+1,rfl,rfl,by omega,F,D,P,.inl ⟨rfl,by omega,hcn,go (passed (by omega))⟩⟩
    · rw[lc',n1] at y2
      have aT:zc s c:=F.top c (by omega)
      have cT:zc s a:=by
        refine⟨aN,?_,?_⟩
        · rw[hA];exact yX hu
        · exact bK K wa (by omega) 
      obtain⟨f,d,b1,b2,b3,b4,b5,b6⟩:=F.bare K cT (by omega)
      have cm:=Yi (X:=X) (i:=a) R' hu hM m.le;have hsome:=(JY K m cT).2 ⟨f,b1⟩;obtain⟨y,hy⟩:=Option.isSome_iff_exists.1 hsome;obtain⟨_,f',z1,z2,z3,z4,z5,z6⟩:=UP K m hy;rw[b1] at z2;cases z2;have zd:top s y.t=d:=(K.mate2 cT b3 z4 b1 b2 z5 b4).resolve_left z6;rw[hy] at cm;unfold X5 at cm;simp only[Option.getD_some,Option.isSome_some,lkR] at cm
      have ytN:y.t<s.N:=by have:=jA K z1;omega
      have cty:=ZL (X:=X) R' hu (v:=y.t) ytN;rw[zd] at cty;have dN:d<s.N:=b3.1
      have ac:c≠a:=by omega
      have cd:a≠d:=fun q=>b4 q.symm
      have ad:c≠d:=fun q=>by rw[←q] at b6;omega
      have hx:IsE es i ⟨vB es i,vA es i⟩:=⟨hi1,.inr ⟨rfl,rfl⟩⟩
      have F':=F.grow K (show Ze es s i from k2) (a:=c) (b:=a) (c:=d) (e:=i) (f:=f) (show Jn es s i c a from⟨hi1,.inr ⟨wc,wa⟩⟩) aT cT ac (by omega) (by omega) b1 b2 b3 b4 b5 b6
      have D':=Cr (x:=⟨vB es i,vA es i⟩) (y:=y) D F aT cT b3 (by omega) (by omega) b6 cd hx z1 (Zo hu wc aT.2.1) (Zo hu wa cT.2.1) z3 zd
      have hcn':=bf (a:=c) (e:=i) (f:=f) (N:=s.N) cT.1 (show l'.lab a=0 by omega) cd b6
      have t2:((2:Nat):Int)=2:=rfl;have t1:((1:Nat):Int)=1:=rfl;obtain⟨h1,e1,s1,P1⟩:=P.stl cT.1 2;rw[t2] at e1;obtain⟨h2,e2,s2,P2⟩:=P1.sta cT.1 ⟨vB es i,vA es i⟩;unfold lkR at e2;obtain⟨h3,e3,s3,P3⟩:=P2.stq cT.1 (Q.getD c 0);obtain⟨h4,e4,s4,P4⟩:=P3.stl dN 1;rw[t1] at e4;obtain⟨h5,e5,s5,P5⟩:=P4.sta dN y;unfold lkR at e5;obtain⟨h6,e6,s6,P6⟩:=P5.stq dN (Q.getD c 0);have q2:=(P2.qel aT.1).2;have q5:=(P5.qel aT.1).2;rw[vp (Ne.symm ac)] at q5;have hp6:h <+: h6:=s6.pre (s5.pre (s4.pre (s3.pre (s2.pre (s1.pre hp (Nat.le_refl _)) (Nat.le_refl _)) (Nat.le_refl _)) (Nat.le_refl _)) (Nat.le_refl _)) (Nat.le_refl _)
      simp only[cm,cty,e1,e2,e3,e4,e5,e6,P1.chk,P1.fa,P1.ld1,P2.chk,P2.fa,P2.ld2,P3.chk,P3.fa,P3.ld0,P4.chk,P4.fa,P4.ld1,P5.chk,P5.fa,P5.ld2,(P1.ael cT.1).1,(P2.qel cT.1).1,(P2.qel aT.1).1,q2,(P3.lel dN).1,(P4.ael dN).1,(P5.qel dN).1,(P5.qel aT.1).1,q5,t0,t5,t9,t10,R'.chk,R'.fa,R'.ld1,R'.eln,ci,el.1,el.2.1,el.2.2,cta,ctb,csl,k1,k2,P.chk,P.fa,P.ld0,x1,x2,y1,y2,hw,Nat.zero_add,zj,zi,List.prefix_refl,go_sem]
      exact⟨0,by omega,hp6,by rw[s6.len,s5.len,s4.len,s3.len,s2.len,s1.len,hl],_,_,_,_,_,true,i+1,rfl,rfl,by omega,F',D',P6,.inr ⟨rfl,rfl,by omega⟩⟩
    · rw[lc',n2] at y2
      simp only[t0,t5,t9,t10,R'.chk,R'.fa,R'.ld1,R'.eln,ci,el.1,el.2.1,el.2.2,cta,ctb,csl,k1,k2,P.chk,P.fa,P.ld0,x1,x2,y1,y2,hw,Nat.zero_add,zj,zi,List.prefix_refl,go_sem]
      exact⟨mi-1,by omega,hp,hl,l',rk',L,A,Q,false,i+1,rfl,rfl,by omega,F,D,P,.inl ⟨rfl,by omega,hcn,go (passed (by omega))⟩⟩
  · rw[la',n1] at x2
    rcases lc3 with lc' | lc' | lc'
    · rw[lc',n0] at y2
      have aT:zc s a:=F.top a (by omega)
      have cT:zc s c:=by
        refine⟨cN,?_,?_⟩
        · rw[hC];exact yX hu
        · exact bK K wc (by omega) 
      obtain⟨f,d,b1,b2,b3,b4,b5,b6⟩:=F.bare K cT (by omega)
      have cm:=Yi (X:=X) (i:=c) R' hu hM m.le;have hsome:=(JY K m cT).2 ⟨f,b1⟩;obtain⟨y,hy⟩:=Option.isSome_iff_exists.1 hsome;obtain⟨_,f',z1,z2,z3,z4,z5,z6⟩:=UP K m hy;rw[b1] at z2;cases z2;have zd:top s y.t=d:=(K.mate2 cT b3 z4 b1 b2 z5 b4).resolve_left z6;rw[hy] at cm;unfold X5 at cm;simp only[Option.getD_some,Option.isSome_some,lkR] at cm
      have ytN:y.t<s.N:=by have:=jA K z1;omega
      have cty:=ZL (X:=X) R' hu (v:=y.t) ytN;rw[zd] at cty;have dN:d<s.N:=b3.1
      have ac:a≠c:=by omega
      have cd:c≠d:=fun q=>b4 q.symm
      have ad:a≠d:=fun q=>by rw[←q] at b6;omega
      have hx:IsE es i ⟨vA es i,vB es i⟩:=⟨hi1,.inl ⟨rfl,rfl⟩⟩
      have F':=F.grow K (show Ze es s i from k2) (a:=a) (b:=c) (c:=d) (e:=i) (f:=f) (show Jn es s i a c from⟨hi1,.inl ⟨wa,wc⟩⟩) aT cT ac (by omega) (by omega) b1 b2 b3 b4 b5 b6
      have D':=Cr (x:=⟨vA es i,vB es i⟩) (y:=y) D F aT cT b3 (by omega) (by omega) b6 cd hx z1 (Zo hu wa aT.2.1) (Zo hu wc cT.2.1) z3 zd
      have hcn':=bf (a:=a) (e:=i) (f:=f) (N:=s.N) cT.1 (show l'.lab c=0 by omega) cd b6
      have t2:((2:Nat):Int)=2:=rfl;have t1:((1:Nat):Int)=1:=rfl;obtain⟨h1,e1,s1,P1⟩:=P.stl cT.1 2;rw[t2] at e1;obtain⟨h2,e2,s2,P2⟩:=P1.sta cT.1 ⟨vA es i,vB es i⟩;unfold lkR at e2;obtain⟨h3,e3,s3,P3⟩:=P2.stq cT.1 (Q.getD a 0);obtain⟨h4,e4,s4,P4⟩:=P3.stl dN 1;rw[t1] at e4;obtain⟨h5,e5,s5,P5⟩:=P4.sta dN y;unfold lkR at e5;obtain⟨h6,e6,s6,P6⟩:=P5.stq dN (Q.getD a 0);have q2:=(P2.qel aT.1).2;have q5:=(P5.qel aT.1).2;rw[vp (Ne.symm ac)] at q5;have hp6:h <+: h6:=s6.pre (s5.pre (s4.pre (s3.pre (s2.pre (s1.pre hp (Nat.le_refl _)) (Nat.le_refl _)) (Nat.le_refl _)) (Nat.le_refl _)) (Nat.le_refl _)) (Nat.le_refl _)
      simp only[cm,cty,e1,e2,e3,e4,e5,e6,P1.chk,P1.fa,P1.ld1,P2.chk,P2.fa,P2.ld2,P3.chk,P3.fa,P3.ld0,P4.chk,P4.fa,P4.ld1,P5.chk,P5.fa,P5.ld2,(P1.ael cT.1).1,(P2.qel cT.1).1,(P2.qel aT.1).1,q2,(P3.lel dN).1,(P4.ael dN).1,(P5.qel dN).1,(P5.qel aT.1).1,q5,t0,t5,t9,t10,R'.chk,R'.fa,R'.ld1,R'.eln,ci,el.1,el.2.1,el.2.2,cta,ctb,csl,k1,k2,P.chk,P.fa,P.ld0,x1,x2,y1,y2,hw,Nat.zero_add,zj,zi,List.prefix_refl,go_sem]
      exact⟨0,by omega,hp6,by rw[s6.len,s5.len,s4.len,s3.len,s2.len,s1.len,hl],_,_,_,_,_,true,i+1,rfl,rfl,by omega,F',D',P6,.inr ⟨rfl,rfl,by omega⟩⟩
    · rw[lc',n1] at y2
      simp only[t0,t5,t9,t10,R'.chk,R'.fa,R'.ld1,R'.eln,ci,el.1,el.2.1,el.2.2,cta,ctb,csl,k1,k2,P.chk,P.fa,P.ld0,x1,x2,y1,y2,hw,Nat.zero_add,zj,zi,List.prefix_refl,go_sem];rw[Q8 rfl]
      exact⟨rfl,l',rk',L,A,Q,_,rfl,hp,hl,F,D,P,.inr ⟨i,rfl,hi1,k2,by rw[←hA,←hC];exact hne,by rw[←hA];exact la',by rw[←hC];exact lc'⟩⟩
    · rw[lc',n2] at y2
      simp only[t0,t5,t9,t10,R'.chk,R'.fa,R'.ld1,R'.eln,ci,el.1,el.2.1,el.2.2,cta,ctb,csl,k1,k2,P.chk,P.fa,P.ld0,x1,x2,y1,y2,hw,Nat.zero_add,zj,zi,List.prefix_refl,go_sem]
      exact⟨mi-1,by omega,hp,hl,l',rk',L,A,Q,false,i+1,rfl,rfl,by omega,F,D,P,.inl ⟨rfl,by omega,hcn,go (passed (by omega))⟩⟩
  · rw[la',n2] at x2
    rcases lc3 with lc' | lc' | lc'
    · rw[lc',n0] at y2
      simp only[t0,t5,t9,t10,R'.chk,R'.fa,R'.ld1,R'.eln,ci,el.1,el.2.1,el.2.2,cta,ctb,csl,k1,k2,P.chk,P.fa,P.ld0,x1,x2,y1,y2,hw,Nat.zero_add,zj,zi,List.prefix_refl,go_sem]
      exact⟨mi-1,by omega,hp,hl,l',rk',L,A,Q,false,i+1,rfl,rfl,by omega,F,D,P,.inl ⟨rfl,by omega,hcn,go (passed (by omega))⟩⟩
    · rw[lc',n1] at y2
      simp only[t0,t5,t9,t10,R'.chk,R'.fa,R'.ld1,R'.eln,ci,el.1,el.2.1,el.2.2,cta,ctb,csl,k1,k2,P.chk,P.fa,P.ld0,x1,x2,y1,y2,hw,Nat.zero_add,zj,zi,List.prefix_refl,go_sem]
      exact⟨mi-1,by omega,hp,hl,l',rk',L,A,Q,false,i+1,rfl,rfl,by omega,F,D,P,.inl ⟨rfl,by omega,hcn,go (passed (by omega))⟩⟩
    · rw[lc',n2] at y2
      simp only[t0,t5,t9,t10,R'.chk,R'.fa,R'.ld1,R'.eln,ci,el.1,el.2.1,el.2.2,cta,ctb,csl,k1,k2,P.chk,P.fa,P.ld0,x1,x2,y1,y2,hw,Nat.zero_add,zj,zi,List.prefix_refl,go_sem]
      exact⟨mi-1,by omega,hp,hl,l',rk',L,A,Q,false,i+1,rfl,rfl,by omega,F,D,P,.inl ⟨rfl,by omega,hcn,go (passed (by omega))⟩⟩
end
section
variable {g g':Ql}{h h':za}{b i k t:Nat}{T:Tg→Prop}{es:List E}{s s':Sv}{M:List Lk}{dn:Bool}{V:RV}{v:Value}
theorem Tn.take (f:Tn b T g h g' h')(ok:vi b g h)(hb:b<h.length):h'.take (b-1)=h.take (b-1):=by
  apply List.ext_getElem?
  intro c;rw[List.getElem?_take,List.getElem?_take]
  by_cases hc:c<b-1
  · rw[if_pos hc,if_pos hc,f.blk c (by omega) (by omega) fun τ q=>by have:=(ok c τ q).1;omega]
  · rw[if_neg hc,if_neg hc]
theorem Tn.set (ok:vi b g h){x:Blk}:Tn b T g h g (h.set b x) :=
  ⟨Nat.le_of_eq (List.length_set ..).symm,fun c _ hc _=>List.getElem?_set_ne (Ne.symm hc),fun _ _ _ q=>q,fun _ _ _ q=>q,fun c τ q=>by rw[List.length_set];exact ok c τ q⟩
theorem Rn.tn (R:Rn g h b es s M k dn V)(f:Tn b T g h g' h')(hb:h'[b]?=h[b]?)(hT:∀ τ,T τ→τ=.tb∨τ=.lb∨τ=.ah∨τ=.rt):Rn g' h' b es s M k dn V:=by
  have n1:∀ {τ},¬(τ=Tg.tb∨τ=.lb∨τ=.ah∨τ=.rt)→¬T τ:=fun h q=>h (hT _ q)
  exact⟨f.ok,by rw[hb];exact R.blk,by rw[f.take R.ok R.bl];exact R.e,R.y.tn R.ok f (n1 (by simp)),R.nd.tn R.ok f (n1 (by simp)),R.m.tn R.ok f (n1 (by simp)),fun i hi=>(R.rg i hi).tn R.ok f (n1 (by simp)),fun i hi=>by
    obtain⟨L,h1,h2⟩:=R.lk i hi
    exact⟨L,h1.tn R.ok f (n1 (by simp)),h2⟩⟩
theorem Rn.congr' (R:Rn g h b es s M k dn V)(h1:s'.n=s.n)(h2:s'.N=s.N)(h3:∀v,v<s.n→s'.y v=s.y v)(h4:∀i,i<s.N→s'.z i=s.z i∧s'.up i=s.up i∧s'.gone i=s.gone i∧s'.mem i=s.mem i∧s'.lnk i=s.lnk i):Rn g h b es s' M k dn V:=by
  have e1:vP s'=vP s:=by
    unfold vP;rw[h1]
    exact List.map_congr_left fun v hv=>h3 v (List.mem_range.1 hv)
  have e2:vU s' V=vU s V:=by
    unfold vU;rw[h2]
    refine List.map_congr_left fun v hv=>?_
    obtain⟨q2,q3,q4,_⟩:=h4 v (List.mem_range.1 hv);unfold uu;rw[q2,q3,q4]
  have e3:QE s' V k dn=QE s V k dn:=by unfold QE;rw[h1]
  refine⟨R.ok,by rw[e3];exact R.blk,R.e,by rw[e1];exact R.y,by rw[e2];exact R.nd,R.m,fun i hi=>?_,fun i hi=>?_⟩
  · rw[h2] at hi
    rw[(h4 i hi).2.2.2.1];exact R.rg i hi
  · rw[h2] at hi
    obtain⟨L,q1,q2⟩:=R.lk i hi;refine⟨L,q1,?_⟩;unfold gi;rw[(h4 i hi).2.2.2.2];exact q2
theorem Rn.congr (R:Rn g h b es s M k dn V)(h1:s'.n=s.n)(h2:s'.N=s.N)(h3:∀v,v<s.n→s'.y v=s.y v)(h4:∀i,i<s.N→s'.base i=s.base i∧s'.z i=s.z i∧s'.up i=s.up i∧s'.gone i=s.gone i∧s'.mem i=s.mem i∧s'.lnk i=s.lnk i):Rn g h b es s' M k dn V:=R.congr' h1 h2 h3 fun i hi=>(h4 i hi).2
theorem Rn.stN (R : Rn g h b es s M k dn V) (hi : i < s.N) {o : Nat} {w : Value} (ho : o < 6) (hn : s'.n = s.n) (hN : s'.N = s.N) (hy : s'.y = s.y) (hm : s'.mem = s.mem) (hl : s'.lnk = s.lnk) (hs : ∀ j, j < s.N → j ≠ i → uu s' V j = uu s V j) (hr : ndR (uu s' V i) = (ndR (uu s V i)).set o w) :
    ∃h',stC h (zz V.nv 6 i o) [w]=some h'∧Tn b (·=.n) g h g h'∧h'.length=h.length∧h'[b]?=h[b]?∧Rn g h' b es s' M k dn V:=by
  have hl1:i<((vU s V).map ndR).length:=by rw[List.length_map,uU];exact hi
  obtain⟨h',e1,e2,e3,e4,e5⟩:=R.nd.st R.ok hl1 (k:=o) (vs:=[w]) (by simp;omega)
  have hrow:((vU s V).map ndR)[i]=ndR (uu s V i):=by
    rw[JX (d:=nd0) (by rw[uU];exact hi),Fl hi]
  rw[hrow] at e5
  have hput:putAt (ndR (uu s V i)) o [w]=(ndR (uu s V i)).set o w:=by
    have hlen:(ndR (uu s V i)).length=6:=rfl;unfold putAt
    rw[List.length_singleton,List.set_eq_take_append_cons_drop,if_pos (by omega),List.append_assoc]
    rfl
  have hset:((vU s V).map ndR).set i (putAt (ndR (uu s V i)) o [w])=(vU s' V).map ndR:=by
    rw[hput,←hr,←List.map_set]
    congr 1
    apply List.ext_getElem?
    intro j;rw[List.getElem?_set];unfold vU;rw[hN]
    by_cases hj:i=j
    · subst hj
      simp[hi]
    · rw[if_neg hj]
      by_cases hjN:j<s.N
      · simp[hjN,(hs j hjN (Ne.symm hj)).symm]
      · simp[hjN]
  rw[hset] at e5
  have ys:vP s'=vP s:=by unfold vP;rw[hn,hy]
  have rb:QE s' V k dn=QE s V k dn:=by unfold QE;rw[hn]
  have nn:∀ {τ:Tg},τ≠.n→¬(τ=Tg.n):=fun h=>h
  refine⟨h',e1,e2,e3,e4,⟨e2.ok,by rw[e4,rb];exact R.blk,by rw[e2.take R.ok R.bl];exact R.e,by rw[ys];exact R.y.tn R.ok e2 (by simp),e5,R.m.tn R.ok e2 (by simp),fun j hj=>?_,fun j hj=>?_⟩⟩
  · rw[hm]
    exact (R.rg j (by rw[←hN];exact hj)).tn R.ok e2 (by simp)
  · obtain⟨L,q1,q2⟩:=R.lk j (by rw[←hN];exact hj)
    refine⟨L,q1.tn R.ok e2 (by simp),?_⟩
    unfold gi;rw[hl];exact q2
def zbu (s:Sv)(i:Nat)(o:Option Nat):Sv:={ s with up:=fun v=>if v=i then o else s.up v }
theorem Rn.stUp (R:Rn g h b es s M k dn V)(hi:i<s.N)(o:Option Nat):∃h',stC h (zz V.nv 6 i 4) [.int .i64 (upI o)]=some h'∧Tn b (·=.n) g h g h'∧h'.length=h.length∧h'[b]?=h[b]?∧Rn g h' b es (zbu s i o) M k dn V :=
  R.stN hi (by omega) rfl rfl rfl rfl rfl (fun j _ hj=>by unfold uu zbu;simp only;rw[if_neg hj]) (by unfold uu zbu ndR;simp)
def Ft (s:Sv)(i:Nat):Sv:={ s with gone:=fun v=>if v=i then true else s.gone v }
theorem Rn.stGone (R:Rn g h b es s M k dn V)(hi:i<s.N):∃h',stC h (zz V.nv 6 i 5) [.bool true]=some h'∧Tn b (·=.n) g h g h'∧h'.length=h.length∧h'[b]?=h[b]?∧Rn g h' b es (Ft s i) M k dn V :=
  R.stN hi (by omega) rfl rfl rfl rfl rfl (fun j _ hj=>by unfold uu Ft;simp only;rw[if_neg hj]) (by unfold uu Ft ndR;simp)
def zdc (s:Sv)(i:Nat)(z:Int):Sv:={ s with z:=fun v=>if v=i then z else s.z v }
theorem Rn.stZ (R:Rn g h b es s M k dn V)(hi:i<s.N)(z:Int):∃h',stC h (zz V.nv 6 i 3) [.int .i64 z]=some h'∧Tn b (·=.n) g h g h'∧h'.length=h.length∧h'[b]?=h[b]?∧Rn g h' b es (zdc s i z) M k dn V :=
  R.stN hi (by omega) rfl rfl rfl rfl rfl (fun j _ hj=>by unfold uu zdc;simp only;rw[if_neg hj]) (by unfold uu zdc ndR;simp)
def zbv (s:Sv)(i:Nat)(y:Int):Sv:={ s with y:=fun v=>if v=i then y else s.y v }
theorem Rn.stY (R:Rn g h b es s M k dn V)(hi:i<s.n)(y:Int):∃h',stC h (zz V.yv 1 i 0) [.int .i64 y]=some h'∧Tn b (·=.y) g h g h'∧h'.length=h.length∧h'[b]?=h[b]?∧Rn g h' b es (zbv s i y) M k dn V:=by
  have hlen:(vP s).length=s.n:=by unfold vP;simp
  obtain⟨h',e1,e2,e3,e4,e5⟩:=R.y.st R.ok (i:=i) (by rw[z9,hlen];exact hi) (k:=0) (vs:=[.int .i64 y]) (by simp)
  have hrow:∀hh,(zq (vP s))[i]'hh=[.int .i64 (s.y i)]:=fun hh=>by simp[zq,vP]
  rw[hrow] at e5;have hp:putAt [Value.int .i64 (s.y i)] 0 [.int .i64 y]=[.int .i64 y]:=rfl
  have hset:(vP s).set i y=vP (zbv s i y):=by
    apply List.ext_getElem?
    intro j;rw[List.getElem?_set];unfold vP zbv
    by_cases hj:i=j
    · subst hj;simp[hi]
    · rw[if_neg hj]
      by_cases hjN:j<s.n
      · simp[hjN,Ne.symm hj]
      · simp[hjN]
  rw[hp,JS,hset] at e5
  refine⟨h',e1,e2,e3,e4,⟨e2.ok,by rw[e4];exact R.blk,by rw[e2.take R.ok R.bl];exact R.e,e5,R.nd.tn R.ok e2 (by simp),R.m.tn R.ok e2 (by simp),fun j hj=>(R.rg j hj).tn R.ok e2 (by simp),fun j hj=>?_⟩⟩
  obtain⟨L,q1,q2⟩:=R.lk j hj
  exact⟨L,q1.tn R.ok e2 (by simp),q2⟩
theorem Rn.st5 (R:Rn g h b es s M k dn V)(k':Nat):∃h',stC h (p7 b 5) [.int .i64 (k':Nat)]=some h'∧Tn b T g h g h'∧h'.length=h.length∧Rn g h' b es s M k' dn V:=by
  refine⟨h.set b (QE s V k' dn),by simp[stC,p7,R.blk,QE,putAt],Tn.set R.ok,List.length_set ..,?_⟩
  have f:Tn b (fun _=>False) g h g (h.set b (QE s V k' dn)):=Tn.set R.ok
  exact⟨f.ok,List.getElem?_set_self R.bl,by rw[f.take R.ok R.bl];exact R.e,R.y.tn R.ok f id,R.nd.tn R.ok f id,R.m.tn R.ok f id,fun i hi=>(R.rg i hi).tn R.ok f id,fun i hi=>by
    obtain⟨L,h1,h2⟩:=R.lk i hi
    exact⟨L,h1.tn R.ok f id,h2⟩⟩
theorem Rn.st6 (R:Rn g h b es s M k dn V)(dn':Bool):∃h',stC h (p7 b 6) [.bool dn']=some h'∧Tn b T g h g h'∧h'.length=h.length∧Rn g h' b es s M k dn' V:=by
  refine⟨h.set b (QE s V k dn'),by simp[stC,p7,R.blk,QE,putAt],Tn.set R.ok,List.length_set ..,?_⟩
  have f:Tn b (fun _=>False) g h g (h.set b (QE s V k dn')):=Tn.set R.ok
  exact⟨f.ok,List.getElem?_set_self R.bl,by rw[f.take R.ok R.bl];exact R.e,R.y.tn R.ok f id,R.nd.tn R.ok f id,R.m.tn R.ok f id,fun i hi=>(R.rg i hi).tn R.ok f id,fun i hi=>by
    obtain⟨L,h1,h2⟩:=R.lk i hi
    exact⟨L,h1.tn R.ok f id,h2⟩⟩
theorem xe (hb:h[b]?=some (QE s V k dn)):jw h (p7 b 0)=some (p7 b 0):=by simp[jw,ldC,p7,hb,QE]
theorem bZ (hb:h[b]?=some (QE s V k dn)):∀i j,faV h (p7 b i) j=some (p7 b (i+j)):=fun i j=>by simp[faV,p7,hb,QE]
theorem Rn.newM {M' : List Lk} (R : Rn g h b es s M k dn V) (f : Tn b (· = .m) g h g' h') (hb : h'[b]? = h[b]?) (hv : Has g' h' .m 2 zS v (M'.map lkR)) :
    ∃h2,stC h' (p7 b 4) [v]=some h2∧Tn b (·=.m) g h g' h2∧h2.length=h'.length∧Rn g' h2 b es s M' k dn { V with mv:=v }:=by
  have hb':h'[b]?=some (QE s V k dn):=by rw[hb];exact R.blk
  have f2:Tn b (fun _=>False) g' h' g' (h'.set b (QE s { V with mv:=v } k dn)):=Tn.set f.ok
  have hbl:=zG hb'
  have f3:Tn b (·=.m) g h g' (h'.set b (QE s { V with mv:=v } k dn)):=f.trans (f2.mono fun _ q=>q.elim)
  refine⟨_,by simp[stC,p7,hb',QE,putAt],f3,List.length_set ..,⟨f3.ok,List.getElem?_set_self hbl,by rw[f3.take R.ok R.bl];exact R.e,R.y.tn R.ok f3 (by simp),R.nd.tn R.ok f3 (by simp),hv.tn f.ok f2 id,fun i hi=>(R.rg i hi).tn R.ok f3 (by simp),fun i hi=>?_⟩⟩
  obtain⟨L,h1,h2⟩:=R.lk i hi
  exact⟨L,h1.tn R.ok f3 (by simp),h2⟩
theorem Rn.pushM (R:Rn g h b es s M k dn V)(x:Lk)(hl:M.length<lim):∃v' h1 h2 g',qS h 2 zS 1 V.mv (some (lkR x))=some (v',h1)∧h1[b]?=some (QE s V k dn)∧stC h1 (p7 b 4) [v']=some h2∧Tn b (·=.m) g h g' h2∧Rn g' h2 b es s (M++[x]) k dn { V with mv:=v' }∧∀n,Dj V.mv n→Dj v' n:=by
  obtain⟨v',h1,g',e1,e2,e3,e4,e5⟩:=R.m.push R.ok R.bl (cs:=lkR x) rfl (by rw[List.length_map];exact hl)
  have e4':Has g' h1 .m 2 zS v' ((M++[x]).map lkR):=by rw[List.map_append];exact e4
  obtain⟨h2,q1,q2,q3,q4⟩:=R.newM e2 e3 e4'
  exact⟨v',h1,h2,g',e1,by rw[e3];exact R.blk,q1,q2,q4,e5⟩
def Far (V:RV)(n:Nat):Prop:=Dj V.mv n
theorem Rn.mv_lt (R:Rn g h b es s M k dn V):¬Far V h.length:=by
  rintro⟨c,m,h1,h2⟩;rcases R.m.is with⟨q,_⟩ | ⟨c',q1,q2,_⟩
  · rw[h2] at q;cases q
  · have:=(R.ok c' _ q1).2
    rw[h2] at q2
    injection q2 with q2
    injection q2 with q2
    injection q2 with q2
    omega
theorem Rn.diff {M':List Lk}{k':Nat}{dn':Bool}{V':RV}(R:Rn g h b es s M k dn V)(R':Rn g' h' b es s' M' k' dn' V')(hf:Far V' h.length):h'[b]?≠h[b]?:=fun q=>by
  rw[R.blk,R'.blk] at q;have e:=Option.some.inj q;unfold QE at e
  injection e with e
  simp only[List.cons.injEq] at e;have e4:V'.mv=V.mv:=e.2.2.2.2.1;unfold Far at hf;rw[e4] at hf;exact R.mv_lt hf
theorem Uj {c:Nat}{h h':za}{v:Value}(hc:c<h.length)(hne:h'[c]?≠h[c]?):zp h (v,h')=(v,h'):=by
  unfold zp;rw[if_neg];rintro⟨_,hp⟩;exact hne (ZE hp hc)
end
end Go.Proofs.Ytafhipglhnfgnaa.Ab
