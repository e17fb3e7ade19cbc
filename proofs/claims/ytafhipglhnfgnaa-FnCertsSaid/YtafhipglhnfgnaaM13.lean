/- Joined. No conditions. -/
import Derived.Test.YtafhipglhnfgnaaM12
import Derived.Test.YtafhipglhnfgnaaM11
set_option linter.unusedSimpArgs false
set_option linter.unusedVariables false
set_option linter.unnecessarySimpa false
set_option maxHeartbeats 4000000
namespace Go.Proofs.Ytafhipglhnfgnaa.Ab
open Go.RowKit
theorem XU {f:Nat→List Nat}:∀ {L:List Nat},L.Nodup→(∀p∈L,(f p).Nodup∧3≤(f p).length)→(∀p∈L,∀q∈L,p≠q→∀x∈f p,¬x∈f q)→(L.flatMap f).Nodup∧3*L.length≤(L.flatMap f).length
  | [],_,_,_=>⟨List.nodup_nil,Nat.zero_le _⟩
  | p::L,hn,h1,h2=>by
    obtain⟨n1,n2⟩:=List.nodup_cons.1 hn
    obtain⟨i1,i2⟩:=XU (L:=L) n2 (fun q hq=>h1 q (List.mem_cons_of_mem _ hq)) fun q hq r hr=>h2 q (List.mem_cons_of_mem _ hq) r (List.mem_cons_of_mem _ hr)
    obtain⟨j1,j2⟩:=h1 p List.mem_cons_self;rw[List.flatMap_cons]
    refine⟨List.nodup_append.2 ⟨j1,i1,fun a ha b hb e=>?_⟩,?_⟩
    · subst e
      obtain⟨q,hq,hx⟩:=List.mem_flatMap.1 hb
      exact h2 p List.mem_cons_self q (List.mem_cons_of_mem _ hq) (fun e=>n1 (by rw[e];exact hq)) a ha hx
    · rw[List.length_append,List.length_cons]
      omega
open Classical in
noncomputable def Zh (s:Sv):List Nat:=(List.range s.N).filter fun p=>decide (zg s p)
open Classical in
noncomputable def wX (s:Sv):List Nat:=(List.range s.N).filter fun t=>decide (zc s t∧s.mate t=none)
section
variable {es:List E}{s s':Sv}{l:Lb}{rk:Nat→Nat}{p t B a j e:Nat}{ms ls xs ys:List Nat}{d:Int}
theorem zY:p∈Zh s↔zg s p:=by
  unfold Zh;simp only[List.mem_filter,List.mem_range,decide_eq_true_eq]
  exact⟨fun h=>h.2,fun h=>⟨h.2.1,h⟩⟩
theorem Z7:t∈wX s↔zc s t∧s.mate t=none:=by
  unfold wX;simp only[List.mem_filter,List.mem_range,decide_eq_true_eq]
  exact⟨fun h=>h.2,fun h=>⟨h.1.1,h⟩⟩
theorem uc:(Zh s).Nodup:=List.Pairwise.filter _ List.nodup_range
theorem jG:(wX s).Nodup:=List.Pairwise.filter _ List.nodup_range
theorem xg (K:Ok es s):2*(Zh s).length≤s.n-1:=by
  by_cases h0:(Zh s).length=0
  · omega
  have hn:=K.nN
  obtain ⟨f1, f2⟩ := XU (f := s.mem) (L := Zh s) uc (fun p hp => by
      obtain⟨r1,_,r3,_⟩:=K.ring p (zY.1 hp)
      exact⟨r3,r1⟩) (fun p hp q hq hpq x hx hx2=>by
      have u1:=(K.ring p (zY.1 hp)).2.2.2 x hx;have u2:=(K.ring q (zY.1 hq)).2.2.2 x hx2;rw[u1] at u2;cases u2
      exact hpq rfl)
  obtain⟨p0,hp0⟩:∃p0,p0∈Zh s:=by
    cases h:Zh s with
    | nil=>rw[h] at h0;exact absurd rfl h0
    | cons p L=>exact⟨p,List.mem_cons_self⟩
  have hr0:=zY.1 hp0;have tt:=K.topTop hr0.2.1 hr0.2.2
  have live:∀x,x<s.N→s.gone x=false→x∈List.range s.n++Zh s:=fun x hx hg=>by
    rcases Nat.lt_or_ge x s.n with q | q
    · exact List.mem_append_left _ (List.mem_range.2 q)
    · exact List.mem_append_right _ (zY.2 ⟨q,hx,hg⟩)
  have key := Yk (a := (Zh s).flatMap s.mem) (b := List.range s.n ++ Zh s) f1 (fun x hx => by
      obtain⟨q,hq,hx2⟩:=List.mem_flatMap.1 hx;have hq':=zY.1 hq;have hu:=(K.ring q hq').2.2.2 x hx2;obtain⟨u1,u2,u3,_⟩:=K.up x q hu
      exact live x (by have:=u2.2.1;omega) u3) (y:=top s p0) (live _ tt.1 tt.2.2) (fun hx=>by
      obtain⟨q,hq,hx2⟩:=List.mem_flatMap.1 hx;have hu:=(K.ring q (zY.1 hq)).2.2.2 _ hx2;rw[tt.2.1] at hu
      cases hu)
  rw[List.length_append,List.length_range] at key;omega
theorem zf4 (K:Ok es s):mu s l≤s.n+(Zh s).length:=by
  unfold mu
  have:=qw (a:=cA s l) (b:=Zh s) Fr fun p hp=>zY.2 (jS.1 hp).2.1
  omega
theorem C7 (K:Ok es s)(R:QJ es s ms ls j):(Zh s).length+1≤(Zh (zU s ms ls j)).length∧(wX (zU s ms ls j)).length≤(wX s).length:=by
  have hN:=K.nN;obtain⟨m1,m2⟩:=Ur R;refine⟨?_,?_⟩
  · exact Yk uc (fun p hp=>zY.2 (Wb.2 (.inr (zY.1 hp)))) (y:=s.N) (zY.2 (Wb.2 (.inl ⟨rfl,hN⟩))) fun q=>by have:=(zY.1 q).2.1;omega
  · -- the ring for its joint
    have h1:((wX (zU s ms ls j)).map fun t=>if t=s.N then j else t).Nodup:=by
      refine List.pairwise_map.2 (List.Pairwise.imp_of_mem (fun {x y} hx hy hxy e=>?_) (jG (s:=zU s ms ls j)))
      have tx:=(Z3 K R).1 (Z7.1 hx).1;have ty:=(Z3 K R).1 (Z7.1 hy).1
      by_cases q1:x=s.N
      · by_cases q2:y=s.N
        · exact hxy (q1.trans q2.symm)
        · rw[if_pos q1,if_neg q2] at e
          rcases ty with g | g
          · exact q2 g
          · exact g.2 (e▸R.jm)
      · by_cases q2:y=s.N
        · rw[if_neg q1,if_pos q2] at e
          rcases tx with g | g
          · exact q1 g
          · exact g.2 (by rw[e];exact R.jm)
        · rw[if_neg q1,if_neg q2] at e
          exact hxy e
    have:=qw (b:=wX s) h1 fun x hx=>by
      obtain⟨t,ht,e⟩:=List.mem_map.1 hx;obtain⟨t1,t2⟩:=Z7.1 ht;subst e
      by_cases q:t=s.N
      · rw[if_pos q]
        rw[q,m1] at t2;exact Z7.2 ⟨R.top _ R.jm,t2⟩
      · rw[if_neg q]
        rcases (Z3 K R).1 t1 with g | g
        · exact absurd g q
        · rw[m2 t q g.2] at t2
          exact Z7.2 ⟨g.1,t2⟩
    rw[List.length_map] at this;exact this
theorem Y6 (K:Ok es s)(hB:zg s B)(ht:s.up B=none)(ha:a<(s.mem B).length):(Zh s).length≤(Zh (zr s B a)).length+1∧(wX (zr s B a)).length≤(wX s).length∧(Zh (zr s B a)).length<(Zh s).length:=by
  have K0:=K.ok0;refine⟨?_,?_,?_⟩
  · have:=qw (a:=Zh s) (b:=B::Zh (zr s B a)) uc fun p hp=>by
      by_cases q:p=B
      · rw[q];exact List.mem_cons_self
      · exact List.mem_cons_of_mem _ (zY.2 (ZQ.2 ⟨zY.1 hp,q⟩))
    rw[List.length_cons] at this;exact this
  · have hBm:¬B∈s.mem B:=fun q=>by have:=(K0.memUp hB q).2.1;omega
    have one:∀t,t∈s.mem B→(zr s B a).mate t=none→t=(s.mem B).getD a 0∧s.mate B=none:=fun t hm h=>by
      obtain⟨g1,g2⟩:=Yg hm;have:=Qd (a:=a) K0 hB g1;rw[g2,h] at this;unfold opM at this;split at this
      · next d0 =>
        have hqa:(s.mem B).idxOf t=a:=by unfold dst at d0;split at d0<;>omega
        exact⟨by rw[←hqa,g2],this.symm⟩
      · split at this<;>cases this
    have h1:((wX (zr s B a)).map fun t=>if t∈s.mem B then B else t).Nodup:=by
      refine List.pairwise_map.2 (List.Pairwise.imp_of_mem (fun {x y} hx hy hxy e=>?_) (jG (s:=zr s B a)))
      obtain⟨x1,x2⟩:=Z7.1 hx;obtain⟨y1,y2⟩:=Z7.1 hy
      by_cases q1:x∈s.mem B
      · by_cases q2:y∈s.mem B
        · exact hxy ((one x q1 x2).1.trans (one y q2 y2).1.symm)
        · rw[if_pos q1,if_neg q2] at e
          rcases (Zy K0 hB).1 y1 with g | g
          · exact g.2 e.symm
          · exact q2 g
      · by_cases q2:y∈s.mem B
        · rw[if_neg q1,if_pos q2] at e
          rcases (Zy K0 hB).1 x1 with g | g
          · exact g.2 e
          · exact q1 g
        · rw[if_neg q1,if_neg q2] at e
          exact hxy e
    have:=qw (b:=wX s) h1 fun x hx=>by
      obtain⟨t,htt,e⟩:=List.mem_map.1 hx;obtain⟨t1,t2⟩:=Z7.1 htt;subst e
      by_cases q:t∈s.mem B
      · rw[if_pos q]
        exact Z7.2 ⟨⟨hB.2.1,ht,hB.2.2⟩,(one t q t2).2⟩
      · rw[if_neg q]
        rcases (Zy K0 hB).1 t1 with g | g
        · have:(zr s B a).mate t=s.mate t:=by simp only[zr];rw[if_neg q]
          rw[this] at t2;exact Z7.2 ⟨g.1,t2⟩
        · exact absurd g q
    rw[List.length_map] at this;exact this
  · exact Yk uc (fun p hp=>zY.2 (ZQ.1 (zY.1 hp)).1) (y:=B) (zY.2 hB) fun q=>(ZQ.1 (zY.1 q)).2 rfl
theorem db (A:Aug es s l rk e xs ys)(K:Ok es s):(wX (Z6 s (qL s l e xs ys))).length<(wX s).length:=by
  obtain⟨r,h1,h2,h3⟩:=DA A K
  refine Yk jG (fun t ht=>?_) (y:=r) (Z7.2 ⟨h1,h2⟩) fun q=>?_
  · obtain⟨t1,t2⟩:=Z7.1 ht
    exact Z7.2 ⟨t1,(jr A K t2).1⟩
  · have:=(Z7.1 q).2
    have this':qL s l e xs ys r=none:=this;rw[this'] at h3;cases h3
end
inductive Uf (es:List E):Sv→Sv→Prop
  | refl (s:Sv):Uf es s s
  | step {s s':Sv} {B a:Nat} (hB:zg s B) (ht:s.up B=none) (hz:s.z B=0) (ha:a<(s.mem B).length) (hh:YQ es s B ((s.mem B).getD a 0)) (h:Uf es (zr s B a) s'):Uf es s s'
inductive uH (es:List E):Sv→Sv→Prop
  | fold {s:Sv} {l:Lb} {rk:Nat→Nat} {e i k:Nat} {xs ys:List Nat} (M:uY es s l rk e xs ys i k):uH es s (zU s (ZN xs ys i k) (qz l e xs ys i k) (xs.getD i 0))
  | aug {s s':Sv} {l:Lb} {rk:Nat→Nat} {e:Nat} {xs ys:List Nat} (A:Aug es s l rk e xs ys) (O:Uf es (Z6 s (qL s l e xs ys)) s'):uH es s s'
  | change {s:Sv} {l:Lb} {rk:Nat→Nat} {d:Int} (F:Fo es s l rk) (S:VF es s l) (D:jp es s l d) (hf:∃t,zc s t∧s.mate t=none) (hy:¬ ∃v,v<s.n∧l.lab (top s v)=1∧s.y v=d) (hz:∀p,zc s p→s.n≤p→l.lab p=2→(zx s l d).z p≠0):uH es s (zx s l d)
  | open_ {s:Sv} {l:Lb} {rk:Nat→Nat} {d:Int} {B a:Nat} (F:Fo es s l rk) (S:VF es s l) (D:jp es s l d) (hf:∃t,zc s t∧s.mate t=none) (hB:zc s B) (hn:s.n≤B) (hl:l.lab B=2) (hz:(zx s l d).z B=0) (ha:a<(s.mem B).length) (hh:YQ es (zx s l d) B ((s.mem B).getD a 0)):uH es s (zr (zx s l d) B a)
structure Inv (es:List E)(s:Sv)(Y:Int)(b:Nat):Prop where
  K:Ok es s
  L:Lo s Y
  n9:s.n≤9
  bnd:∀s' l' rk',Ue es s s'→Fo es s' l' rk'→VF es s' l'→mu s' l'<b
noncomputable def pot (s:Sv)(b:Nat):Nat:=33*(wX s).length+2*b+(4-(Zh s).length)
section
variable {es:List E}{s s':Sv}{Y:Int}{b:Nat}
theorem G6 (h:Uf es s s'):Ok es s→Lo s Y→Ok es s'∧Lo s' Y∧s'.n=s.n∧(wX s').length≤(wX s).length:=by
  induction h with
  | refl s=>exact fun K L=>⟨K,L,rfl,Nat.le_refl _⟩
  | step hB ht hz ha hh _ ih =>
    intro K L;have K1:=Ym K hB ht hz ha hh;obtain⟨i1,i2,i3,i4⟩:=ih K1 (Fp K L hB ht ha hh);exact⟨i1,i2,i3,Nat.le_trans i4 (Y6 K hB ht ha).2.1⟩
theorem zer (K:Ok es s)(h9:s.n≤9){l:Lb}:mu s l<14:=by
  have h1:=zf4 (l:=l) K;have h2:=xg K;omega
theorem fU {s s':Sv}(h:Ue es s s')(K:Ok es s):s'.n=s.n:=(wW h K).2.n
theorem Du {ms ls:List Nat}{j:Nat}(K:Ok es s)(R:QJ es s ms ls j)(L:Lo s Y):Lo (zU s ms ls j) Y:=by
  obtain⟨m1,m2⟩:=Ur R
  refine⟨fun t ht hm=>?_,L.low,L.y0⟩
  show s.y ((zU s ms ls j).base t)=Y;rcases (Z3 K R).1 ht with q | ⟨q,hn⟩
  · subst q
    have e:(zU s ms ls j).base s.N=s.base j:=by simp[zU]
    rw[e];rw[m1] at hm;exact L.free j (R.top _ R.jm) hm
  · have hne:t≠s.N:=by have:=q.1;omega
    have e:(zU s ms ls j).base t=s.base t:=by simp[zU,hne]
    rw[e];rw[m2 t hne hn] at hm;exact L.free t q hm
theorem xh (I:Inv es s Y b)(h:uH es s s'):∃Y' b',Inv es s' Y' b'∧s'.n=s.n∧pot s' b'<pot s b:=by
  cases h with
  | fold M =>
    rename_i l rk e i k xs ys
    have R:=M.ring I.K;have K1:=yu I.K R;obtain⟨c1,c2⟩:=C7 I.K R;have r1:=xg K1;have n1:(zU s (ZN xs ys i k) (qz l e xs ys i k) (xs.getD i 0)).n=s.n:=rfl;have h9:=I.n9
    refine⟨Y,b,⟨K1,Du I.K R I.L,h9,fun s2 l2 rk2 H F S=>I.bnd s2 l2 rk2 (.step M H) F S⟩,rfl,?_⟩
    unfold pot;rw[n1] at r1;omega
  | aug A O =>
    rename_i l rk e xs ys
    have K1:=gA A I.K;obtain⟨i1,i2,i3,i4⟩:=G6 O K1 (BG A I.K I.L);have c:=db A I.K;have e3:s'.n=s.n:=i3
    have h9:s'.n≤9:=by have:=I.n9;omega
    refine⟨Y,14,⟨i1,i2,h9,fun s2 l2 rk2 H F S=>zer (wW H i1).1 (by rw[fU H i1];exact h9)⟩,e3,?_⟩
    unfold pot;omega
  | change F S D hf hy hz =>
    rename_i l rk d
    have hmu:=I.bnd s l rk (.refl s) F S
    refine⟨_,mu s l,⟨Vb I.K F D.step,Va I.K F I.L D hf,I.n9,fun s2 l2 rk2 H F2 S2=>?_⟩,rfl,?_⟩
    · rcases D.by_ with q | ⟨e,h1,h2,h3⟩ | ⟨p,h1,h2,h3,h4⟩
      · exact absurd q hy
      · exact cC I.K F D.step H F2 S2 h1 h2 h3
      · exfalso
        refine hz p h1 h2 h3 ?_;have:(zx s l d).z p=s.z p+2*(sg (l.lab p)*d):=if_pos ⟨h1,h2⟩;rw[this,h3,sg2,h4];omega
    · have e1:wX (zx s l d)=wX s:=rfl
      have e2:Zh (zx s l d)=Zh s:=rfl;unfold pot;rw[e1,e2];omega
  | open_ F S D hf hB hn hl hz ha hh =>
    rename_i l rk d B a
    have hmu:=I.bnd s l rk (.refl s) F S;have Kc:=Vb I.K F D.step;have hBr:zg (zx s l d) B:=⟨hn,hB.1,hB.2.2⟩;have hut:(zx s l d).up B=none:=hB.2.1;have K1:=Ym (a:=a) Kc hBr hut hz ha hh
    refine⟨_,mu s l,⟨K1,Fp Kc (Va I.K F I.L D hf) hBr hut ha hh,I.n9,fun s2 l2 rk2 H F2 S2=>(cD I.K F D.step hB hn hl hz ha hh H F2 S2).2⟩,rfl,?_⟩
    obtain⟨c1,c2,c3⟩:=Y6 (a:=a) Kc hBr hut ha;have e1:wX (zx s l d)=wX s:=rfl;have e2:Zh (zx s l d)=Zh s:=rfl;rw[e2] at c1 c3;rw[e1] at c2;unfold pot;omega
inductive UE (es:List E):Nat→Sv→Sv→Prop
  | zero (s:Sv):UE es 0 s s
  | succ {k:Nat} {s s1 s':Sv} (h:uH es s s1) (t:UE es k s1 s'):UE es (k+1) s s'
theorem zc7 {k:Nat}(h:UE es k s s'):∀ {Y b},Inv es s Y b→k≤pot s b∧∃Y' b',Inv es s' Y' b'∧s'.n=s.n:=by
  induction h with
  | zero s=>exact fun I=>⟨Nat.zero_le _,_,_,I,rfl⟩
  | succ h _ ih =>
    intro Y b I;obtain⟨Y1,b1,I1,h1,h2⟩:=xh I h;obtain⟨h3,Y2,b2,I2,h4⟩:=ih I1
    exact⟨by omega,Y2,b2,I2,h4.trans h1⟩
end
def wR (n:Nat)(y:Int):Sv where
  n:=n
  N:=n
  y:=fun _=>y
  up:=fun _=>none
  mem:=fun _=>[]
  lnk:=fun _=>[]
  mate:=fun _=>none
  base:=fun v=>v
  z:=fun _=>0
  gone:=fun _=>false
section
variable {es:List E}{n:Nat}{y:Int}
theorem Vh {p:Nat}:¬zg (wR n y) p:=fun h=>by
  have h1:n≤p:=h.1;have h2:p<n:=h.2.1;omega
theorem Db {e:Nat}:slk es (wR n y) e=2*y-2*vW es e:=by
  unfold slk
  have:qJ (wR n y) (vA es e) (vB es e) (wR n y).N=0:=fo fun p hp hn _=>by
    have h1:n≤p:=hn;have h2:p<n:=hp;omega
  rw[this];show y+y-2*vW es e+0=_;omega
theorem fi (h9:n≤9)(hed:∀e,e<es.length→vA es e<n∧vB es e<n∧vA es e≠vB es e)(hy:∀e,e<es.length→vW es e≤y)(y0:0≤y):Inv es (wR n y) y 14:=by
  have K:Ok es (wR n y):=by
    refine⟨Nat.le_refl n,hed,fun v p h=>(by cases h),fun p h=>absurd h Vh,fun p h=>absurd h Vh,fun p h=>(by cases h),fun t e _ h=>(by cases h),fun t h _=>⟨h,.refl _⟩,fun p h=>absurd h Vh,fun e he=>?_,fun p h=>absurd h Vh,fun p u v h=>absurd h Vh⟩
    rw[Db];have:=hy e he;omega
  exact⟨K,⟨fun t _ _=>rfl,fun v _=>Int.le_refl _,y0⟩,h9,fun s' l' rk' H F S=>zer (wW H K).1 (by rw[fU H K];exact h9)⟩
theorem Da (h9:n≤9):pot (wR n y) 14≤329:=by
  unfold pot
  have h1:(wX (wR n y)).length≤n:=by
    have h2:=qw (b:=List.range n) (jG (s:=wR n y)) fun t ht=>List.mem_range.2 (Z7.1 ht).1.1
    rw[List.length_range] at h2;exact h2
  omega
theorem dV (h9:n≤9)(hed:∀e,e<es.length→vA es e<n∧vB es e<n∧vA es e≠vB es e)(hy:∀e,e<es.length→vW es e≤y)(y0:0≤y){k:Nat}{s:Sv}(h:UE es k (wR n y) s):k≤329 :=
  Nat.le_trans (zc7 h (fi h9 hed hy y0)).1 (Da h9)
end
inductive Vv (es:List E):Sv→Sv→Prop
  | done (s:Sv) (h:∀p,¬zg s p):Vv es s s
  | step {s s':Sv} {B a:Nat} (hB:zg s B) (ht:s.up B=none) (ha:a<(s.mem B).length) (hh:YQ es s B ((s.mem B).getD a 0)) (h:Vv es (zr s B a) s'):Vv es s s'
def Cl (es:List E)(s:Sv)(m:Nat→Option Nat):Prop:=∀p,p<s.N→s.gone p=false→∃x,x<s.n∧Wi s x p∧(zc s p→m x=s.mate p∧∀e,s.mate p=some e→vA es e=x∨vB es e=x) ∧
  (∀e,m x=some e→¬(Wi s (vA es e) p∧Wi s (vB es e) p))∧∀v,v<s.n→Wi s v p→v≠x→∃e,m v=some e∧e<es.length∧(vA es e=v∨vB es e=v)∧Wi s (vA es e) p∧Wi s (vB es e) p
section
variable {es:List E}{T:Nat→Prop}{s s':Sv}{B a p t v x:Nat}
theorem Ok0.vertex (K:Ok0 es T s)(hp:p<s.n)(h:Wi s x p):x=p:=by
  rcases h.last with e | ⟨m,e,_⟩
  · exact e
  · have:=(K.up _ _ e).2.1.1;omega
theorem cj {s s':Sv}(h:Vv es s s'):Ok0 es T s→Ok0 es T s'∧s'.n=s.n∧(∀p,¬zg s' p)∧Cl es s s'.mate:=by
  induction h with
  | done s h =>
    intro K
    refine⟨K,rfl,h,fun p hp hg=>?_⟩
    have hpn:p<s.n:=by
      rcases Nat.lt_or_ge p s.n with q | q
      · exact q
      · exact absurd ⟨q,hp,hg⟩ (h p)
    refine⟨p,hpn,.refl _,fun ht=>⟨rfl,fun e he=>?_⟩,fun e he q=>?_,fun v _ hw hne=>absurd (K.vertex hpn hw) hne⟩
    · obtain⟨_,o,_,_,_,h5⟩:=K.mate p e ht he
      rcases h5.2 with⟨q,_⟩ | ⟨q,_⟩
      · exact .inl (K.vertex hpn q)
      · exact .inr (K.vertex hpn q)
    · have ht:zc s p:=⟨hp,by
        cases hu:s.up p with
        | none=>rfl
        | some r=>exact absurd (K.up p r hu).2.1 (h r),hg⟩
      obtain⟨_,o,_,_,_,h5⟩:=K.mate p e ht he;have:=(K.ed e h5.1).2.2;exact this ((K.vertex hpn q.1).trans (K.vertex hpn q.2).symm)
  | step hB ht ha hh h ih =>
    intro K
    rename_i s s' B a
    have K1:=Uv K hB ht ha hh;obtain⟨i1,i2,i3,i4⟩:=ih K1
    refine⟨i1,i2,i3,fun p hp hg=>?_⟩
    have hn:=K.nN;have hBn:=hB.1
    have up1:∀ {v q},q≠B→(Wi (zr s B a) v q↔Wi s v q):=fun {v q} hq=>by
      rw[Q7 K hB ht]
      exact⟨fun k=>k.1,fun k=>⟨k,fun e=>absurd e hq⟩⟩
    by_cases q:p=B
    · subst q
      obtain⟨r1,r2,r3,r4⟩:=K.ring p hB;obtain⟨k1,k2⟩:=K.lnk p hB
      have memNe:∀q,q<(s.mem p).length→(s.mem p).getD q 0≠p:=fun q hq e=>by
        have:=(K.memUp hB (zw hq)).2.1;rw[e] at this;omega
      have memW:∀q,q<(s.mem p).length→Wi s ((s.mem p).getD q 0) p:=fun q hq=>.one (K.memUp hB (zw hq)).1
      have cl:∀q,q<(s.mem p).length→∃x,x<s.n∧Wi s x ((s.mem p).getD q 0)∧(s'.mate x=opM s p a q∧∀e,opM s p a q=some e→vA es e=x∨vB es e=x)∧∀v,v<s.n→Wi s v ((s.mem p).getD q 0)→v≠x→∃e,s'.mate v=some e∧e<es.length∧(vA es e=v∨vB es e=v)∧Wi s (vA es e) ((s.mem p).getD q 0)∧Wi s (vB es e) ((s.mem p).getD q 0):=fun q hq=>by
        have hm:=zw hq;obtain⟨m1,m2,m3,m4⟩:=K.memUp hB hm
        have hg1:(zr s p a).gone ((s.mem p).getD q 0)=false:=by simp only[zr];rw[if_neg (memNe q hq)];exact m4
        obtain⟨x,x1,x2,x3,_,x5⟩:=i4 _ m3 hg1;have x3':=x3 ((Zy K hB).2 (.inr hm));rw[Qd K hB hq] at x3'
        refine⟨x,x1,(up1 (memNe q hq)).1 x2,x3',fun v hv hw hne=>?_⟩
        obtain⟨e,e1,e2,e3,e4,e5⟩:=x5 v hv ((up1 (memNe q hq)).2 hw) hne;exact⟨e,e1,e2,e3,(up1 (memNe q hq)).1 e4,(up1 (memNe q hq)).1 e5⟩
      obtain⟨x,x1,x2,⟨x3,x4⟩,x5⟩:=cl a ha
      have hopa:opM s p a a=s.mate p:=by unfold opM dst;rw[if_pos (Nat.le_refl _),Nat.sub_self,if_pos rfl]
      rw[hopa] at x3 x4;have hBT:zc s p:=⟨hp,ht,hg⟩
      refine⟨x,x1,x2.trans (memW a ha),fun _=>⟨x3,x4⟩,fun e he qq=>?_,fun v hv hw hne=>?_⟩
      · rw[x3] at he
        obtain⟨_,o,h2,h3,_,h5⟩:=K.mate p e hBT he;rcases h5.2 with⟨_,g⟩ | ⟨_,g⟩
        · have e1:=Zo K.upOk qq.2 ht
          have e2:=Zo K.upOk g h2.2.1;exact h3 (e2.symm.trans e1)
        · have e1:=Zo K.upOk qq.1 ht
          have e2:=Zo K.upOk g h2.2.1;exact h3 (e2.symm.trans e1)
      · have:∃q,q<(s.mem p).length∧Wi s v ((s.mem p).getD q 0):=by
          rcases hw.last with e1 | ⟨m,h1,h2⟩
          · omega
          · obtain⟨q,h3,h4⟩:=Zv (d:=0) (K.up m p h1).2.2.2
            exact⟨q,h3,by rw[h4];exact h2⟩
        obtain⟨q,hq,hwq⟩:=this;obtain⟨z,z1,z2,⟨z3,z4⟩,z5⟩:=cl q hq
        by_cases vz:v=z
        · subst vz
          have hqa:q≠a:=fun e=>by
            subst e
            by_cases hvx:v=x
            · exact hne hvx
            · obtain⟨e,e1,e2,e3,e4,e5⟩:=x5 v hv hwq hvx
              rw[z3,hopa] at e1;obtain⟨_,o,h2,h3,_,h5⟩:=K.mate p e hBT e1;rcases h5.2 with⟨_,g⟩ | ⟨_,g⟩
              · exact h3 ((Zo K.upOk g h2.2.1).symm.trans (Zo K.upOk (e5.trans (memW q hq)) ht))
              · exact h3 ((Zo K.upOk g h2.2.1).symm.trans (Zo K.upOk (e4.trans (memW q hq)) ht))
          have d0:dst (s.mem p).length a q≠0:=fun d=>hqa (by unfold dst at d;split at d<;>omega)
          have lk:∀j,j<(s.mem p).length→(s.lnk p).getD j 0<es.length∧Wi s (vA es ((s.lnk p).getD j 0)) p∧Wi s (vB es ((s.lnk p).getD j 0)) p:=fun j hj=>by
            obtain⟨l1,_⟩:=k2 j hj;have w1:=memW j hj
            have w2:=memW ((j+1)%(s.mem p).length) (Nat.mod_lt _ (by omega))
            rcases l1.2 with⟨g1,g2⟩ | ⟨g1,g2⟩
            · exact⟨l1.1,g1.trans w1,g2.trans w2⟩
            · exact⟨l1.1,g2.trans w2,g1.trans w1⟩
          have hpv:pv (s.mem p).length q<(s.mem p).length:=by unfold pv;split<;>omega
          unfold opM at z3 z4;rw[if_neg d0] at z3 z4
          by_cases d1:dst (s.mem p).length a q%2=1
          · rw[if_pos d1] at z3 z4
            obtain⟨g1,g2,g3⟩:=lk q hq;exact⟨_,z3,g1,z4 _ rfl,g2,g3⟩
          · rw[if_neg d1] at z3 z4
            obtain⟨g1,g2,g3⟩:=lk _ hpv;exact⟨_,z3,g1,z4 _ rfl,g2,g3⟩
        · obtain⟨e,e1,e2,e3,e4,e5⟩:=z5 v hv hwq vz
          exact⟨e,e1,e2,e3,e4.trans (memW q hq),e5.trans (memW q hq)⟩
    · have hg1:(zr s B a).gone p=false:=by simp only[zr];rw[if_neg q];exact hg
      obtain⟨x,x1,x2,x3,x4,x5⟩:=i4 p hp hg1
      refine⟨x,x1,(up1 q).1 x2,fun hT=>?_,fun e he k=>x4 e he ⟨(up1 q).2 k.1,(up1 q).2 k.2⟩,fun v hv hw hne=>?_⟩
      · have hT1:zc (zr s B a) p:=(Zy K hB).2 (.inl ⟨hT,q⟩)
        have:=x3 hT1
        have nm:¬p∈s.mem B:=fun k=>by have:=(K.memUp hB k).1;rw[hT.2.1] at this;cases this
        have hm:(zr s B a).mate p=s.mate p:=by simp only[zr];rw[if_neg nm]
        rw[hm] at this;exact this
      · obtain⟨e,e1,e2,e3,e4,e5⟩:=x5 v hv ((up1 q).2 hw) hne
        exact⟨e,e1,e2,e3,(up1 q).1 e4,(up1 q).1 e5⟩
end
def SI (f:Nat→Int):Nat→Int
  | 0=>0
  | k+1=>SI f k+f k
theorem Z4 {f g:Nat→Int}:∀ {k},(∀i,i<k→f i=g i)→SI f k=SI g k
  | 0,_=>rfl
  | k+1,h=>by
    unfold SI
    rw[Z4 fun i hi=>h i (by omega),h k (by omega)]
theorem gp {f g:Nat→Int}:∀ {k},SI (fun i=>f i+g i) k=SI f k+SI g k
  | 0=>rfl
  | k+1=>by
    unfold SI;rw[gp];omega
theorem uI:∀ {k},SI (fun _=>0) k=0
  | 0=>rfl
  | k+1=>by
    unfold SI;rw[uI];rfl
theorem fC {f:Nat→Int}{c:Int}:∀ {k},SI (fun i=>c*f i) k=c*SI f k
  | 0=>by simp[SI]
  | k+1=>by
    unfold SI;rw[fC,Int.mul_add]
theorem KT {f:Nat→Nat→Int}:∀ {k n},SI (fun i=>SI (f i) n) k=SI (fun j=>SI (fun i=>f i j) k) n
  | 0,n=>by
    have:(fun j=>SI (fun i=>f i j) 0)=fun _:Nat=>(0:Int):=rfl
    rw[this,uI];rfl
  | k+1,n=>by
    have:(fun j=>SI (fun i=>f i j) (k+1))=fun j=>SI (fun i=>f i j) k+f k j:=rfl
    rw[this,gp]
    show SI (fun i=>SI (f i) n) k+SI (f k) n=_
    rw[KT]
theorem YR {f:Nat→Int}{a:Nat}:∀ {k},a<k→(∀i,i<k→i≠a→f i=0)→SI f k=f a
  | 0,h,_=>by omega
  | k+1,h,hf=>by
    unfold SI
    by_cases e:a=k
    · subst e
      have:SI f a=0:=by rw[Z4 (g:=fun _=>0) fun i hi=>hf i (by omega) (by omega),uI]
      omega
    · rw[YR (show a<k by omega) fun i hi=>hf i (by omega),hf k (by omega) (by omega)]
      omega
theorem zdQ {f:Nat→Int}{a b k:Nat}(ha:a<k)(hb:b<k)(hab:a≠b)(hf:∀i,i<k→i≠a→i≠b→f i=0):SI f k=f a+f b:=by
  have h1:SI f k=SI (fun i=>if i=a then f a else 0) k+SI (fun i=>if i=a then 0 else f i) k:=by
    rw[←gp]
    refine Z4 fun i _=>?_
    by_cases e:i=a
    · subst e;simp
    · simp[e]
  rw[h1,YR (a:=a) ha fun i _ hi=>if_neg hi,YR (a:=b) hb fun i hi hne=>?_]
  · simp[Ne.symm hab]
  · by_cases e:i=a
    · simp[e]
    · simp only[if_neg e];exact hf i hi e hne
structure Pm (es:List E)(n:Nat)(m:Nat→Option Nat):Prop where
  ed:∀e,e<es.length→vA es e<n∧vB es e<n∧vA es e≠vB es e
  of:∀v e,v<n→m v=some e→e<es.length∧m (vA es e)=some e∧m (vB es e)=some e∧(vA es e=v∨vB es e=v)
section
variable {es:List E}{s s':Sv}{n:Nat}{m:Nat→Option Nat}{v e p:Nat}{Y:Int}
open Classical in
theorem za9 (H:Pm es n m)(φ:Nat→Int):SI (fun v=>if (m v).isSome=true then φ v else 0) n=SI (fun e=>if m (vA es e)=some e then φ (vA es e)+φ (vB es e) else 0) es.length:=by
  have h1:SI (fun v=>if (m v).isSome=true then φ v else 0) n=SI (fun v=>SI (fun e=>if m v=some e then φ v else 0) es.length) n:=by
    refine Z4 fun v hv=>?_
    cases hm:m v with
    | none =>
      have:(fun e=>if (none:Option Nat)=some e then φ v else 0)=fun _=>(0:Int):=by funext e;simp
      rw[this,uI];simp
    | some e =>
      have he:=(H.of v e hv hm).1
      rw[YR (a:=e) he fun i _ hi=>if_neg fun q=>hi (Option.some.inj q).symm]
      simp
  rw[h1,KT]
  refine Z4 fun e he=>?_
  obtain⟨a1,a2,a3⟩:=H.ed e he
  by_cases c:m (vA es e)=some e
  · rw[if_pos c]
    obtain⟨_,_,c2,_⟩:=H.of _ e a1 c
    rw[zdQ (a:=vA es e) (b:=vB es e) a1 a2 a3 fun v hv h2 h3=>if_neg fun q=>by
      rcases (H.of v e hv q).2.2.2 with g | g
      · exact h2 g.symm
      · exact h3 g.symm]
    rw[if_pos c,if_pos c2]
  · rw[if_neg c]
    rw[Z4 (g:=fun _=>0) fun v hv=>if_neg fun q=>c (H.of v e hv q).2.1,uI]
open Classical in
noncomputable def Jq (s:Sv)(p:Nat):Int:=SI (fun v=>if Wi s v p then 1 else 0) s.n
open Classical in
noncomputable def dt (es:List E)(s:Sv)(m:Nat→Option Nat)(p:Nat):Int:=SI (fun e=>if m (vA es e)=some e∧Wi s (vA es e) p∧Wi s (vB es e) p then 1 else 0) es.length
open Classical in
theorem Cf (H:Pm es s.n m)(C:Cl es s m)(hp:p<s.N)(hg:s.gone p=false):Jq s p=2*dt es s m p+1:=by
  obtain⟨x,x1,x2,_,x4,x5⟩:=C p hp hg
  have h1:=za9 H fun v=>if ∃e,m v=some e∧Wi s (vA es e) p∧Wi s (vB es e) p then 1 else 0
  have h2:SI (fun e=>if m (vA es e)=some e then (if ∃e',m (vA es e)=some e'∧Wi s (vA es e') p∧Wi s (vB es e') p then (1:Int) else 0)+(if ∃e',m (vB es e)=some e'∧Wi s (vA es e') p∧Wi s (vB es e') p then 1 else 0) else 0) es.length=2*dt es s m p:=by
    unfold dt;rw[←fC]
    refine Z4 fun e he=>?_
    by_cases c:m (vA es e)=some e
    · obtain⟨_,_,c2,_⟩:=H.of _ e (H.ed e he).1 c
      rw[if_pos c]
      by_cases w:Wi s (vA es e) p∧Wi s (vB es e) p
      · rw[if_pos ⟨e,c,w⟩,if_pos ⟨e,c2,w⟩,if_pos ⟨c,w⟩];omega
      · rw[if_neg (fun q=>by obtain⟨e',q1,q2⟩:=q;rw[c] at q1;cases q1;exact w q2),if_neg (fun q=>by obtain⟨e',q1,q2⟩:=q;rw[c2] at q1;cases q1;exact w q2),if_neg (fun q=>w q.2)];omega
    · rw[if_neg c,if_neg (fun q=>c q.1)];omega
  have h3:SI (fun v=>if (m v).isSome=true then (if ∃e,m v=some e∧Wi s (vA es e) p∧Wi s (vB es e) p then (1:Int) else 0) else 0) s.n+1=Jq s p:=by
    have e1:(1:Int)=SI (fun v=>if v=x then 1 else 0) s.n:=by
      rw[YR (a:=x) x1 fun i _ hi=>if_neg hi,if_pos rfl]
    unfold Jq
    refine (congrArg (_+·) e1).trans ?_
    show _+SI (fun v=>if v=x then 1 else 0) s.n=_
    rw[←gp]
    refine Z4 fun v hv=>?_
    by_cases q:v=x
    · subst q
      rw[if_pos rfl,if_pos x2]
      rw[if_neg (show ¬ ∃e,m v=some e∧Wi s (vA es e) p∧Wi s (vB es e) p from fun q=>by obtain⟨e,q1,q2⟩:=q;exact x4 e q1 q2)]
      split<;>omega
    · rw[if_neg q]
      by_cases w:Wi s v p
      · obtain⟨e,e1,e2,e3,e4,e5⟩:=x5 v hv w q
        rw[if_pos w,if_pos (show (m v).isSome=true by rw[e1];rfl),if_pos (show ∃e,m v=some e∧Wi s (vA es e) p∧Wi s (vB es e) p from⟨e,e1,e4,e5⟩)];omega
      · rw[if_neg w]
        rw[if_neg (show ¬ ∃e,m v=some e∧Wi s (vA es e) p∧Wi s (vB es e) p from fun k=>by
          obtain⟨e,q1,q2⟩:=k;rcases (H.of v e hv q1).2.2.2 with g | g
          · exact w (by rw[←g];exact q2.1)
          · exact w (by rw[←g];exact q2.2))]
        split<;>omega
  rw[h1,h2] at h3;omega
theorem zgf {T:Nat→Prop}(K:Ok0 es T s')(hr:∀p,¬zg s' p):Pm es s'.n s'.mate∧∀v e,v<s'.n→s'.mate v=some e→T e:=by
  have tv:∀v,v<s'.n→zc s' v:=fun v hv=>⟨Nat.lt_of_lt_of_le hv K.nN,by
    cases hu:s'.up v with
    | none=>rfl
    | some r=>exact absurd (K.up v r hu).2.1 (hr r),by
    cases hg:s'.gone v with
    | false=>rfl
    | true=>have:=(K.gone v hg).1;omega⟩
  have all:∀v e,v<s'.n→s'.mate v=some e→T e∧e<es.length∧s'.mate (vA es e)=some e∧s'.mate (vB es e)=some e∧(vA es e=v∨vB es e=v):=fun v e hv hm=>by
    obtain⟨h1,o,h2,h3,h4,h5⟩:=K.mate v e (tv v hv) hm
    have on:o<s'.n:=by
      rcases Nat.lt_or_ge o s'.n with q | q
      · exact q
      · exact absurd ⟨q,h2.1,h2.2.2⟩ (hr o)
    rcases h5.2 with⟨g1,g2⟩ | ⟨g1,g2⟩
    · have e1:=K.vertex hv g1
      have e2:=K.vertex on g2
      exact⟨h1,h5.1,by rw[e1];exact hm,by rw[e2];exact h4,.inl e1⟩
    · have e1:=K.vertex hv g1
      have e2:=K.vertex on g2
      exact⟨h1,h5.1,by rw[e2];exact h4,by rw[e1];exact hm,.inr e1⟩
  exact⟨⟨K.ed,fun v e hv hm=>(all v e hv hm).2⟩,fun v e hv hm=>(all v e hv hm).1⟩
open Classical in
theorem C1 {a b:Nat}:∀ {k},qJ s a b k=SI (fun p=>if s.n≤p∧Wi s a p∧Wi s b p then s.z p else 0) k
  | 0=>rfl
  | k+1=>by
    unfold qJ SI;rw[C1]
open Classical in
theorem zbV (K : Ok es s) (H : Pm es s.n m) (C : Cl es s m) (ht : ∀ v e, v < s.n → m v = some e → Ze es s e) (hy : ∀ v, v < s.n → m v = none → s.y v = 0) :
    SI s.y s.n+SI (fun p=>if zg s p then s.z p*((Jq s p-1) / 2) else 0) s.N=2*SI (fun e=>if m (vA es e)=some e then vW es e else 0) es.length:=by
  have h1:SI s.y s.n=SI (fun v=>if (m v).isSome=true then s.y v else 0) s.n:=Z4 fun v hv=>by
    cases hm:m v with
    | none=>rw[hy v hv hm];simp
    | some e=>simp
  rw[h1,za9 H]
  have h2:SI (fun p=>if zg s p then s.z p*((Jq s p-1) / 2) else 0) s.N=SI (fun e=>if m (vA es e)=some e then qJ s (vA es e) (vB es e) s.N else 0) es.length:=by
    have e1:SI (fun p=>if zg s p then s.z p*((Jq s p-1) / 2) else 0) s.N=SI (fun p=>SI (fun e=>if m (vA es e)=some e then (if s.n≤p∧Wi s (vA es e) p∧Wi s (vB es e) p then s.z p else 0) else 0) es.length) s.N:=by
      refine Z4 fun p hp=>?_
      by_cases r:zg s p
      · rw[if_pos r,Cf H C hp r.2.2,show (2*dt es s m p+1-1) / 2=dt es s m p by omega]
        unfold dt;rw[←fC]
        refine Z4 fun e he=>?_
        by_cases c:m (vA es e)=some e
        · rw[if_pos c]
          by_cases w:Wi s (vA es e) p∧Wi s (vB es e) p
          · rw[if_pos ⟨c,w⟩,if_pos ⟨r.1,w⟩];omega
          · rw[if_neg (fun q=>w q.2),if_neg (fun q=>w q.2)];omega
        · rw[if_neg c,if_neg (fun q=>c q.1)];omega
      · rw[if_neg r]
        rw[Z4 (g:=fun _=>0) fun e he=>?_,uI]
        by_cases c:m (vA es e)=some e
        · rw[if_pos c,if_neg (fun q=>r ?_)]
          obtain⟨q1,q2,q3⟩:=q;exact⟨q1,hp,K.wi_gone q2 (K.ngone (K.ed e he).1)⟩
        · rw[if_neg c]
    rw[e1,KT]
    refine Z4 fun e he=>?_
    by_cases c:m (vA es e)=some e
    · rw[if_pos c,C1]
      exact Z4 fun p _=>if_pos c
    · rw[if_neg c,Z4 (g:=fun _=>0) fun p _=>if_neg c,uI]
  rw[h2,←gp,←fC]
  refine Z4 fun e he=>?_
  by_cases c:m (vA es e)=some e
  · rw[if_pos c,if_pos c,if_pos c]
    have:=ht _ e (K.ed e he).1 c;unfold Ze slk at this;omega
  · rw[if_neg c,if_neg c,if_neg c];omega
end
def Frz (s:Sv):Prop:=∀t,zc s t→s.mate t=none→s.y (s.base t)=0
inductive fB (es:List E):Sv→Sv→Prop
  | none {s:Sv} {l:Lb} {rk:Nat→Nat} (F:Fo es s l rk) (h:∀v,v<s.n→l.lab (top s v)≠1):fB es s s
  | change {s:Sv} {l:Lb} {rk:Nat→Nat} {d:Int} (F:Fo es s l rk) (S:VF es s l) (D:jp es s l d) (hf:∃t,zc s t∧s.mate t=none) (hy:∃v,v<s.n∧l.lab (top s v)=1∧s.y v=d):fB es s (zx s l d)
structure Bd (s:Sv)(Y M:Int):Prop where
  y:∀v,v<s.n→s.y v+Y≤2*M
  z:∀p,zg s p→s.z p+2*Y≤2*M
  m:Y≤M
section
variable {es:List E}{T:Nat→Prop}{s s':Sv}{Y M:Int}{B a b:Nat}
theorem zcV (K0:Ok0 es T s)(L:Frz s)(hB:zg s B)(ht:s.up B=none)(ha:a<(s.mem B).length)(hh:YQ es s B ((s.mem B).getD a 0)):Frz (zr s B a):=by
  intro t htt hm;show s.y (s.base t)=0;rcases (Zy K0 hB).1 htt with⟨h1,h2⟩ | hm2
  · have nm:¬t∈s.mem B:=fun q=>by have:=(K0.memUp hB q).1;rw[h1.2.1] at this;cases this
    have:(zr s B a).mate t=s.mate t:=by simp only[zr];rw[if_neg nm]
    exact L t h1 (this▸hm)
  · obtain⟨hq,hqt⟩:=Yg hm2
    obtain⟨q,hqe⟩:∃q,q=(s.mem B).idxOf t:=⟨_,rfl⟩;rw[←hqe] at hq hqt;subst hqt;rw[Qd K0 hB hq] at hm;unfold opM at hm;split at hm
    · next d0 =>
      have hqa:q=a:=by unfold dst at d0;split at d0<;>omega
      subst hqa;have hw:=hh.2 hm;obtain⟨j,j1,j2⟩:=K0.baseM B hB;obtain⟨c1,c2,c3,c4⟩:=K0.memUp hB j1;obtain⟨b1,b2⟩:=K0.base j c3 c4;rw[←j2] at b2;have hmq:=K0.memUp hB hm2
      have e1:j=(s.mem B).getD q 0:=by
        rcases b2.chain hw with g | g
        · rcases g.last with k | ⟨m,k1,k2⟩
          · exact k
          · exfalso
            cases g with
            | refl=>have:=(K0.up _ _ k1).1;have:=k2.le K0.upOk;omega
            | step k3 k4 =>
              rw[c1] at k3;cases k3;have:=k4.le K0.upOk;omega
        · cases g with
          | refl=>rfl
          | step k3 k4 =>
            rw[hmq.1] at k3;cases k3;have:=k4.le K0.upOk;omega
      rw[←e1,←j2];exact L B ⟨hB.2.1,ht,hB.2.2⟩ hm
    · split at hm<;>cases hm
theorem ch {s s':Sv}(h:Vv es s s'):Ok0 es T s→Frz s→Frz s'∧s'.y=s.y:=by
  induction h with
  | done s h=>exact fun _ F=>⟨F,rfl⟩
  | step hB ht ha hh _ ih=>exact fun K F=>ih (Uv K hB ht ha hh) (zcV K F hB ht ha hh)
theorem zdK {x:Nat}:sg x=1∨sg x=0∨sg x=-1:=by
  unfold sg
  by_cases h:x=1
  · rw[if_pos h];exact .inl rfl
  · rw[if_neg h]
    by_cases h2:x=2
    · rw[if_pos h2];exact .inr (.inr rfl)
    · rw[if_neg h2];exact .inr (.inl rfl)
open Classical in
theorem Yb {l:Lb}{d:Int}(b:Bd s Y M)(hd:0≤d):Bd (zx s l d) (Y-d) M:=by
  refine⟨fun v hv=>?_,fun p hp=>?_,by have:=b.m;omega⟩
  · have h1:=b.y v hv
    show s.y v-sg (l.lab (top s v))*d+(Y-d)≤2*M
    rcases zdK (x:=l.lab (top s v)) with q | q | q<;>rw[q]<;>omega
  · have h1:=b.z p hp
    have h2:(zx s l d).z p≤s.z p+2*d:=by
      show (if zc s p∧s.n≤p then s.z p+2*(sg (l.lab p)*d) else s.z p)≤_
      have h4:sg (l.lab p)*d≤d:=by rcases zdK (x:=l.lab p) with q | q | q<;>rw[q]<;>omega
      split<;>omega
    omega
theorem CF (b:Bd s Y M):Bd (zr s B a) Y M:=⟨b.y,fun p hp=>b.z p (ZQ.1 hp).1,b.m⟩
theorem zaY {s s':Sv}(h:Uf es s s'):Bd s Y M→Bd s' Y M:=by
  induction h with
  | refl s=>exact id
  | step _ _ _ _ _ _ ih=>exact fun b=>ih (CF b)
theorem zcE (K:Ok es s)(L:Lo s Y)(b:Bd s Y M)(h:fB es s s'):Ok es s'∧Frz s'∧s'.n=s.n∧∃Y',Lo s' Y'∧Bd s' Y' M:=by
  cases h with
  | none F h =>
    refine⟨K,fun t ht hm=>?_,rfl,Y,L,b⟩
    have h1:=(F.root t ht hm).1;obtain⟨b1,b2⟩:=K.base t ht.1 ht.2.2
    exact absurd (by rw[Zo K.upOk b2 ht.2.1];exact h1) (h _ b1)
  | change F S D hf hy =>
    rename_i l rk d
    have e:=BL K F L D hf hy;have L':=Va K F L D hf
    refine⟨Vb K F D.step,fun t ht hm=>?_,rfl,Y-d,L',Yb b D.step.d0⟩
    have:=L'.free t ht hm;omega
theorem zbm (K:Ok es s)(L:Lo s Y)(b:Bd s Y M)(h:uH es s s'):∃Y',Lo s' Y'∧Bd s' Y' M:=by
  cases h with
  | fold G =>
    rename_i l rk e i k xs ys
    have R:=G.ring K
    refine⟨Y,Du K R L,b.y,fun p hp=>?_,b.m⟩
    by_cases q:p=s.N
    · subst q
      have:(zU s (ZN xs ys i k) (qz l e xs ys i k) (xs.getD i 0)).z s.N=0:=if_pos rfl;rw[this];have:=b.m;omega
    · have:(zU s (ZN xs ys i k) (qz l e xs ys i k) (xs.getD i 0)).z p=s.z p:=if_neg q
      rw[this];refine b.z p ⟨hp.1,?_,?_⟩
      · have h1:p<s.N+1:=hp.2.1
        omega
      · have h1:(if p=s.N then false else s.gone p)=false:=hp.2.2
        rw[if_neg q] at h1;exact h1
  | aug A O =>
    obtain⟨i1,i2,i3,i4⟩:=G6 O (gA A K) (BG A K L);exact⟨Y,i2,zaY O ⟨b.y,b.z,b.m⟩⟩
  | change F S D hf hy hz=>exact⟨_,Va K F L D hf,Yb b D.step.d0⟩
  | open_ F S D hf hB hn hl hz ha hh =>
    rename_i l rk d B a
    exact⟨_,Fp (Vb K F D.step) (Va K F L D hf) (B:=B) ⟨hn,hB.1,hB.2.2⟩ hB.2.1 ha hh,CF (Yb b D.step.d0)⟩
theorem zbF {n:Nat}{y:Int}:Bd (wR n y) y y:=⟨fun v _=>by show y+y≤2*y;omega,fun p hp=>absurd hp Vh,Int.le_refl _⟩
theorem dv (K:Ok es s)(F:Frz s)(O:Vv es s s'):Pm es s.n s'.mate∧Cl es s s'.mate∧SI s.y s.n+SI (fun p=>open Classical in if zg s p then s.z p*((Jq s p-1) / 2) else 0) s.N=2*SI (fun e=>if s'.mate (vA es e)=some e then vW es e else 0) es.length:=by
  obtain⟨K',hn,hr,C⟩:=cj O K.ok0;obtain⟨P,hT⟩:=zgf K' hr;obtain⟨F',hy⟩:=ch O K.ok0 F;rw[hn] at P hT;refine⟨P,C,?_⟩
  refine (zbV K P C hT fun v hv hm=>?_).trans ?_
  · have hv':v<s'.n:=by omega
    have hvN:=Nat.lt_of_lt_of_le hv' K'.nN
    have hg:s'.gone v=false:=by
      cases hg:s'.gone v with
      | false=>rfl
      | true=>have:=(K'.gone v hg).1;omega
    have ht:zc s' v:=⟨hvN,by
      cases hu:s'.up v with
      | none=>rfl
      | some r=>exact absurd (K'.up v r hu).2.1 (hr r),hg⟩
    have h1:=F' v ht hm;rw[K'.vertex hv' (K'.base v hvN hg).2,hy] at h1;exact h1
  · congr 1
end
theorem qp.sub {h:za}{v:Value}{gs:List Gp}(o:qp h v gs){i:Nat}(hi:i≤gs.length):∃v',kb 2 v none (some (.int .i64 (i:Int))) h=some v'∧qp h v' (gs.take i):=by
  obtain⟨vs,h1,h2⟩:=o
  obtain⟨v',e,r⟩:=h1.sub (i:=0) (k:=i) (lo:=none) (hi:=some (.int .i64 (i:Int))) (Nat.zero_le _) (by simpa using hi) (by omega) rfl rfl
  have hg:∀k,k<i→(gs.take i).getD k g0=gs.getD k g0:=fun k hk=>by simp[hk]
  refine⟨v',e,vs,?_,fun k hk=>?_⟩
  · have:qT vs (gs.take i)=((qT vs gs).drop 0).take (i-0):=by
      rw[List.drop_zero,Nat.sub_zero];unfold qT;rw[←List.map_take,List.take_range,List.length_take];apply List.map_congr_left
      intro k hk
      have hk':k<i:=by have:=List.mem_range.1 hk;omega
      unfold Km;rw[hg k hk']
    rw[this];exact r
  · have hk':k<i:=by simp at hk;omega
    rw[hg k hk']
    exact h2 k (by omega)
def YF (l m:List Int):Prop:=∀x∈l,x∈m
def FK (l m:List Int):Prop:=∀x∈l,¬x∈m
theorem BC {l m:List Int}{a:Int}:YF (l++[a]) m↔YF l m∧a∈m :=
  ⟨fun h=>⟨fun x hx=>h x (List.mem_append_left _ hx),h _ (List.mem_append_right _ (List.mem_singleton.2 rfl))⟩,fun h x hx=>(List.mem_append.1 hx).elim (h.1 x) fun hx=>by rw[List.mem_singleton.1 hx];exact h.2⟩
theorem dM {l m:List Int}{a:Int}:FK (l++[a]) m↔FK l m∧¬a∈m :=
  ⟨fun h=>⟨fun x hx=>h x (List.mem_append_left _ hx),h _ (List.mem_append_right _ (List.mem_singleton.2 rfl))⟩,fun h x hx=>(List.mem_append.1 hx).elim (h.1 x) fun hx=>by rw[List.mem_singleton.1 hx];exact h.2⟩
def QN (e:E):Value:=.agg ⟨ZT e⟩
def WOk (e:E):Prop:=(0≤e.w1∧e.w1≤50)∧(0≤e.w2∧e.w2≤50)∧(0≤e.w3∧e.w3≤50)
theorem XT {size:Int}{e:E}(h:EOk size e):WOk e:=by unfold EOk at h;unfold WOk;omega
section
variable {X:Zb}{h:za}{v w ev yv gv:Value}{l m ys:List Int}{gs:List Gp}{es:List E}{e:E}{size z:Int}
theorem YH (hw:WOk e):C T X w6 [QN e] h=some (.int .i64 (ZJ e.w1 e.w2 e.w3),h):=by
  unfold WOk at hw;refine qH XC rfl ?_;unfold Vj QN ZT ZJ
  have e1:IntKind.i64.wrap (90000*e.w1)=90000*e.w1:=w64 (by omega) (by omega)
  have e2:IntKind.i64.wrap (300*e.w2)=300*e.w2:=w64 (by omega) (by omega)
  have e3:IntKind.i64.wrap (90000*e.w1+300*e.w2)=90000*e.w1+300*e.w2:=w64 (by omega) (by omega)
  have e4:IntKind.i64.wrap (90000*e.w1+300*e.w2+e.w3)=90000*e.w1+300*e.w2+e.w3:=w64 (by omega) (by omega)
  simp only[e1,e2,e3,e4,go_sem]
theorem Vy (hw:WOk e):C T X qG [QN e] h=some (.int .i64 (ZJ e.w1 e.w2 e.w3),h):=by
  unfold WOk at hw;refine qH XH rfl ?_;unfold Vo QN ZT ZJ
  have e1:IntKind.i64.wrap (90000*e.w1)=90000*e.w1:=w64 (by omega) (by omega)
  have e2:IntKind.i64.wrap (300*e.w2)=300*e.w2:=w64 (by omega) (by omega)
  have e3:IntKind.i64.wrap (90000*e.w1+300*e.w2)=90000*e.w1+300*e.w2:=w64 (by omega) (by omega)
  have e4:IntKind.i64.wrap (90000*e.w1+300*e.w2+e.w3)=90000*e.w1+300*e.w2+e.w3:=w64 (by omega) (by omega)
  simp only[e1,e2,e3,e4,go_sem]
open Classical in
theorem YJ (ha:Rows h 1 v (zq l))(hb:Rows h 1 w (zq m))(hl:l.length≤lim)(hm:m.length≤lim):C T X w8 [v,w] h=some (.tuple ⟨[.bool (decide (YF l m)),.bool (decide (FK l m))]⟩,h):=by
  unfold lim at hl;refine qH XG rfl ?_;unfold Vn;simp only[zI ha,go_sem]
  refine zT l.length (fun i t loc h'=>h'=h∧t 1=w∧t 6=.bool (decide (YF (l.take i) m))∧t 7=.bool (decide (FK (l.take i) m))∧t 11=v∧t 12=.int .i64 l.length∧t 13=.int .i64 i) ⟨rfl,rfl,by have:YF (l.take 0) m:=(fun x h=>by cases h);simp only[upd,decide_eq_true this];rfl,by have:FK (l.take 0) m:=(fun x h=>by cases h);simp only[upd,decide_eq_true this];rfl,rfl,rfl,rfl⟩ ?_
  rintro i t loc h' hi ⟨rfl,t1,t6,t7,t11,t12,t13⟩;simp only[t12,t13,go_sem]
  refine zt (by simp only[go_sem];rfl) ?_ ?_<;>intro hc
  · have hi1:i<l.length:=by omega
    have hw:IntKind.i64.wrap ((i:Int)+1)=((i+1:Nat):Int):=w64 (by omega) (by omega)
    have hel:=ZU ha hi1;have hin:=wY (X:=X) (n:=l.getD i 0) hb hm;have htk:=Zj (d:=0) hi1;have n1:=BC (l:=l.take i) (m:=m) (a:=l.getD i 0);have n2:=dM (l:=l.take i) (m:=m) (a:=l.getD i 0);rw[←htk] at n1 n2
    by_cases p:YF (l.take i) m<;>by_cases q:FK (l.take i) m<;>by_cases s:l.getD i 0∈m
    all_goals
      simp only[p,q,s,and_true,and_false,not_true_eq_false,not_false_eq_true,iff_true,iff_false] at n1 n2;simp only[t1,t6,t7,t11,t12,t13,hel.1,hel.2,hin,p,q,s,n1,n2,hw,go_sem];exact hi1
  · have hil:i=l.length:=by omega
    subst hil;rw[List.take_length] at t6 t7;simp only[t6,t7,go_sem]
theorem JV (ha:Rows h 1 v (zq l))(hb:Rows h 1 w (zq m))(hl:l.length≤lim)(hm:m.length≤lim):C T X wK [v,w] h=some (.bool (decide (ZX l m=0) || (decide (ZX l m=l.length) || decide (ZX l m=m.length))),h):=by
  have hl2:=hl;have hm2:=hm;unfold lim at hl2 hm2;refine qH kA rfl ?_;unfold wF;simp only[go_sem]
  refine zT l.length (fun i t loc h'=>h'=h∧t 0=v∧t 1=w∧t 5=.int .i64 (ZX (l.take i) m:Nat)∧t 6=.int .i64 i) ⟨rfl,rfl,rfl,by simp[upd,ZX],rfl⟩ ?_
  rintro i t loc h' hi ⟨rfl,t0,t1,t5,t6⟩;simp only[t0,t6,zI ha,go_sem]
  refine zt (by simp only[go_sem];rfl) ?_ ?_<;>intro hc
  · have hi1:i<l.length:=by omega
    have hw:IntKind.i64.wrap ((i:Int)+1)=((i+1:Nat):Int):=w64 (by omega) (by omega)
    have hel:=ZU ha hi1;have hin:=QK (X:=X) (n:=l.getD i 0) hb hm;have hct:=BN (b:=m) hi1;have hle:=D7 (a:=l.take i) (b:=m)
    have hlt:(l.take i).length≤l.length:=by simp;omega
    have hw2:IntKind.i64.wrap (((ZX (l.take i) m:Nat):Int)+1)=((ZX (l.take i) m+1:Nat):Int):=w64 (by omega) (by omega)
    by_cases s:l.getD i 0∈m
    · rw[if_pos s] at hct
      simp only[t0,t1,t5,t6,hel.1,hel.2,hin,s,hw2,hw,hct,go_sem];exact hi1
    · rw[if_neg s] at hct
      simp only[t0,t1,t5,t6,hel.1,hel.2,hin,s,hw,hct,go_sem];exact hi1
  · have hil:i=l.length:=by omega
    subst hil;rw[List.take_length] at t5
    by_cases s1:ZX l m=0
    · have s1':((ZX l m:Nat):Int)=0:=by omega
      simp only[t0,t1,t5,s1',zI ha,zI hb,go_sem];simp[s1]
    have s1':¬((ZX l m:Nat):Int)=0:=by omega
    by_cases s2:ZX l m=l.length
    · have s2':((ZX l m:Nat):Int)=(l.length:Int):=by omega
      simp only[t0,t1,t5,s1',decide_eq_true s2',zI ha,zI hb,go_sem];simp[s1,s2]
    have s2':¬((ZX l m:Nat):Int)=(l.length:Int):=by omega
    by_cases s3:ZX l m=m.length
    · have s3':((ZX l m:Nat):Int)=(m.length:Int):=by omega
      simp only[t0,t1,t5,s1',s2',zI ha,zI hb,go_sem];simp[s1,s2,s3,s3']
    · have s3':¬((ZX l m:Nat):Int)=(m.length:Int):=by omega
      simp only[t0,t1,t5,s1',s2',s3',zI ha,zI hb,go_sem];simp[s1,s2,s3]
end
section
variable {X:Zb}{h:za}{v w ev yv gv:Value}{l m ys:List Int}{gs:List Gp}{es:List E}{e:E}{size z:Int}
structure gn (ys:List Int)(gs:List Gp):Prop where
  y:∀i,i<ys.length→0≤ys.getD i 0∧ys.getD i 0≤1000000000
  yl:ys.length≤9
  gl:gs.length≤8
  g:∀i,i<gs.length→(0≤(gs.getD i g0).z∧(gs.getD i g0).z≤1000000000)∧(gs.getD i g0).ms.length≤9
theorem GI (hy : Rows h 1 yv (zq ys)) (hg : qp h gv gs) (fit : gn ys gs) (hE : EOk size e) (hsz : (ys.length : Int) = size) :
    C T X vE [QN e,Zg yv gv] h=some (.int .i64 (VP ys gs e),h):=by
  have hW:=XT hE;have hgl:=fit.gl;have hsc:=YH (X:=X) (h:=h) hW;unfold EOk at hE;obtain⟨a,ha⟩:=Int.eq_ofNat_of_zero_le hE.1
  obtain⟨b,hb⟩:=Int.eq_ofNat_of_zero_le (show 0≤e.b by omega)
  have ea:=ZU hy (i:=a) (by omega)
  have eb:=ZU hy (i:=b) (by omega)
  rw[←ha] at ea;rw[←hb] at eb
  have ya:=fit.y a (by omega)
  have yb:=fit.y b (by omega)
  have hw1:IntKind.i64.wrap (ys.getD a 0+ys.getD b 0)=ys.getD a 0+ys.getD b 0:=w64 (by omega) (by omega)
  have hss:0≤ZJ e.w1 e.w2 e.w3∧ZJ e.w1 e.w2 e.w3≤5000000:=by unfold ZJ;unfold WOk at hW;omega
  have hw2:IntKind.i64.wrap (2*ZJ e.w1 e.w2 e.w3)=2*ZJ e.w1 e.w2 e.w3:=w64 (by omega) (by omega)
  have hw3:IntKind.i64.wrap (ys.getD a 0+ys.getD b 0-2*ZJ e.w1 e.w2 e.w3)=ys.getD a 0+ys.getD b 0-2*ZJ e.w1 e.w2 e.w3:=w64 (by omega) (by omega)
  have htot:VP ys gs e=ys.getD a 0+ys.getD b 0-2*ZJ e.w1 e.w2 e.w3+qN e.a e.b gs:=by
    have h1:e.a.toNat=a:=by omega
    have h2:e.b.toNat=b:=by omega
    unfold VP;rw[h1,h2]
  have hbd:=XZ (a:=e.a) (b:=e.b) (gs:=gs) fun i hi=>(fit.g i hi).1
  refine qH xA rfl ?_;unfold W0;unfold QN ZT Zg at *;simp only[ea.1,ea.2,eb.1,eb.2,hsc,hw1,hw2,hw3,hg.ln,List.prefix_refl,go_sem];obtain⟨base,hbase⟩:∃base,base=ys.getD a 0+ys.getD b 0-2*ZJ e.w1 e.w2 e.w3:=⟨_,rfl⟩
  have hb0:-10000000≤base∧base≤2000000000:=by omega
  rw[←hbase] at htot ⊢
  refine zT gs.length (fun i t loc h'=>h'=h∧loc 2=some [.int .i64 e.a,.int .i64 e.b,.int .i64 e.w1,.int .i64 e.w2,.int .i64 e.w3]∧t 5=.int .i64 (base+qN e.a e.b (gs.take i))∧t 26=gv∧t 27=.int .i64 gs.length∧t 28=.int .i64 i) ⟨rfl,rfl,by simp[upd,qN],rfl,rfl,rfl⟩ ?_
  rintro i t loc h' hi ⟨rfl,l2,t5,t26,t27,t28⟩;simp only[t27,t28,go_sem]
  refine zt (by simp only[go_sem];rfl) ?_ ?_<;>intro hc
  · have hi1:i<gs.length:=by omega
    have hw:IntKind.i64.wrap ((i:Int)+1)=((i+1:Nat):Int):=w64 (by omega) (by omega)
    obtain⟨x,e1,e2,e3,e4,e5,e6⟩:=hg.el hi1;have hml:=(fit.g i hi1)
    have c1:=wY (X:=X) (n:=e.a) e6 (by unfold lim;omega)
    have c2:=wY (X:=X) (n:=e.b) e6 (by unfold lim;omega)
    have hgt:=YY (a:=e.a) (b:=e.b) hi1
    have hb1:=hbd i (by omega)
    have hb2:=hbd (i+1) (by omega)
    have hw4:IntKind.i64.wrap (base+qN e.a e.b (gs.take i)+(gs.getD i g0).z)=base+qN e.a e.b (gs.take i)+(gs.getD i g0).z:=w64 (by omega) (by omega)
    by_cases s1:e.a∈(gs.getD i g0).ms
    · by_cases s2:e.b∈(gs.getD i g0).ms
      · rw[if_pos ⟨s1,s2⟩] at hgt
        simp only[l2,t5,t26,t27,t28,e1,e3,(Rows.cells e6),c1,c2,s1,s2,hw4,hw,go_sem]
        exact⟨hi1,by rw[hgt];omega⟩
      · rw[if_neg (fun h=>s2 h.2)] at hgt
        simp only[l2,t5,t26,t27,t28,e1,e3,(Rows.cells e6),c1,c2,s1,s2,hgt,hw,go_sem];exact hi1
    · rw[if_neg (fun h=>s1 h.1)] at hgt
      simp only[l2,t5,t26,t27,t28,e1,e3,(Rows.cells e6),c1,s1,hgt,hw,go_sem];exact hi1
  · have hil:i=gs.length:=by omega
    subst hil;rw[List.take_length] at t5;simp only[t5,htot,go_sem]
theorem Ks (hy : Rows h 1 yv (zq ys)) (hg : qp h gv gs) (fit : gn ys gs) (hE : EOk size e) (hsz : (ys.length : Int) = size) :
    C T X WA [Zg yv gv,QN e] h=some (.int .i64 (VP ys gs e),h):=by
  have hW:=XT hE;have hgl:=fit.gl;have hsc:=Vy (X:=X) (h:=h) hW;unfold EOk at hE;obtain⟨a,ha⟩:=Int.eq_ofNat_of_zero_le hE.1
  obtain⟨b,hb⟩:=Int.eq_ofNat_of_zero_le (show 0≤e.b by omega)
  have ea:=ZU hy (i:=a) (by omega)
  have eb:=ZU hy (i:=b) (by omega)
  rw[←ha] at ea;rw[←hb] at eb
  have ya:=fit.y a (by omega)
  have yb:=fit.y b (by omega)
  have hw1:IntKind.i64.wrap (ys.getD a 0+ys.getD b 0)=ys.getD a 0+ys.getD b 0:=w64 (by omega) (by omega)
  have hss:0≤ZJ e.w1 e.w2 e.w3∧ZJ e.w1 e.w2 e.w3≤5000000:=by unfold ZJ;unfold WOk at hW;omega
  have hw2:IntKind.i64.wrap (2*ZJ e.w1 e.w2 e.w3)=2*ZJ e.w1 e.w2 e.w3:=w64 (by omega) (by omega)
  have hw3:IntKind.i64.wrap (ys.getD a 0+ys.getD b 0-2*ZJ e.w1 e.w2 e.w3)=ys.getD a 0+ys.getD b 0-2*ZJ e.w1 e.w2 e.w3:=w64 (by omega) (by omega)
  have htot:VP ys gs e=ys.getD a 0+ys.getD b 0-2*ZJ e.w1 e.w2 e.w3+qN e.a e.b gs:=by
    have h1:e.a.toNat=a:=by omega
    have h2:e.b.toNat=b:=by omega
    unfold VP;rw[h1,h2]
  have hbd:=XZ (a:=e.a) (b:=e.b) (gs:=gs) fun i hi=>(fit.g i hi).1
  refine qH KO rfl ?_;unfold Wv;unfold QN ZT Zg at *;simp only[ea.1,ea.2,eb.1,eb.2,hsc,hw1,hw2,hw3,List.prefix_refl,go_sem];obtain⟨base,hbase⟩:∃base,base=ys.getD a 0+ys.getD b 0-2*ZJ e.w1 e.w2 e.w3:=⟨_,rfl⟩
  have hb0:-10000000≤base∧base≤2000000000:=by omega
  rw[←hbase] at htot ⊢
  refine zT gs.length (fun i t loc h'=>h'=h∧loc 2=some [yv,gv]∧loc 3=some [.int .i64 e.a,.int .i64 e.b,.int .i64 e.w1,.int .i64 e.w2,.int .i64 e.w3]∧t 5=.int .i64 (base+qN e.a e.b (gs.take i))∧t 6=.int .i64 i) ⟨rfl,rfl,rfl,by simp[upd,qN],rfl⟩ ?_
  rintro i t loc h' hi ⟨rfl,l2,l3,t5,t6⟩;simp only[l2,t6,hg.ln,go_sem]
  refine zt (by simp only[go_sem];rfl) ?_ ?_<;>intro hc
  · have hi1:i<gs.length:=by omega
    have hw:IntKind.i64.wrap ((i:Int)+1)=((i+1:Nat):Int):=w64 (by omega) (by omega)
    obtain⟨x,e1,e2,e3,e4,e5,e6⟩:=hg.el hi1;have hml:=(fit.g i hi1)
    have c1:=QK (X:=X) (n:=e.a) e6 (by unfold lim;omega)
    have c2:=QK (X:=X) (n:=e.b) e6 (by unfold lim;omega)
    have hgt:=YY (a:=e.a) (b:=e.b) hi1
    have hb1:=hbd i (by omega)
    have hb2:=hbd (i+1) (by omega)
    have hw4:IntKind.i64.wrap (base+qN e.a e.b (gs.take i)+(gs.getD i g0).z)=base+qN e.a e.b (gs.take i)+(gs.getD i g0).z:=w64 (by omega) (by omega)
    by_cases s1:e.a∈(gs.getD i g0).ms
    · by_cases s2:e.b∈(gs.getD i g0).ms
      · rw[if_pos ⟨s1,s2⟩] at hgt
        simp only[l2,l3,t5,t6,e1,e2,e4,e5,c1,c2,s1,s2,hw4,hw,List.prefix_refl,go_sem]
        exact⟨hi1,by rw[hgt];omega⟩
      · rw[if_neg (fun h=>s2 h.2)] at hgt
        simp only[l2,l3,t5,t6,e1,e2,e4,e5,c1,c2,s1,s2,hgt,hw,List.prefix_refl,go_sem];exact hi1
    · rw[if_neg (fun h=>s1 h.1)] at hgt
      simp only[l2,l3,t5,t6,e1,e2,e4,e5,c1,s1,hgt,hw,List.prefix_refl,go_sem];exact hi1
  · have hil:i=gs.length:=by omega
    subst hil;rw[List.take_length] at t5;simp only[t5,htot,go_sem]
end
section
variable {X:Zb}{h:za}{v w ev yv gv:Value}{ys:List Int}{gs:List Gp}{es:List E}{g:Gp}{size:Int}
theorem Xs (hy:Rows h 1 yv (zq ys))(hg:qp h gv gs)(fit:gn ys gs)(hodd:∀i,i<gs.length→(gs.getD i g0).ms.length%2=1):C T X Vz [Zg yv gv] h=some (.int .i64 (vM ys gs),h):=by
  have hyl:=fit.yl;have hgl:=fit.gl;have by1:=xq fit.y;have by2:=by1 ys.length (Nat.le_refl _);rw[List.take_length] at by2;have bg1:=xp fit.g;refine qH XF rfl ?_;unfold Vm Zg vM;simp only[zI hy,go_sem]
  refine zT ys.length (fun i t loc h'=>h'=h∧loc 1=some [yv,gv]∧t 3=.int .i64 (vR (ys.take i))∧t 9=yv∧t 10=.int .i64 ys.length∧t 11=.int .i64 i) ⟨rfl,rfl,rfl,rfl,rfl,rfl⟩ ?_
  rintro i t loc h' hi ⟨rfl,l1,t3,t9,t10,t11⟩;simp only[t10,t11,go_sem]
  refine zt (by simp only[go_sem];rfl) ?_ ?_<;>intro hc
  · have hi1:i<ys.length:=by omega
    have hw:IntKind.i64.wrap ((i:Int)+1)=((i+1:Nat):Int):=w64 (by omega) (by omega)
    have hel:=ZU hy hi1
    have h1:=by1 i (by omega)
    have h2:=fit.y i hi1;have hst:=ki hi1
    have hw2:IntKind.i64.wrap (vR (ys.take i)+ys.getD i 0)=vR (ys.take (i+1)):=by rw[hst];exact w64 (by omega) (by omega)
    simp only[l1,t3,t9,t10,t11,hel.1,hel.2,hw2,hw,go_sem];exact hi1
  have hil:i=ys.length:=by omega
  subst hil;rw[List.take_length] at t3;simp only[l1,t3,hg.ln,go_sem]
  refine zT gs.length (fun i t loc h2=>h2=h'∧t 3=.int .i64 (vR ys+VQ (gs.take i))∧t 20=gv∧t 21=.int .i64 gs.length∧t 22=.int .i64 i) ⟨rfl,congrArg (Value.int .i64) (Int.add_zero _).symm,rfl,rfl,rfl⟩ ?_
  rintro i t loc h2 hi ⟨rfl,t3,t20,t21,t22⟩;simp only[t21,t22,go_sem]
  refine zt (by simp only[go_sem];rfl) ?_ ?_<;>intro hc
  · have hi1:i<gs.length:=by omega
    have hw:IntKind.i64.wrap ((i:Int)+1)=((i+1:Nat):Int):=w64 (by omega) (by omega)
    obtain⟨x,e1,e2,e3,e4,e5,e6⟩:=hg.el hi1;have hml:=fit.g i hi1;have ho:=hodd i hi1;have hmb:=Fj hml.1 hml.2;have hst:=kh hi1
    have h1:=bg1 i (by omega)
    have hw2:IntKind.i64.wrap (((gs.getD i g0).ms.length:Int)-1)=(((gs.getD i g0).ms.length-1:Nat):Int):=by rw[w64 (by omega) (by omega)];omega
    have hdv:(((gs.getD i g0).ms.length-1:Nat):Int).tdiv 2=(((gs.getD i g0).ms.length / 2:Nat):Int):=by
      have:((gs.getD i g0).ms.length-1) / 2=(gs.getD i g0).ms.length / 2:=by omega
      rw[←this];rfl
    have hw3:IntKind.i64.wrap (((gs.getD i g0).ms.length / 2:Nat):Int)=(((gs.getD i g0).ms.length / 2:Nat):Int):=w64 (by omega) (by omega)
    have hw4:IntKind.i64.wrap ((gs.getD i g0).z*(((gs.getD i g0).ms.length / 2:Nat):Int))=(gs.getD i g0).z*(((gs.getD i g0).ms.length / 2:Nat):Int):=w64 (by omega) (by omega)
    have hw5:IntKind.i64.wrap (vR ys+VQ (gs.take i)+(gs.getD i g0).z*(((gs.getD i g0).ms.length / 2:Nat):Int))=vR ys+VQ (gs.take (i+1)):=by rw[hst,w64 (by omega) (by omega)];omega
    simp only[t3,t20,t21,t22,e1,e3,e6.cells,zI e6,hw2,hdv,hw3,hw4,hw5,hw,go_sem];exact hi1
  · have hil:i=gs.length:=by omega
    subst hil;rw[List.take_length] at t3;simp only[t3,go_sem]
theorem Xu (hy:Rows h 1 yv (zq ys))(hg:qp h gv gs)(fit:gn ys gs):C T X VA [Zg yv gv] h=some (.int .i64 (vM ys gs),h):=by
  have hyl:=fit.yl;have hgl:=fit.gl;have by1:=xq fit.y;have by2:=by1 ys.length (Nat.le_refl _);rw[List.take_length] at by2;have bg1:=xp fit.g;refine qH XM rfl ?_;unfold Vt Zg vM;simp only[go_sem]
  refine zT ys.length (fun i t loc h'=>h'=h∧loc 1=some [yv,gv]∧t 3=.int .i64 (vR (ys.take i))∧t 4=.int .i64 i) ⟨rfl,rfl,rfl,rfl⟩ ?_
  rintro i t loc h' hi ⟨rfl,l1,t3,t4⟩;simp only[l1,t4,zI hy,go_sem]
  refine zt (by simp only[go_sem];rfl) ?_ ?_<;>intro hc
  · have hi1:i<ys.length:=by omega
    have hw:IntKind.i64.wrap ((i:Int)+1)=((i+1:Nat):Int):=w64 (by omega) (by omega)
    have hel:=ZU hy hi1
    have h1:=by1 i (by omega)
    have h2:=fit.y i hi1;have hst:=ki hi1
    have hw2:IntKind.i64.wrap (vR (ys.take i)+ys.getD i 0)=vR (ys.take (i+1)):=by rw[hst];exact w64 (by omega) (by omega)
    simp only[l1,t3,t4,hel.1,hel.2,hw2,hw,go_sem];exact hi1
  have hil:i=ys.length:=by omega
  subst hil;rw[List.take_length] at t3;simp only[l1,t3,go_sem]
  refine zT gs.length (fun i t loc h2=>h2=h'∧loc 1=some [yv,gv]∧t 3=.int .i64 (vR ys+VQ (gs.take i))∧t 5=.int .i64 i) ⟨rfl,rfl,congrArg (Value.int .i64) (Int.add_zero _).symm,rfl⟩ ?_
  rintro i t loc h2 hi ⟨rfl,l1,t3,t5⟩;simp only[l1,t5,hg.ln,go_sem]
  refine zt (by simp only[go_sem];rfl) ?_ ?_<;>intro hc
  · have hi1:i<gs.length:=by omega
    have hw:IntKind.i64.wrap ((i:Int)+1)=((i+1:Nat):Int):=w64 (by omega) (by omega)
    obtain⟨x,e1,e2,e3,e4,e5,e6⟩:=hg.el hi1;have hml:=fit.g i hi1;have hmb:=Fj hml.1 hml.2;have hst:=kh hi1
    have h1:=bg1 i (by omega)
    have hdv:(((gs.getD i g0).ms.length:Nat):Int).tdiv 2=(((gs.getD i g0).ms.length / 2:Nat):Int):=rfl
    have hw3:IntKind.i64.wrap (((gs.getD i g0).ms.length / 2:Nat):Int)=(((gs.getD i g0).ms.length / 2:Nat):Int):=w64 (by omega) (by omega)
    have hw4:IntKind.i64.wrap ((gs.getD i g0).z*(((gs.getD i g0).ms.length / 2:Nat):Int))=(gs.getD i g0).z*(((gs.getD i g0).ms.length / 2:Nat):Int):=w64 (by omega) (by omega)
    have hw5:IntKind.i64.wrap (vR ys+VQ (gs.take i)+(gs.getD i g0).z*(((gs.getD i g0).ms.length / 2:Nat):Int))=vR ys+VQ (gs.take (i+1)):=by rw[hst,w64 (by omega) (by omega)];omega
    simp only[l1,t3,t5,e1,e2,e4,e5,zI e6,hdv,hw3,hw4,hw5,hw,go_sem];exact hi1
  · have hil:i=gs.length:=by omega
    subst hil;rw[List.take_length] at t3;simp only[t3,go_sem]
open Classical in
theorem GG (hm:Rows h 1 v (zq g.ms))(hl:g.ms.length≤1048576)(hs:0≤size∧size≤9):C T X vD [zC size ev,.agg ⟨[v,.int .i64 g.z]⟩] h=some (.bool (decide (yj size g)),h):=by
  refine qH xz rfl ?_;unfold WZ zC;have hmd:((g.ms.length:Nat):Int).tmod 2=((g.ms.length%2:Nat):Int):=rfl
  have hws:IntKind.i64.wrap (size-1)=size-1:=w64 (by omega) (by omega)
  by_cases a1:(g.ms.length:Int)<3
  · have hr:¬yj size g:=fun h=>by have:=h.1.1;omega
    simp only[zI hm,a1,hr,go_sem]
  by_cases a2:((g.ms.length%2:Nat):Int)=0
  · have hr:¬yj size g:=fun h=>by have:=h.1.2.1;omega
    simp only[zI hm,hmd,a1,a2,hr,go_sem]
  by_cases a3:1≤g.z∧g.z≤1000000000
  rotate_left
  · have hr:¬yj size g:=fun h=>a3 h.1.2.2
    have a3':(decide (1≤g.z) && decide (g.z≤1000000000))=false:=by simp;omega
    simp only[zI hm,hmd,Za,a1,a2,a3',hr,go_sem]
  have a3':(decide (1≤g.z) && decide (g.z≤1000000000))=true:=by simp;omega
  simp only[zI hm,hmd,Za,a1,a2,a3',go_sem]
  refine zT g.ms.length (fun i t loc h'=>h'=h∧loc 2=some [.int .i64 size,ev]∧loc 3=some [v,.int .i64 g.z]∧t 25=v∧t 26=.int .i64 g.ms.length∧t 27=.int .i64 i∧∀j,j<i→(0≤g.ms.getD j 0∧g.ms.getD j 0≤size-1)∧(0<j→g.ms.getD (j-1) 0<g.ms.getD j 0)) ⟨rfl,rfl,rfl,rfl,rfl,rfl,fun j hj=>by omega⟩ ?_
  rintro i t loc h' hi ⟨rfl,l2,l3,t25,t26,t27,hall⟩;simp only[t26,t27,go_sem]
  refine zt (by simp only[go_sem];rfl) ?_ ?_<;>intro hc
  · have hi1:i<g.ms.length:=by omega
    have hw:IntKind.i64.wrap ((i:Int)+1)=((i+1:Nat):Int):=w64 (by omega) (by omega)
    have hel:=ZU hm hi1
    by_cases b1:0≤g.ms.getD i 0∧g.ms.getD i 0≤size-1
    rotate_left
    · have hr:¬yj size g:=fun h=>b1 (h.2 i hi1).1
      have b1':(decide (0≤g.ms.getD i 0) && decide (g.ms.getD i 0≤size-1))=false:=by simp only[Bool.and_eq_false_iff,decide_eq_false_iff_not];omega
      simp only[l2,l3,t25,t26,t27,hel.1,hel.2,Za,hws,b1',hr,go_sem]
    have b1':(decide (0≤g.ms.getD i 0) && decide (g.ms.getD i 0≤size-1))=true:=by simp only[Bool.and_eq_true,decide_eq_true_eq];exact b1
    rcases Nat.eq_zero_or_pos i with hz | hp
    · have hz':¬(0:Int)<i:=by omega
      simp only[l2,l3,t25,t26,t27,hel.1,hel.2,Za,hws,b1',hz',hw,go_sem]
      exact⟨hi1,zM hall ⟨b1,fun hp=>by omega⟩⟩
    · have hp':(0:Int)<i:=by omega
      have hw1:IntKind.i64.wrap ((i:Int)-1)=((i-1:Nat):Int):=by rw[w64 (by omega) (by omega)];omega
      have hel2:=ZU hm (show i-1<g.ms.length by omega)
      by_cases b2:g.ms.getD i 0≤g.ms.getD (i-1) 0
      · have hr:¬yj size g:=fun h=>by have:=(h.2 i hi1).2 hp;omega
        simp only[l2,l3,t25,t26,t27,hel.1,hel.2,hel2.1,hel2.2,Za,hws,b1',hp',hw1,b2,hr,go_sem]
      · simp only[l2,l3,t25,t26,t27,hel.1,hel.2,hel2.1,hel2.2,Za,hws,b1',hp',hw1,b2,hw,go_sem]
        exact⟨hi1,zM hall ⟨b1,fun hp=>by omega⟩⟩
  · have hr:yj size g:=⟨⟨by omega,by omega,a3.1,a3.2⟩,fun j hj=>hall j (by omega)⟩
    simp only[hr,go_sem]
theorem jO {a b:List Int}:gj a b↔YF b a∨FK b a∨YF a b:=Iff.rfl
theorem xa {gs:List Gp}(h1:ys.length≤9)(h2:gs.length≤8)(h3:∀j,j<ys.length→0≤ys.getD j 0∧ys.getD j 0≤1000000000)(hs:0≤size∧size≤9)(h4:∀i,i<gs.length→yj size (gs.getD i g0)):gn ys gs :=
  ⟨h3,h1,h2,fun i hi=>⟨by have:=(h4 i hi).1;omega,by have:=be (h4 i hi) hs.1;omega⟩⟩
open Classical in
theorem GB (he:Rows h 5 ev (ZF es))(hy:Rows h 1 yv (zq ys))(hg:qp h gv gs)(hl:es.length≤lim)(hb:uG ys gs):C T X vw [zC size ev,Zg yv gv] h=some (.bool (decide (ug size es ys gs)),h):=by
  have hk:=yH (X:=X) (size:=size) he hl;obtain⟨hyl,hgl,hml⟩:=hb;refine qH xw rfl ?_;unfold WW
  by_cases g1:GOk size es
  rotate_left
  · have hr:¬ug size es ys gs:=fun h=>g1 h.1.1
    unfold zC at hk;unfold zC Zg;simp only[hk,g1,hr,go_sem]
  by_cases g2:(ys.length:Int)=size
  rotate_left
  · have hr:¬ug size es ys gs:=fun h=>g2 h.1.2.1
    unfold zC at hk;unfold zC Zg;simp only[hk,g1,zI hy,g2,hr,go_sem]
  by_cases g3:(8:Int)<gs.length
  · have hr:¬ug size es ys gs:=fun h=>by have:=h.1.2.2;omega
    unfold zC at hk;unfold zC Zg;simp only[hk,g1,zI hy,hg.ln,g2,g3,hr,go_sem]
  have hs:=g1.1;unfold zC at hk;unfold zC Zg;simp only[hk,g1,zI hy,hg.ln,g2,g3,go_sem];rw[←g2]
  refine zT ys.length (fun i t loc h'=>h'=h∧loc 2=some [.int .i64 size,ev]∧loc 3=some [yv,gv]∧t 35=yv∧t 36=.int .i64 ys.length∧t 37=.int .i64 i∧∀j,j<i→0≤ys.getD j 0∧ys.getD j 0≤1000000000) ⟨rfl,by rw[g2];rfl,rfl,rfl,rfl,rfl,fun j hj=>by omega⟩ ?_
  rintro i t loc h' hi ⟨rfl,l2,l3,t35,t36,t37,hall⟩;simp only[t36,t37,go_sem]
  refine zt (by simp only[go_sem];rfl) ?_ ?_<;>intro hc
  · have hi1:i<ys.length:=by omega
    have hw:IntKind.i64.wrap ((i:Int)+1)=((i+1:Nat):Int):=w64 (by omega) (by omega)
    have hel:=ZU hy hi1
    by_cases b1:0≤ys.getD i 0∧ys.getD i 0≤1000000000
    · have b1':(decide (0≤ys.getD i 0) && decide (ys.getD i 0≤1000000000))=true:=by simp only[Bool.and_eq_true,decide_eq_true_eq];exact b1
      simp only[l2,l3,t35,t36,t37,hel.1,hel.2,Za,b1',hw,go_sem];exact⟨hi1,zM hall b1⟩
    · have hr:¬ug size es ys gs:=fun h=>b1 (h.2.1 i hi1)
      have b1':(decide (0≤ys.getD i 0) && decide (ys.getD i 0≤1000000000))=false:=by simp only[Bool.and_eq_false_iff,decide_eq_false_iff_not];omega
      rw[g2];simp only[l2,l3,t35,t36,t37,hel.1,hel.2,Za,b1',hr,go_sem]
  have hil:i=ys.length:=by omega
  subst hil;simp only[l2,l3,hg.ln,go_sem]
  refine zT gs.length (fun i t loc h2=>h2=h'∧loc 2=some [.int .i64 size,ev]∧loc 3=some [yv,gv]∧t 46=gv∧t 47=.int .i64 gs.length∧t 48=.int .i64 i∧∀j,j<i→yj size (gs.getD j g0)∧∀k,k<j→gj (gs.getD k g0).ms (gs.getD j g0).ms) ⟨rfl,rfl,rfl,rfl,rfl,rfl,fun j hj=>by omega⟩ ?_
  rintro i t loc h2 hi ⟨rfl,l2,l3,t46,t47,t48,hallG⟩;simp only[t47,t48,go_sem]
  refine zt (by simp only[go_sem];rfl) ?_ ?_<;>intro hc
  · have hi1:i<gs.length:=by omega
    have hw:IntKind.i64.wrap ((i:Int)+1)=((i+1:Nat):Int):=w64 (by omega) (by omega)
    obtain⟨x,e1,e2,e3,e4,e5,e6⟩:=hg.el hi1;have hmi:=hml _ (zE (d:=g0) hi1);have cg:=GG (X:=X) (ev:=ev) e6 hmi hs;unfold zC at cg;obtain⟨v',s1,s2⟩:=hg.sub (i:=i) hi
    by_cases b1:yj size (gs.getD i g0)
    rotate_left
    · have hr:¬ug size es ys gs:=fun h=>b1 (h.2.2.1 i hi1).1
      simp only[l2,l3,t46,t47,t48,e1,e3,e6.cells,cg,b1,g2,hr,go_sem]
    have htl:(gs.take i).length=i:=by simp;omega
    have hlt:=s2.ln;rw[htl] at hlt;simp only[l2,l3,t46,t47,t48,e1,e3,e6.cells,cg,b1,s1,hlt,go_sem]
    refine zT i (fun k t loc h3=>h3=h2∧loc 2=some [.int .i64 size,ev]∧loc 3=some [yv,gv]∧loc 8=some [x,.int .i64 (gs.getD i g0).z]∧t 46=gv∧t 47=.int .i64 gs.length∧t 48=.int .i64 i∧t 60=v'∧t 61=.int .i64 i∧t 62=.int .i64 k∧∀j,j<k→gj (gs.getD j g0).ms (gs.getD i g0).ms) ⟨rfl,rfl,rfl,rfl,rfl,rfl,rfl,rfl,rfl,rfl,fun j hj=>by omega⟩ ?_
    rintro k t loc h3 hk ⟨rfl,l2,l3,l8,t46,t47,t48,t60,t61,t62,hallN⟩;simp only[t61,t62,go_sem]
    refine zt (by simp only[go_sem];rfl) ?_ ?_<;>intro hc
    · have hk1:k<i:=by omega
      have hw2:IntKind.i64.wrap ((k:Int)+1)=((k+1:Nat):Int):=w64 (by omega) (by omega)
      obtain⟨z,f1,f2,f3,f4,f5,f6⟩:=s2.el (i:=k) (by omega)
      have hgk:(gs.take i).getD k g0=gs.getD k g0:=by simp[hk1]
      rw[hgk] at f3 f6
      have hmk:=hml _ (zE (d:=g0) (show k<gs.length by omega))
      have w1:=YJ (X:=X) e6 f6 (by unfold lim;omega) (by unfold lim;omega)
      have w2:=YJ (X:=X) f6 e6 (by unfold lim;omega) (by unfold lim;omega)
      by_cases c1:YF (gs.getD i g0).ms (gs.getD k g0).ms
      · simp only[l2,l3,l8,t46,t47,t48,t60,t61,t62,f1,f3,f6.cells,w1,w2,c1,hw2,go_sem]
        exact⟨hk1,zM hallN (jO.2 (.inl c1))⟩
      by_cases c2:FK (gs.getD i g0).ms (gs.getD k g0).ms
      · simp only[l2,l3,l8,t46,t47,t48,t60,t61,t62,f1,f3,f6.cells,w1,w2,c1,c2,hw2,go_sem]
        exact⟨hk1,zM hallN (jO.2 (.inr (.inl c2)))⟩
      by_cases c3:YF (gs.getD k g0).ms (gs.getD i g0).ms
      · simp only[l2,l3,l8,t46,t47,t48,t60,t61,t62,f1,f3,f6.cells,w1,w2,c1,c2,c3,hw2,go_sem]
        exact⟨hk1,zM hallN (jO.2 (.inr (.inr c3)))⟩
      · have hr:¬ug size es ys gs:=fun h=>by
          rcases jO.1 ((h.2.2.1 i hi1).2 k hk1) with q | q | q
          · exact c1 q
          · exact c2 q
          · exact c3 q
        simp only[l2,l3,l8,t46,t47,t48,t60,t61,t62,f1,f3,f6.cells,w1,w2,c1,c2,c3,g2,hr,go_sem]
    · have hki:k=i:=by omega
      subst hki;simp only[l2,l3,t46,t47,t48,hw,go_sem];exact⟨hi1,zM hallG ⟨b1,hallN⟩⟩
  have hig:i=gs.length:=by omega
  subst hig
  have fit:=xa (by omega) (by omega) hall hs fun i hi=>(hallG i hi).1
  simp only[l2,l3,he.lnm,go_sem]
  refine zT es.length (fun i t loc h3=>h3=h2∧loc 3=some [yv,gv]∧t 95=ev∧t 96=.int .i64 es.length∧t 97=.int .i64 i∧∀j,j<i→0≤VP ys gs (es.getD j e0)) ⟨rfl,rfl,rfl,rfl,rfl,fun j hj=>by omega⟩ ?_
  rintro i t loc h3 hi ⟨rfl,l3,t95,t96,t97,hallS⟩;simp only[t96,t97,go_sem];unfold lim at hl
  refine zt (by simp only[go_sem];rfl) ?_ ?_<;>intro hc
  · have hi1:i<es.length:=by omega
    have hw:IntKind.i64.wrap ((i:Int)+1)=((i+1:Nat):Int):=w64 (by omega) (by omega)
    have hel:=ZK he hi1;have cs:=GI (X:=X) hy hg fit (uO g1 (zE (d:=e0) hi1)) g2;unfold QN ZT Zg at cs
    by_cases b1:VP ys gs (es.getD i e0)<0
    · have hr:¬ug size es ys gs:=fun h=>by have:=h.2.2.2 i hi1;omega
      simp only[l3,t95,t96,t97,hel.1,hel.2.2.1,cs,b1,g2,hr,go_sem]
    · simp only[l3,t95,t96,t97,hel.1,hel.2.2.1,cs,b1,hw,go_sem]
      exact⟨hi1,zM hallS (by omega)⟩
  · have hr:ug size es ys gs:=⟨⟨g1,g2,by omega⟩,hall,hallG,fun j hj=>hallS j (by omega)⟩
    simp only[g2,hr,go_sem]
end
end Go.Proofs.Ytafhipglhnfgnaa.Ab
