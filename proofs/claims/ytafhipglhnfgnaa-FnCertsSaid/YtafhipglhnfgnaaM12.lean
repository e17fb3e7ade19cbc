/- Joined. No conditions. -/
import Derived.Test.YtafhipglhnfgnaaM11
set_option linter.unusedSimpArgs false
set_option linter.unusedVariables false
set_option linter.unnecessarySimpa false
set_option maxHeartbeats 4000000
namespace Go.Proofs.Ytafhipglhnfgnaa.Ab
open Go.RowKit
section
variable {es:List E}{s:Sv}{l:Lb}{rk:Nat→Nat}{e i k:Nat}{xs ys:List Nat}
theorem uY.ring (M:uY es s l rk e xs ys i k)(K:Ok es s):QJ es s (ZN xs ys i k) (qz l e xs ys i k) (xs.getD i 0):=by
  have hi:=M.hi;have hk:=M.hk;obtain⟨e1,e2⟩:=M.even K;have hlen:=ub (xs:=xs) (ys:=ys) hi hk;have hjm:xs.getD i 0∈ZN xs ys i k:=M.inM.2 (.inl ⟨i,Nat.le_refl _,rfl⟩);have hjl:=ZA M.F M.wx M.x0 i hi
  refine⟨fun m h=>(M.member h).1,hjm,?_,M.nodup,?_,?_,fun m f c h h1 h2 h3 h4=>M.mates K h h1 h2 h3 h4,fun m h hj=>?_,fun f c h1 h2 h3 h4=>?_⟩
  · rw[hlen]
    have:¬(i=0∧k=0):=by
      rintro⟨rfl,rfl⟩;exact M.ne M.joint
    omega
  · rw[hlen,dU hi hk]
  · rw[hlen]
    exact M.links K
  · -- all others have mates
    have key:∀t,l.lab t≠0→(l.lab t=1→(l.ahead t).isSome=true)→(s.mate t).isSome=true:=fun t h0 h1=>by
      have h2:=M.F.two t
      by_cases q:l.lab t=1
      · have:=h1 q
        cases ha:l.ahead t with
        | none=>rw[ha] at this;cases this
        | some o =>
          obtain⟨_,_,f,h3,_⟩:=M.F.even t o q ha;rw[h3];rfl
      · obtain⟨_,_,f,_,_,_,_,_,_,_,h3,_⟩:=M.F.odd t (by omega)
        rw[h3];rfl
    rcases M.inM.1 h with⟨j,hji,rfl⟩ | ⟨j,hjk,rfl⟩
    · have:j≠i:=fun q=>hj (by rw[q])
      have hl:=ZA M.F M.wx M.x0 j (by omega)
      exact key _ (by omega) fun _=>by rw[qf M.wx (by omega)];rfl
    · have hl:=ZA M.F M.wy M.y0 j (by omega)
      exact key _ (by omega) fun _=>by rw[qf M.wy (by omega)];rfl
  · -- the joint's mate is outside
    intro hc;have hjt:=(M.member hjm).1
    cases ha:l.ahead (xs.getD i 0) with
    | none=>rw[M.F.free _ (by omega) ha] at h1;cases h1
    | some o =>
      obtain⟨q1,q2,f',q3,q4,_⟩:=M.F.even _ o (by omega) ha
      rw[h1] at q3;cases q3
      have ho:zc s o:=M.F.top o (by omega)
      rcases K.mate2 hjt h2 ho h1 h4 q4 h3 with q | q
      · rw[q] at q1;omega
      · rw[←q] at hc
        have:=(M.member hc).2.2;omega
end
def Gh (es:List E)(s:Sv)(lab rk:Nat→Nat):Prop:=∀t,lab t=1→zc s t∧(s.mate t=none∨∃o a e f,lab o=2∧zc s o∧s.mate t=some f∧s.mate o=some f∧lab a=1∧Jn es s e a o∧Ze es s e∧rk a<rk t)
structure yk (es:List E)(s s':Sv):Prop where
  n:s'.n=s.n
  N:s.N≤s'.N
  up:∀v p,s.up v=some p→s'.up v=some p
  newp:∀v p,v<s.N→s.up v=none→s'.up v=some p→s.N≤p
  live:∀v,v<s.N→s'.gone v=s.gone v
  tight:∀e,e<es.length→Ze es s e→Ze es s' e
  mate:∀t o e,zc s t→zc s o→o≠t→s.mate t=some e→s.mate o=some e→top s' t=top s' o∨(s'.mate (top s' t)=some e∧s'.mate (top s' o)=some e)
  free:∀t,zc s t→s.mate t=none→s'.mate (top s' t)=none
  from_:∀T,zc s' T→∃t,zc s t∧top s' t=T∧s'.mate T=s.mate t∧∀o,zc s o→top s' o=T→o≠t→∃f c,s.mate o=some f∧zc s c∧c≠o∧s.mate c=some f∧top s' c=T
section
variable {es:List E}{s s' s'':Sv}{l:Lb}{rk lab:Nat→Nat}{t u v e i k:Nat}{xs ys:List Nat}
theorem Fo.gh (F:Fo es s l rk):Gh es s l.lab rk:=fun t h=>⟨F.top t (by omega),by
  cases ha:l.ahead t with
  | none=>exact .inl (F.free t h ha)
  | some o =>
    obtain⟨h1,h2,f,h3,h4,_,_⟩:=F.even t o h ha;obtain⟨a,e,f',_,_,h5,h6,_,h7,h8,h9,_⟩:=F.odd o h1;rw[h4] at h9;cases h9
    exact .inr ⟨o,a,e,f,h1,F.top o (by omega),h3,h4,h5,h7,h8,by omega⟩⟩
theorem yk.wi (P:yk es s s')(h:Wi s u v):Wi s' u v:=by
  induction h with
  | refl=>exact .refl _
  | step e _ ih=>exact .step (P.up _ _ e) ih
theorem yk.cn (P:yk es s s'){a b:Nat}(h:Jn es s e a b):Jn es s' e a b:=⟨h.1,h.2.elim (fun q=>.inl ⟨P.wi q.1,P.wi q.2⟩) fun q=>.inr ⟨P.wi q.1,P.wi q.2⟩⟩
theorem yk.topTop (P:yk es s s')(K':Ok es s')(ht:zc s t):zc s' (top s' t):=K'.topTop (Nat.lt_of_lt_of_le ht.1 P.N) (by rw[P.live t ht.1];exact ht.2.2)
theorem yk.old (P:yk es s s')(K':Ok es s')(ht:zc s t):top s' t=t∨s.N≤top s' t:=by
  have h:=ZO K'.upOk (v:=t)
  generalize hT:top s' t=T at h ⊢
  cases h with
  | refl=>exact .inl rfl
  | step e k =>
    have h1:=P.newp _ _ ht.1 ht.2.1 e;have h2:=k.le K'.upOk
    exact .inr (by omega)
theorem yk.refl (K:Ok es s):yk es s s :=
  ⟨rfl,Nat.le_refl _,fun _ _ h=>h,fun v p _ h1 h2=>(by rw[h1] at h2;cases h2),fun _ _=>rfl,fun _ _ h=>h,fun t o e ht ho _ h1 h2=>.inr ⟨(by rw[ht.top K];exact h1),(by rw[ho.top K];exact h2)⟩,fun t ht h=>(by rw[ht.top K];exact h),fun T hT=>⟨T,hT,hT.top K,rfl,fun o ho h1 h2=>absurd (by rw[←h1,ho.top K]) h2⟩⟩
theorem yk.trans (P:yk es s s')(Q:yk es s' s'')(K:Ok es s)(K':Ok es s')(K'':Ok es s''):yk es s s'':=by
  have tt:∀ {t},top s'' t=top s'' (top s' t):=fun {t}=>top_eq K''.upOk (Q.wi (ZO K'.upOk))
  refine⟨Q.n.trans P.n,Nat.le_trans P.N Q.N,fun v p h=>Q.up v p (P.up v p h),fun v p hv h1 h2=>?_,fun v hv=>(Q.live v (Nat.lt_of_lt_of_le hv P.N)).trans (P.live v hv),fun e he h=>Q.tight e he (P.tight e he h),fun t o e ht ho hne h1 h2=>?_,fun t ht h=>?_,fun T hT=>?_⟩
  · cases h3:s'.up v with
    | none=>exact Nat.le_trans P.N (Q.newp v p (Nat.lt_of_lt_of_le hv P.N) h3 h2)
    | some q =>
      have:=Q.up v q h3;rw[h2] at this;cases this;exact P.newp v p hv h1 h3
  · rw[tt (t:=t),tt (t:=o)]
    rcases P.mate t o e ht ho hne h1 h2 with q | ⟨q1,q2⟩
    · rw[q];exact .inl rfl
    · by_cases q:top s' o=top s' t
      · rw[q];exact .inl rfl
      · exact Q.mate _ _ e (P.topTop K' ht) (P.topTop K' ho) q q1 q2
  · rw[tt]
    exact Q.free _ (P.topTop K' ht) (P.free t ht h)
  · obtain⟨T1,q1,q2,q3,q4⟩:=Q.from_ T hT
    obtain⟨t,p1,p2,p3,p4⟩:=P.from_ T1 q1
    refine⟨t,p1,by rw[tt,p2,q2],by rw[q3,p3],fun o ho h1 h2=>?_⟩
    have h1':top s'' (top s' o)=T:=by rw[←tt];exact h1
    by_cases c:top s' o=T1
    · obtain⟨f,c2,i1,i2,i3,i4,i5⟩:=p4 o ho c h2
      exact⟨f,c2,i1,i2,i3,i4,by rw[tt,i5,q2]⟩
    · have hO:=P.topTop K' ho
      obtain⟨f,C,i1,i2,i3,i4,i5⟩:=q4 _ hO h1' c;obtain⟨tO,r1,r2,r3,r4⟩:=P.from_ _ hO
      by_cases c3:o=tO
      · rw[r3,←c3] at i1
        obtain⟨_,c2,j1,j2,j3,_⟩:=K.mate o f ho i1;refine⟨f,c2,i1,j1,j2,j3,?_⟩;rw[tt];rcases P.mate o c2 f ho j1 j2 i1 j3 with g | ⟨g1,g2⟩
        · rw[←g];exact h1'
        · rcases K'.mate2 hO i2 (P.topTop K' j1) g1 i4 g2 i3 with g | g
          · rw[g];exact h1'
          · rw[g];exact i5
      · obtain⟨f2,c2,j1,j2,j3,j4,j5⟩:=r4 o ho rfl c3
        exact⟨f2,c2,j1,j2,j3,j4,by rw[tt,j5];exact h1'⟩
theorem X4 {l' : Lb} {rk' : Nat → Nat} (K : Ok es s) (K' : Ok es s') (P : yk es s s') (F' : Fo es s' l' rk') (S : VF es s' l') (G : Gh es s lab rk) (New : ∀ R, s.N ≤ R → zc s' R → l'.lab R = 1) :
    ∀(n t:Nat),rk t<n→lab t=1→l'.lab (top s' t)=1∧∃t',lab t'=1∧rk t'≤rk t∧top s' t'=top s' t∧s'.mate (top s' t)=s.mate t':=by
  intro n
  induction n with
  | zero=>intro t h;omega
  | succ n ih =>
    intro t hn h1;obtain⟨ht,hc⟩:=G t h1;have hT:=P.topTop K' ht;rcases hc with hc | ⟨o,a,e,f,h2,ho,h3,h4,h5,h6,h7,h8⟩
    · have:=P.free t ht hc
      exact⟨(F'.root _ hT this).1,t,h1,Nat.le_refl _,rfl,by rw[this,hc]⟩
    · obtain⟨i1,a',i2,i3,i4,i5⟩:=ih a (by omega) h5
      have ha:=(G a h5).1
      have hot:o≠t:=fun q=>by rw[q] at h2;omega
      have hA:=P.topTop K' ha;have hO:=P.topTop K' ho
      by_cases c1:top s' o=top s' a
      · by_cases c2:top s' t=top s' a
        · rw[c2]
          exact⟨i1,a',i2,by omega,i4,i5⟩
        · exfalso
          rcases P.mate t o f ht ho hot h3 h4 with q | ⟨q1,q2⟩
          · exact c2 (q.trans c1)
          · rw[c1,i5] at q2
            rcases K.mate2 ht ho (G a' i2).1 h3 h4 q2 hot with q | q
            · rw[q] at i3;omega
            · rw[q] at i2;omega
      · have hcn:=(P.cn h6).wide (ZO K'.upOk) (ZO K'.upOk)
        have hO2:=S e _ _ h6.1 (P.tight e h6.1 h7) hcn hA hO (Ne.symm c1) i1
        by_cases c2:top s' t=top s' o
        · exfalso
          have hnew:s.N≤top s' o:=by
            rcases P.old K' ho with q | q
            · rcases P.old K' ht with q' | q'
              · exact absurd (q.symm.trans (c2.symm.trans q')) hot
              · rw[c2] at q';exact q'
            · exact q
          have:=New _ hnew hO;omega
        · rcases P.mate t o f ht ho hot h3 h4 with q | ⟨q1,q2⟩
          · exact absurd q c2
          · obtain⟨_,_,f',c,_,_,_,_,_,_,j1,j2,j3,_⟩:=F'.odd _ hO2
            rw[q2] at j1;cases j1
            have hcT:zc s' c:=F'.top c (by omega)
            rcases K'.mate2 hO hT hcT q2 q1 j2 c2 with q | q
            · rw[q] at j3;omega
            · rw[q] at j3
              exact⟨j3,t,h1,Nat.le_refl _,rfl,by rw[q1,h3]⟩
variable {ms ls:List Nat}{j:Nat}
theorem V8 (K:Ok es s)(R:QJ es s ms ls j)(ht:zc s t):top (zU s ms ls j) t=if t∈ms then s.N else t:=by
  have K':=yu K R
  by_cases h:t∈ms
  · rw[if_pos h]
    exact Zo K'.upOk (KY K R h) ((Z3 K R).2 (.inl rfl)).2.1
  · rw[if_neg h]
    exact ((Z3 K R).2 (.inr ⟨ht,h⟩)).top K'
theorem Ur (R:QJ es s ms ls j):(zU s ms ls j).mate s.N=s.mate j∧∀t,t≠s.N→¬t∈ms→(zU s ms ls j).mate t=s.mate t :=
  ⟨by simp[zU],fun t h1 h2=>by simp only[zU];rw[if_neg h1,if_neg h2]⟩
theorem Dt (K:Ok es s)(R:QJ es s ms ls j):yk es s (zU s ms ls j):=by
  obtain⟨m1,m2⟩:=Ur R
  refine⟨rfl,Nat.le_succ _,fun v p h=>?_,fun v p hv h1 h2=>?_,fun v hv=>?_,fun e he h=>by unfold Ze at *;rw[Fv K R he];exact h,fun t o e ht ho hne h1 h2=>?_,fun t ht h=>?_,fun T hT=>?_⟩
  · have hv:=K.upOk v p h
    simp only[zU]
    rw[if_neg (fun q=>by have:=(R.top _ q).2.1;rw[h] at this;cases this),if_neg (by omega)]
    exact h
  · simp only[zU] at h2
    by_cases q:v∈ms
    · rw[if_pos q] at h2;cases h2;exact Nat.le_refl _
    · rw[if_neg q,if_neg (by omega),h1] at h2;cases h2
  · simp only[zU];rw[if_neg (by omega)]
  · rw[V8 K R ht,V8 K R ho]
    have ntN:t≠s.N:=by have:=ht.1;omega
    have noN:o≠s.N:=by have:=ho.1;omega
    by_cases q1:t∈ms
    · by_cases q2:o∈ms
      · rw[if_pos q1,if_pos q2];exact .inl rfl
      · have:t=j:=by
          apply Classical.byContradiction
          intro q;exact q2 (R.mates t e o q1 q h1 ho h2)
        rw[if_pos q1,if_neg q2,m1,m2 o noN q2,←this];exact .inr ⟨h1,h2⟩
    · by_cases q2:o∈ms
      · have:o=j:=by
          apply Classical.byContradiction
          intro q;exact q1 (R.mates o e t q2 q h2 ht h1)
        rw[if_neg q1,if_pos q2,m1,m2 t ntN q1,←this];exact .inr ⟨h1,h2⟩
      · rw[if_neg q1,if_neg q2,m2 t ntN q1,m2 o noN q2]
        exact .inr ⟨h1,h2⟩
  · rw[V8 K R ht]
    by_cases q:t∈ms
    · rw[if_pos q,m1]
      by_cases q2:t=j
      · rw[←q2];exact h
      · have:=R.full t q q2
        rw[h] at this;cases this
    · rw[if_neg q,m2 t (by have:=ht.1;omega) q];exact h
  · rcases (Z3 K R).1 hT with rfl | ⟨hT,hn⟩
    · have hj:=R.top _ R.jm
      refine⟨j,hj,by rw[V8 K R hj,if_pos R.jm],m1,fun o ho h1 h2=>?_⟩
      have hom:o∈ms:=by
        apply Classical.byContradiction
        intro q;rw[V8 K R ho,if_neg q] at h1;have:=ho.1;omega
      have hf:=R.full o hom h2
      cases hm:s.mate o with
      | none=>rw[hm] at hf;cases hf
      | some f =>
        obtain⟨_,c,i1,i2,i3,_⟩:=K.mate o f ho hm;have hc:=R.mates o f c hom h2 hm i1 i3
        exact⟨f,c,rfl,i1,i2,i3,by rw[V8 K R i1,if_pos hc]⟩
    · refine⟨T,hT,by rw[V8 K R hT,if_neg hn],m2 T (by have:=hT.1;omega) hn,fun o ho h1 h2=>?_⟩
      rw[V8 K R ho] at h1;split at h1
      · have:=hT.1;omega
      · exact absurd h1 h2
open Classical in
theorem zcp (M:uY es s l rk e xs ys i k)(K:Ok es s):∃lab' rk':Nat→Nat,Gh es (zU s (ZN xs ys i k) (qz l e xs ys i k) (xs.getD i 0)) lab' rk'∧lab' s.N=1:=by
  have R:=M.ring K;obtain⟨m1,m2⟩:=Ur R;obtain⟨j,hj⟩:∃j,j=xs.getD i 0:=⟨_,rfl⟩
  have hjl:l.lab j=1:=by
    have:=ZA M.F M.wx M.x0 i M.hi;have:=(M.even K).1;rw[hj];omega
  have hrk:∀m∈ZN xs ys i k,rk j≤rk m:=fun m h=>by rw[hj];exact (M.member h).2.2
  rw[←hj] at R m1 m2 ⊢
  have nN:∀t,zc s t→t≠s.N:=fun t h q=>by have:=h.1;omega
  have nM:∀t,rk t<rk j→¬t∈ZN xs ys i k:=fun t h q=>by have:=hrk t q;omega
  refine⟨fun t=>if t=s.N then 1 else if t∈ZN xs ys i k then 0 else if rk t<rk j then l.lab t else 0,fun t=>if t=s.N then rk j else rk t,?_,by simp⟩
  have step:∀t o,l.lab t=1→l.ahead t=some o→rk t≤rk j→∃a e f,s.mate t=some f∧zc s o∧l.lab o=2∧rk o<rk j∧s.mate o=some f∧l.lab a=1∧Jn es s e a o∧Ze es s e∧rk a<rk t∧rk a<rk j:=fun t o h1 ha hr=>by
    obtain⟨q1,q2,f,q3,q4,_,_⟩:=M.F.even t o h1 ha;obtain⟨a,e,f',_,_,p1,p2,_,p3,p4,p5,_⟩:=M.F.odd o q1
    exact⟨a,e,f,q3,M.F.top o (by omega),q1,by omega,q4,p1,p3,p4,by omega,by omega⟩
  intro t h
  have fin:∀(t':Nat) (T:Nat),l.lab t'=1→rk t'≤rk j→(zU s (ZN xs ys i k) (qz l e xs ys i k) j).mate T=s.mate t'→((zU s (ZN xs ys i k) (qz l e xs ys i k) j).mate T=none∨∃o a e_1 f,(if o=s.N then 1 else if o∈ZN xs ys i k then 0 else if rk o<rk j then l.lab o else 0)=2∧zc (zU s (ZN xs ys i k) (qz l e xs ys i k) j) o∧(zU s (ZN xs ys i k) (qz l e xs ys i k) j).mate T=some f∧(zU s (ZN xs ys i k) (qz l e xs ys i k) j).mate o=some f∧(if a=s.N then 1 else if a∈ZN xs ys i k then 0 else if rk a<rk j then l.lab a else 0)=1∧Jn es (zU s (ZN xs ys i k) (qz l e xs ys i k) j) e_1 a o∧Ze es (zU s (ZN xs ys i k) (qz l e xs ys i k) j) e_1∧(if a=s.N then rk j else rk a)<rk t'):=fun t' T h1 hr hm=>by
    cases ha:l.ahead t' with
    | none =>
      left;rw[hm];exact M.F.free t' h1 ha
    | some o =>
      obtain⟨a,e',f,q1,q2,q3,q4,q5,q6,q7,q8,q9,q10⟩:=step t' o h1 ha hr
      have ta:zc s a:=M.F.top a (by omega)
      refine .inr ⟨o,a,e',f,?_,(Z3 K R).2 (.inr ⟨q2,nM o q4⟩),by rw[hm];exact q1,?_,?_,JJ K R q7,ue K R q7 q8,?_⟩
      · rw[if_neg (nN o q2),if_neg (nM o q4),if_pos q4];exact q3
      · rw[m2 o (nN o q2) (nM o q4)];exact q5
      · rw[if_neg (nN a ta),if_neg (nM a q10),if_pos q10];exact q6
      · rw[if_neg (nN a ta)];exact q9
  by_cases hN:t=s.N
  · subst hN
    refine⟨(Z3 K R).2 (.inl rfl),?_⟩;have:=fin j s.N hjl (Nat.le_refl _) m1;simp only[if_true] at this ⊢;exact this
  · simp only[if_neg hN] at h ⊢
    by_cases hm:t∈ZN xs ys i k
    · rw[if_pos hm] at h;omega
    · rw[if_neg hm] at h
      by_cases hr:rk t<rk j
      · rw[if_pos hr] at h
        have tt:zc s t:=M.F.top t (by omega)
        refine⟨(Z3 K R).2 (.inr ⟨tt,hm⟩),?_⟩;exact fin t t h (Nat.le_of_lt hr) (m2 t hN hm)
      · rw[if_neg hr] at h;omega
inductive Ue (es:List E):Sv→Sv→Prop
  | refl (s:Sv):Ue es s s
  | step {s s':Sv} {l:Lb} {rk:Nat→Nat} {e i k:Nat} {xs ys:List Nat} (M:uY es s l rk e xs ys i k) (h:Ue es (zU s (ZN xs ys i k) (qz l e xs ys i k) (xs.getD i 0)) s'):Ue es s s'
theorem wW {s s':Sv}(h:Ue es s s'):Ok es s→Ok es s'∧yk es s s':=by
  induction h with
  | refl s=>exact fun K=>⟨K,yk.refl K⟩
  | step M h ih =>
    intro K;have R:=M.ring K;have K1:=yu K R;obtain⟨K2,P2⟩:=ih K1;exact⟨K2,(Dt K R).trans P2 K K1 K2⟩
theorem JM {s s':Sv}{l':Lb}{rk':Nat→Nat}(h:Ue es s s'):Ok es s→Fo es s' l' rk'→VF es s' l'→∀R,s.N≤R→zc s' R→l'.lab R=1:=by
  induction h with
  | refl s=>intro _ _ _ R h1 h2;have:=h2.1;omega
  | step M h ih =>
    intro K F' S R0 h1 h2;have R:=M.ring K;have K1:=yu K R;obtain⟨K2,P2⟩:=wW h K1;have N1:=ih K1 F' S
    rename_i s s' l rk e i k xs ys
    by_cases q:R0=s.N
    · obtain⟨lab,rk1,G,hl⟩:=zcp M K
      have:=(X4 K1 K2 P2 F' S G N1 _ s.N (Nat.lt_succ_self _) hl).1;rw[←q,h2.top K2] at this;exact this
    · exact N1 R0 (by show s.N+1≤R0;omega) h2
end
structure Ok0 (es:List E)(T:Nat→Prop)(s:Sv):Prop where
  nN:s.n≤s.N
  ed:∀e,e<es.length→vA es e<s.n∧vB es e<s.n∧vA es e≠vB es e
  up:∀v p,s.up v=some p→v<p∧zg s p∧s.gone v=false∧v∈s.mem p
  ring:∀p,zg s p→3≤(s.mem p).length∧(s.mem p).length%2=1∧(s.mem p).Nodup∧∀v∈s.mem p,s.up v=some p
  lnk:∀p,zg s p→(s.lnk p).length=(s.mem p).length∧∀j,j<(s.mem p).length→Jn es s ((s.lnk p).getD j 0) ((s.mem p).getD j 0) ((s.mem p).getD ((j+1)%(s.mem p).length) 0)∧T ((s.lnk p).getD j 0)
  gone:∀p,s.gone p=true→s.n≤p∧s.up p=none
  mate:∀t e,zc s t→s.mate t=some e→T e∧∃o,zc s o∧o≠t∧s.mate o=some e∧Jn es s e t o
  base:∀t,t<s.N→s.gone t=false→s.base t<s.n∧Wi s (s.base t) t
  baseM:∀p,zg s p→∃j∈s.mem p,s.base p=s.base j
theorem Ok.ok0 {es:List E}{s:Sv}(K:Ok es s):Ok0 es (Ze es s) s:=⟨K.nN,K.ed,K.up,K.ring,K.lnk,K.gone,K.mate,K.base,K.baseM⟩
theorem Ok0.ok {es:List E}{T:Nat→Prop}{s:Sv}(K:Ok0 es T s)(hT:∀e,e<es.length→T e→Ze es s e)(feas:∀e,e<es.length→0≤slk es s e)(z0:∀p,zg s p→0≤s.z p∧s.z p%2=0)(par:∀p u v,zg s p→u<s.n→v<s.n→Wi s u p→Wi s v p→s.y u%2=s.y v%2):Ok es s :=
  ⟨K.nN,K.ed,K.up,K.ring,fun p hp=>⟨(K.lnk p hp).1,fun j hj=>⟨((K.lnk p hp).2 j hj).1,hT _ ((K.lnk p hp).2 j hj).1.1 ((K.lnk p hp).2 j hj).2⟩⟩,K.gone,fun t e ht hm=>by
    obtain⟨h1,o,h2,h3,h4,h5⟩:=K.mate t e ht hm
    exact⟨hT e h5.1 h1,o,h2,h3,h4,h5⟩,K.base,K.baseM,feas,z0,par⟩
def dst (n a q:Nat):Nat:=if a≤q then q-a else q+n-a
def nx (n q:Nat):Nat:=if q+1=n then 0 else q+1
def pv (n q:Nat):Nat:=if q=0 then n-1 else q-1
theorem Fm {n q:Nat}(h:q<n):(q+1)%n=nx n q:=by
  unfold nx
  by_cases e:q+1=n
  · rw[if_pos e,e,Nat.mod_self]
  · rw[if_neg e,Nat.mod_eq_of_lt (by omega)]
def opM (s:Sv)(B a q:Nat):Option Nat :=
  if dst (s.mem B).length a q=0 then s.mate B else if dst (s.mem B).length a q%2=1 then some ((s.lnk B).getD q 0) else some ((s.lnk B).getD (pv (s.mem B).length q) 0)
def zr (s:Sv)(B a:Nat):Sv where
  n:=s.n
  N:=s.N
  y:=s.y
  up:=fun v=>if v∈s.mem B then none else s.up v
  mem:=s.mem
  lnk:=s.lnk
  mate:=fun t=>if t∈s.mem B then opM s B a ((s.mem B).idxOf t) else s.mate t
  base:=s.base
  z:=s.z
  gone:=fun p=>if p=B then true else s.gone p
section
variable {es:List E}{T:Nat→Prop}{s:Sv}{B a u v t p e q:Nat}
theorem Ok0.upOk (k:Ok0 es T s):uh s:=fun v p h=>⟨(k.up v p h).1,(k.up v p h).2.1.2.1⟩
theorem Ok0.memUp (K:Ok0 es T s)(hB:zg s B)(hm:v∈s.mem B):s.up v=some B∧v<B∧v<s.N∧s.gone v=false:=by
  have h:=(K.ring B hB).2.2.2 v hm;obtain⟨h1,h2,h3,_⟩:=K.up v B h
  exact⟨h,h1,by have:=h2.2.1;omega,h3⟩
theorem Q7 (K:Ok0 es T s)(hB:zg s B)(ht:s.up B=none):Wi (zr s B a) u v↔Wi s u v∧(v=B→u=B):=by
  have hBm:¬B∈s.mem B:=fun q=>by have:=(K.memUp hB q).2.1;omega
  constructor
  · intro h
    induction h with
    | refl=>exact⟨.refl _,fun q=>q⟩
    | step e k ih =>
      rename_i x y w
      simp only[zr] at e
      by_cases hm:x∈s.mem B
      · rw[if_pos hm] at e;cases e
      · rw[if_neg hm] at e
        refine⟨.step e ih.1,fun q=>?_⟩
        have hy:=ih.2 q;subst hy;exact absurd ((K.up _ _ e).2.2.2) hm
  · rintro⟨h,hv⟩
    induction h with
    | refl=>exact .refl _
    | step e k ih =>
      rename_i x y w
      by_cases hw:w=B
      · have:=hv hw
        subst this;rw[ht] at e;cases e
      · refine .step ?_ (ih fun q=>absurd q hw)
        simp only[zr]
        rw[if_neg (fun hm=>?_)]
        · exact e
        · have:=(K.memUp hB hm).1
          rw[e] at this;cases this;exact hw (k.top_eq ht)
theorem vj (K:Ok0 es T s)(hB:zg s B)(ht:s.up B=none){x w:Nat}(h:Jn es s e x w)(hx:x≠B)(hw:w≠B):Jn es (zr s B a) e x w :=
  ⟨h.1,h.2.elim (fun q=>.inl ⟨(Q7 K hB ht).2 ⟨q.1,fun q=>absurd q hx⟩,(Q7 K hB ht).2 ⟨q.2,fun q=>absurd q hw⟩⟩) fun q=>.inr ⟨(Q7 K hB ht).2 ⟨q.1,fun q=>absurd q hx⟩,(Q7 K hB ht).2 ⟨q.2,fun q=>absurd q hw⟩⟩⟩
theorem ZQ:zg (zr s B a) p↔zg s p∧p≠B:=by
  unfold zg;simp only[zr]
  by_cases q:p=B
  · rw[if_pos q]
    exact⟨fun h=>(by cases h.2.2),fun h=>absurd q h.2⟩
  · rw[if_neg q]
    exact⟨fun h=>⟨h,q⟩,fun h=>h.1⟩
theorem Zy (K:Ok0 es T s)(hB:zg s B):zc (zr s B a) t↔(zc s t∧t≠B)∨t∈s.mem B:=by
  have hBm:¬B∈s.mem B:=fun q=>by have:=(K.memUp hB q).2.1;omega
  constructor
  · rintro⟨h1,h2,h3⟩
    simp only[zr] at h1 h2 h3
    by_cases hm:t∈s.mem B
    · exact .inr hm
    · rw[if_neg hm] at h2
      by_cases q:t=B
      · rw[if_pos q] at h3;cases h3
      · rw[if_neg q] at h3
        exact .inl ⟨⟨h1,h2,h3⟩,q⟩
  · rintro (⟨⟨h1,h2,h3⟩,hq⟩ | hm)
    · have hm:¬t∈s.mem B:=fun q=>by have:=(K.memUp hB q).1;rw[h2] at this;cases this
      refine⟨h1,?_,?_⟩
      · simp only[zr];rw[if_neg hm];exact h2
      · simp only[zr];rw[if_neg hq];exact h3
    · obtain⟨h1,h2,h3,h4⟩:=K.memUp hB hm
      refine⟨h3,?_,?_⟩
      · simp only[zr];rw[if_pos hm]
      · simp only[zr];rw[if_neg (fun (q:t=B)=>by subst q;exact hBm hm)];exact h4
theorem Yg (hm:t∈s.mem B):(s.mem B).idxOf t<(s.mem B).length∧(s.mem B).getD ((s.mem B).idxOf t) 0=t:=by
  have h:=List.idxOf_lt_length_iff.2 hm;refine⟨h,?_⟩;rw[List.getD_eq_getElem?_getD,List.getElem?_eq_getElem h,Option.getD_some,List.getElem_idxOf h]
theorem JP (K:Ok0 es T s)(hB:zg s B)(hq:q<(s.mem B).length):(s.mem B).idxOf ((s.mem B).getD q 0)=q:=by
  have e:(s.mem B).getD q 0=(s.mem B)[q]:=by simp[List.getD,hq]
  rw[e];exact (K.ring B hB).2.2.1.idxOf_getElem q hq
theorem Qd (K:Ok0 es T s)(hB:zg s B)(hq:q<(s.mem B).length):(zr s B a).mate ((s.mem B).getD q 0)=opM s B a q:=by
  simp only[zr];rw[if_pos (zw hq),JP K hB hq]
def YQ (es:List E)(s:Sv)(B m:Nat):Prop:=(∀e o,s.mate B=some e→zc s o→o≠B→s.mate o=some e→Jn es s e B o→Jn es s e m o)∧(s.mate B=none→Wi s (s.base B) m)
theorem Uv (K:Ok0 es T s)(hB:zg s B)(ht:s.up B=none)(ha:a<(s.mem B).length)(hh:YQ es s B ((s.mem B).getD a 0)):Ok0 es T (zr s B a):=by
  have hBm:¬B∈s.mem B:=fun q=>by have:=(K.memUp hB q).2.1;omega
  obtain⟨r1,r2,r3,r4⟩:=K.ring B hB;obtain⟨k1,k2⟩:=K.lnk B hB;have hBT:zc s B:=⟨hB.2.1,ht,hB.2.2⟩;obtain⟨n,hn⟩:∃n,n=(s.mem B).length:=⟨_,rfl⟩
  have memNe:∀q,q<n→(s.mem B).getD q 0≠B:=fun q hq e=>by
    have h:=zw (l:=s.mem B) (i:=q) (by omega)
    rw[e] at h;exact hBm h
  refine⟨K.nN,K.ed,fun v p h=>?_,fun p hp=>?_,fun p hp=>?_,fun p hp=>?_,fun t e htt hm=>?_,fun t h1 h2=>?_,fun p hp=>?_⟩
  · simp only[zr] at h
    by_cases hm:v∈s.mem B
    · rw[if_pos hm] at h;cases h
    · rw[if_neg hm] at h
      obtain⟨h1,h2,h3,h4⟩:=K.up v p h
      have hp:p≠B:=fun q=>hm (q▸h4)
      have hv:v≠B:=fun q=>by rw[q,ht] at h;cases h
      exact⟨h1,ZQ.2 ⟨h2,hp⟩,by simp only[zr];rw[if_neg hv];exact h3,h4⟩
  · obtain⟨hp,hpB⟩:=ZQ.1 hp
    obtain⟨h1,h2,h3,h4⟩:=K.ring p hp
    refine⟨h1,h2,h3,fun v hv=>?_⟩
    have:=h4 v hv;simp only[zr]
    rw[if_neg (fun hm=>by rw[(K.memUp hB hm).1] at this;cases this;exact hpB rfl)]
    exact this
  · obtain⟨hp,hpB⟩:=ZQ.1 hp
    obtain⟨h1,h2⟩:=K.lnk p hp
    refine⟨h1,fun j hj=>⟨?_,(h2 j hj).2⟩⟩
    have mne:∀q,q<(s.mem p).length→(s.mem p).getD q 0≠B:=fun q hq e=>by
      have:=(K.memUp hp (zw hq)).1;rw[e,ht] at this;cases this
    exact vj K hB ht (h2 j hj).1 (mne j hj) (mne _ (Nat.mod_lt _ (by omega)))
  · simp only[zr] at hp ⊢
    by_cases q:p=B
    · subst q
      exact⟨hB.1,by rw[if_neg hBm];exact ht⟩
    · rw[if_neg q] at hp
      obtain⟨h1,h2⟩:=K.gone p hp;refine⟨h1,?_⟩
      rw[if_neg (fun hm=>by rw[(K.memUp hB hm).1] at h2;cases h2)]
      exact h2
  · -- mates
    have ho:∀o,zc s o→¬o∈s.mem B:=fun o h q=>by have:=(K.memUp hB q).1;rw[h.2.1] at this;cases this
    have mo:∀o,zc s o→(zr s B a).mate o=s.mate o:=fun o h=>by simp only[zr];rw[if_neg (ho o h)]
    rcases (Zy K hB).1 htt with⟨h1,h2⟩ | hm2
    · rw[mo t h1] at hm
      obtain⟨i1,o,i2,i3,i4,i5⟩:=K.mate t e h1 hm;refine⟨i1,?_⟩
      by_cases q:o=B
      · subst q
        have hc:=hh.1 e t i4 h1 h2 hm i5.symm
        refine⟨(s.mem o).getD a 0,(Zy K hB).2 (.inr (zw ha)),fun q=>ho t h1 (q▸zw ha),?_,vj K hB ht hc.symm h2 (memNe a (by omega))⟩
        rw[Qd K hB ha];unfold opM dst;rw[if_pos (Nat.le_refl _),Nat.sub_self,if_pos rfl];exact i4
      · exact⟨o,(Zy K hB).2 (.inl ⟨i2,q⟩),i3,by rw[mo o i2];exact i4,vj K hB ht i5 h2 q⟩
    · obtain⟨hq,hqt⟩:=Yg hm2
      obtain⟨q,hqe⟩:∃q,q=(s.mem B).idxOf t:=⟨_,rfl⟩;rw[←hqe] at hq hqt;subst hqt;rw[Qd K hB hq] at hm;unfold opM at hm;rw[←hn] at hm ha hq r1 r2 k2
      by_cases d0:dst n a q=0
      · rw[if_pos d0] at hm
        have hqa:q=a:=by unfold dst at d0;split at d0<;>omega
        subst hqa;obtain⟨i1,o,i2,i3,i4,i5⟩:=K.mate B e hBT hm;have hc:=hh.1 e o hm i2 i3 i4 i5
        exact⟨i1,o,(Zy K hB).2 (.inl ⟨i2,i3⟩),fun k=>ho o i2 (k▸zw (by omega)),by rw[mo o i2];exact i4,vj K hB ht hc (memNe q hq) i3⟩
      · rw[if_neg d0] at hm
        have hdl:dst n a q<n:=by unfold dst;split<;>omega
        have nne:∀x w,x<n→w<n→x≠w→(s.mem B).getD x 0≠(s.mem B).getD w 0:=fun x w hx hw hxw e=>hxw (by rw[←JP K hB (by omega:x<(s.mem B).length),←JP K hB (by omega:w<(s.mem B).length),e])
        by_cases d1:dst n a q%2=1
        · rw[if_pos d1] at hm
          cases hm;obtain⟨l1,l2⟩:=k2 q hq;rw[Fm hq] at l1
          have hnx:nx n q<n:=by unfold nx;split<;>omega
          have hd:dst n a (nx n q)=dst n a q+1:=by
            unfold dst nx at *
            split at d1<;>split at hdl<;>(try omega)<;>(repeat' split)<;>omega
          refine⟨l2,(s.mem B).getD (nx n q) 0,(Zy K hB).2 (.inr (zw (by omega))),nne _ _ hnx hq (fun k=>by rw[k] at hd;omega),?_,vj K hB ht l1 (memNe q hq) (memNe _ hnx)⟩
          rw[Qd K hB (by omega)]
          unfold opM
          rw[←hn,hd,if_neg (by omega),if_neg (by omega)]
          have:pv n (nx n q)=q:=by unfold pv nx;split<;>split<;>omega
          rw[this]
        · rw[if_neg d1] at hm
          cases hm
          have hpv:pv n q<n:=by unfold pv;split<;>omega
          obtain⟨l1,l2⟩:=k2 (pv n q) hpv
          have hnp:nx n (pv n q)=q:=by unfold pv nx;split<;>split<;>omega
          rw[Fm hpv,hnp] at l1
          have hd:dst n a (pv n q)+1=dst n a q:=by
            unfold dst pv at *
            (repeat' split)<;>(repeat' split at d0)<;>omega
          refine⟨l2,(s.mem B).getD (pv n q) 0,(Zy K hB).2 (.inr (zw (by omega))),nne _ _ hpv hq (fun k=>by rw[k] at hd;omega),?_,vj K hB ht l1.symm (memNe q hq) (memNe _ hpv)⟩
          rw[Qd K hB (by omega)]
          unfold opM
          rw[←hn,if_neg (by omega),if_pos (by omega)]
  · simp only[zr] at h1 h2
    by_cases q:t=B
    · rw[if_pos q] at h2;cases h2
    · rw[if_neg q] at h2
      obtain⟨i1,i2⟩:=K.base t h1 h2
      exact⟨i1,(Q7 K hB ht).2 ⟨i2,fun k=>absurd k q⟩⟩
  · obtain⟨hp,_⟩:=ZQ.1 hp
    exact K.baseM p hp
theorem fk {s s':Sv}{a b:Nat}:∀k,(∀p,p<k→((s.n≤p∧Wi s a p∧Wi s b p)∧(s'.n≤p∧Wi s' a p∧Wi s' b p)∧s.z p=s'.z p)∨(¬(s.n≤p∧Wi s a p∧Wi s b p)∧¬(s'.n≤p∧Wi s' a p∧Wi s' b p))∨(s.z p=0∧¬(s'.n≤p∧Wi s' a p∧Wi s' b p)))→qJ s a b k=qJ s' a b k
  | 0,_=>rfl
  | k+1,h=>by
    have ih:=fk (s:=s) (s':=s') k fun p hp=>h p (by omega)
    unfold qJ;rw[ih]
    congr 1
    rcases h k (Nat.lt_succ_self _) with⟨h1,h2,h3⟩ | ⟨h1,h2⟩ | ⟨h1,h2⟩
    · rw[if_pos h1,if_pos h2,h3]
    · rw[if_neg h1,if_neg h2]
    · rw[if_neg h2,h1]
      split<;>rfl
theorem xn (K:Ok0 es T s)(hB:zg s B)(ht:s.up B=none)(hz:s.z B=0)(he:e<es.length):slk es (zr s B a) e=slk es s e:=by
  have h1:=K.ed e he;have hn:=hB.1
  have hne:∀x,x<s.n→∀p,(Wi (zr s B a) x p↔Wi s x p∧p≠B):=fun x hx p=>by
    rw[Q7 K hB ht]
    exact⟨fun q=>⟨q.1,fun k=>by have:=q.2 k;omega⟩,fun q=>⟨q.1,fun k=>absurd k q.2⟩⟩
  have hs:qJ s (vA es e) (vB es e) s.N=qJ (zr s B a) (vA es e) (vB es e) s.N:=by
    refine fk _ fun p hp=>?_
    rw[hne _ h1.1,hne _ h1.2.1]
    by_cases q:p=B
    · subst q
      exact .inr (.inr ⟨hz,fun k=>k.2.1.2 rfl⟩)
    · by_cases c:s.n≤p∧Wi s (vA es e) p∧Wi s (vB es e) p
      · exact .inl ⟨c,⟨c.1,⟨c.2.1,q⟩,c.2.2,q⟩,rfl⟩
      · exact .inr (.inl ⟨c,fun k=>c ⟨k.1,k.2.1.1,k.2.2.1⟩⟩)
  unfold slk;show s.y _+s.y _-_+qJ (zr s B a) _ _ s.N=_;rw[←hs]
theorem Ym (K:Ok es s)(hB:zg s B)(ht:s.up B=none)(hz:s.z B=0)(ha:a<(s.mem B).length)(hh:YQ es s B ((s.mem B).getD a 0)):Ok es (zr s B a):=by
  have K0:=K.ok0
  refine (Uv K0 hB ht ha hh).ok (fun e he h=>?_) (fun e he=>?_) (fun p hp=>K.z0 p (ZQ.1 hp).1) (fun p u v hp hu hv h1 h2=>?_)
  · unfold Ze at *;rw[xn K0 hB ht hz he];exact h
  · rw[xn K0 hB ht hz he];exact K.feas e he
  · exact K.par p u v (ZQ.1 hp).1 hu hv ((Q7 K0 hB ht).1 h1).1 ((Q7 K0 hB ht).1 h2).1
end
def sg (x:Nat):Int:=if x=1 then 1 else if x=2 then -1 else 0
open Classical in
noncomputable def zx (s:Sv)(l:Lb)(d:Int):Sv where
  n:=s.n
  N:=s.N
  y:=fun v=>s.y v-sg (l.lab (top s v))*d
  up:=s.up
  mem:=s.mem
  lnk:=s.lnk
  mate:=s.mate
  base:=s.base
  z:=fun p=>if zc s p∧s.n≤p then s.z p+2*(sg (l.lab p)*d) else s.z p
  gone:=s.gone
section
variable {es:List E}{s:Sv}{l:Lb}{rk:Nat→Nat}{d:Int}{u v t e p a b:Nat}
theorem ZC:Wi (zx s l d) u v↔Wi s u v:=by
  constructor
  · intro h
    induction h with
    | refl=>exact .refl _
    | step e _ ih=>exact .step e ih
  · intro h
    induction h with
    | refl=>exact .refl _
    | step e _ ih=>exact .step e ih
theorem Vc:Jn es (zx s l d) e a b↔Jn es s e a b:=by
  unfold Jn;rw[ZC,ZC,ZC,ZC]
theorem xV (K:Ok es s):top (zx s l d) v=top s v:=by
  have hu:uh (zx s l d):=K.upOk;exact Zo hu (ZC.2 (ZO K.upOk)) (yX K.upOk)
open Classical in
theorem kO (K:Ok es s)(ha:a<s.n)(hab:a≠b):∀k,k≤s.N→qJ (zx s l d) a b k=qJ s a b k+if top s a=top s b∧top s a<k then 2*(sg (l.lab (top s a))*d) else 0
  | 0,_=>by
    rw[if_neg (fun q=>by omega)]
    rfl
  | k+1,hk=>by
    have ih:=kO K ha hab k (by omega)
    have e1:qJ (zx s l d) a b (k+1)=qJ (zx s l d) a b k+(if s.n≤k∧Wi s a k∧Wi s b k then (zx s l d).z k else 0):=by
      show qJ (zx s l d) a b k+(if _∧_∧_ then _ else 0)=_
      congr 1
      by_cases c:s.n≤k∧Wi s a k∧Wi s b k
      · rw[if_pos c,if_pos ⟨c.1,ZC.2 c.2.1,ZC.2 c.2.2⟩]
      · rw[if_neg c,if_neg (fun q=>c ⟨q.1,ZC.1 q.2.1,ZC.1 q.2.2⟩)]
    have e2:qJ s a b (k+1)=qJ s a b k+(if s.n≤k∧Wi s a k∧Wi s b k then s.z k else 0):=rfl;rw[e1,e2,ih]
    by_cases c:s.n≤k∧Wi s a k∧Wi s b k
    · rw[if_pos c,if_pos c]
      by_cases ht:zc s k
      · have h1:=Zo K.upOk c.2.1 ht.2.1
        have h2:=Zo K.upOk c.2.2 ht.2.1;have hz:(zx s l d).z k=s.z k+2*(sg (l.lab k)*d):=if_pos ⟨ht,c.1⟩
        rw[hz,h1,h2,if_neg (fun q=>by omega),if_pos ⟨rfl,by omega⟩]
        omega
      · have hz:(zx s l d).z k=s.z k:=if_neg (fun q=>ht q.1)
        have hk2:top s a≠k:=fun q=>by
          have hg:=K.wi_gone c.2.1 (K.ngone ha);have:=yX K.upOk (v:=a);rw[q] at this
          exact ht ⟨by omega,this,hg⟩
        rw[hz]
        by_cases q:top s a=top s b∧top s a<k
        · rw[if_pos q,if_pos ⟨q.1,by omega⟩];omega
        · rw[if_neg q,if_neg (fun q'=>q ⟨q'.1,by omega⟩)];omega
    · rw[if_neg c,if_neg c]
      by_cases q:top s a=top s b∧top s a<k
      · rw[if_pos q,if_pos ⟨q.1,by omega⟩];omega
      · rw[if_neg q]
        by_cases q2:top s a=top s b∧top s a<k+1
        · exfalso
          have hka:top s a=k:=by omega
          have w1:=ZO K.upOk (v:=a);have w2:=ZO K.upOk (v:=b);rw[←q2.1] at w2;rw[hka] at w1 w2;refine c ⟨?_,w1,w2⟩;rcases Nat.lt_or_ge k s.n with g | g
          · exfalso
            have key:∀ {x},Wi s x k→x=k:=fun h=>by
              rcases h.last with e | ⟨m,e,_⟩
              · exact e
              · have:=(K.up _ _ e).2.1.1;omega
            exact hab ((key w1).trans (key w2).symm)
          · exact g
        · rw[if_neg q2]
theorem UY (K:Ok es s)(he:e<es.length):slk es (zx s l d) e=if top s (vA es e)=top s (vB es e) then slk es s e else slk es s e-(sg (l.lab (top s (vA es e)))+sg (l.lab (top s (vB es e))))*d:=by
  obtain⟨h1,h2,h3⟩:=K.ed e he;have hz:=kO (l:=l) (d:=d) K h1 h3 s.N (Nat.le_refl _);unfold slk;show (s.y _-sg _*d)+(s.y _-sg _*d)-_+qJ (zx s l d) _ _ s.N=_;rw[hz];have hlt:top s (vA es e)<s.N:=Uc K.upOk (Nat.lt_of_lt_of_le h1 K.nN)
  by_cases q:top s (vA es e)=top s (vB es e)
  · rw[if_pos q,if_pos ⟨q,hlt⟩,←q]
    omega
  · rw[if_neg q,if_neg (fun k=>q k.1)]
    have:(sg (l.lab (top s (vA es e)))+sg (l.lab (top s (vB es e))))*d=sg (l.lab (top s (vA es e)))*d+sg (l.lab (top s (vB es e)))*d:=Int.add_mul _ _ _;rw[this];omega
structure zb0 (es:List E)(s:Sv)(l:Lb)(d:Int):Prop where
  d0:0≤d
  ee:∀e,e<es.length→top s (vA es e)≠top s (vB es e)→l.lab (top s (vA es e))=1→l.lab (top s (vB es e))=1→2*d≤slk es s e
  eb:∀e,e<es.length→top s (vA es e)≠top s (vB es e)→(l.lab (top s (vA es e))=1∧l.lab (top s (vB es e))=0)∨(l.lab (top s (vA es e))=0∧l.lab (top s (vB es e))=1)→d≤slk es s e
  oz:∀p,zc s p→s.n≤p→l.lab p=2→2*d≤s.z p
theorem sg1:sg 1=1:=rfl
theorem sg2:sg 2=-1:=rfl
theorem sg0:sg 0=0:=rfl
theorem xm (K:Ok es s)(h:Jn es s e a b)(ha:zc s a)(hb:zc s b)(hs:sg (l.lab a)+sg (l.lab b)=0):slk es (zx s l d) e=slk es s e:=by
  rw[UY K h.1];split
  · rfl
  · rcases h.tops K ha hb with⟨q1,q2⟩ | ⟨q1,q2⟩
    · rw[q1,q2,hs];omega
    · rw[q1,q2,Int.add_comm,hs];omega
theorem Cv (K:Ok es s)(F:Fo es s l rk){o:Nat}(ht:zc s t)(ho:zc s o)(hot:o≠t)(h1:s.mate t=some e)(h2:s.mate o=some e):sg (l.lab t)+sg (l.lab o)=0:=by
  have l2:=F.two t
  have key:∀c,zc s c→c≠t→s.mate c=some e→c=o:=fun c hc hct hm=>by
    rcases K.mate2 ht ho hc h1 h2 hm hot with q | q
    · exact absurd q hct
    · exact q
  by_cases q1:l.lab t=1
  · cases ha:l.ahead t with
    | none=>have:=F.free t q1 ha;rw[h1] at this;cases this
    | some c =>
      obtain⟨i1,_,f,i2,i3,_⟩:=F.even t c q1 ha;rw[h1] at i2;cases i2
      have:=key c (F.top c (by omega)) (fun q=>by subst q;omega) i3
      subst this;rw[q1,i1];rfl
  · by_cases q2:l.lab t=2
    · obtain⟨_,_,f,c,_,_,_,_,_,_,i2,i3,i4,_⟩:=F.odd t q2
      rw[h1] at i2;cases i2
      have:=key c (F.top c (by omega)) (fun q=>by subst q;omega) i3
      subst this;rw[q2,i4];rfl
    · have q0:l.lab t=0:=by omega
      obtain⟨f,c,i1,i2,i3,i4,_,i5⟩:=F.bare K ht q0;rw[h1] at i1;cases i1;have:=key c i3 i4 i2;subst this;rw[q0,i5];rfl
theorem Vb (K:Ok es s)(F:Fo es s l rk)(D:zb0 es s l d):Ok es (zx s l d):=by
  have hd:=D.d0
  have tk:∀e a b,Jn es s e a b→zc s a→zc s b→sg (l.lab a)+sg (l.lab b)=0→Ze es s e→Ze es (zx s l d) e:=fun e a b h ha hb hs ht=>by
    unfold Ze at *;rw[xm K h ha hb hs];exact ht
  have tin:∀e,e<es.length→top s (vA es e)=top s (vB es e)→Ze es s e→Ze es (zx s l d) e:=fun e he hq ht=>by
    unfold Ze at *;rw[UY K he,if_pos hq];exact ht
  refine⟨K.nN,K.ed,K.up,K.ring,fun p hp=>?_,K.gone,fun t e ht hm=>?_,fun t h1 h2=>?_,K.baseM,fun e he=>?_,fun p hp=>?_,fun p u v hp hu hv h1 h2=>?_⟩
  · obtain⟨h1,h2⟩:=K.lnk p hp
    refine⟨h1,fun j hj=>⟨Vc.2 (h2 j hj).1,?_⟩⟩
    obtain⟨c1,c2⟩:=h2 j hj;obtain⟨_,_,_,r4⟩:=K.ring p hp;have i1:Wi s ((s.mem p).getD j 0) p:=.one (r4 _ (zw hj))
    have i2:Wi s ((s.mem p).getD ((j+1)%(s.mem p).length) 0) p:=.one (r4 _ (zw (Nat.mod_lt _ (by omega))))
    refine tin _ c1.1 ?_ c2;rcases c1.2 with⟨q1,q2⟩ | ⟨q1,q2⟩
    · exact (top_eq K.upOk (q1.trans i1)).trans (top_eq K.upOk (q2.trans i2)).symm
    · exact (top_eq K.upOk (q2.trans i2)).trans (top_eq K.upOk (q1.trans i1)).symm
  · obtain⟨h1,o,h2,h3,h4,h5⟩:=K.mate t e ht hm
    have ht':zc s t:=ht;exact⟨tk e t o h5 ht' h2 (Cv K F ht' h2 h3 hm h4) h1,o,h2,h3,h4,Vc.2 h5⟩
  · obtain⟨i1,i2⟩:=K.base t h1 h2
    exact⟨i1,ZC.2 i2⟩
  · have hf:=K.feas e he
    rw[UY K he]
    by_cases q:top s (vA es e)=top s (vB es e)
    · rw[if_pos q];exact hf
    · rw[if_neg q]
      have l1:=F.two (top s (vA es e));have l2:=F.two (top s (vB es e));have ee:=D.ee e he q;have eb:=D.eb e he q
      generalize hx:l.lab (top s (vA es e))=x at l1 ee eb ⊢
      generalize hw:l.lab (top s (vB es e))=w at l2 ee eb ⊢
      rcases (show x=0∨x=1∨x=2 by omega) with rfl | rfl | rfl<;>rcases (show w=0∨w=1∨w=2 by omega) with rfl | rfl | rfl<;>simp only[sg0,sg1,sg2]<;>first
        | omega
        | (have:=ee rfl rfl;omega)
        | (have:=eb (.inl ⟨rfl,rfl⟩);omega)
        | (have:=eb (.inr ⟨rfl,rfl⟩);omega)
  · obtain⟨h1,h2⟩:=K.z0 p hp
    by_cases c:zc s p∧s.n≤p
    · have hz:(zx s l d).z p=s.z p+2*(sg (l.lab p)*d):=if_pos c
      rw[hz];have l1:=F.two p;have oz:=D.oz p c.1 c.2
      generalize hx:l.lab p=x at l1 oz ⊢
      rcases (show x=0∨x=1∨x=2 by omega) with rfl | rfl | rfl<;>simp only[sg0,sg1,sg2]
      · omega
      · omega
      · have:=oz rfl;omega
    · have hz:(zx s l d).z p=s.z p:=if_neg c
      rw[hz];exact⟨h1,h2⟩
  · have h:=K.par p u v hp hu hv (ZC.1 h1) (ZC.1 h2)
    have e1:top s u=top s v:=(top_eq K.upOk (ZC.1 h1)).trans (top_eq K.upOk (ZC.1 h2)).symm;show (s.y u-sg (l.lab (top s u))*d)%2=(s.y v-sg (l.lab (top s v))*d)%2;rw[e1];omega
theorem dm (K:Ok es s)(F:Fo es s l rk):Gh es (zx s l d) l.lab rk:=fun t h=>by
  obtain⟨h1,h2⟩:=F.gh t h;refine⟨h1,?_⟩;rcases h2 with h2 | ⟨o,a,e,f,i1,i2,i3,i4,i5,i6,i7,i8⟩
  · exact .inl h2
  · refine .inr ⟨o,a,e,f,i1,i2,i3,i4,i5,Vc.2 i6,?_,i8⟩
    unfold Ze at *
    rw[xm K i6 (F.top a (by omega)) i2 (by rw[i5,i1];rfl)];exact i7
end
theorem qw:∀ {a b:List Nat},a.Nodup→(∀x∈a,x∈b)→a.length≤b.length
  | [],_,_,_=>Nat.zero_le _
  | x::a,b,hn,hs=>by
    obtain⟨h1,h2⟩:=List.nodup_cons.1 hn;have hx:=hs x List.mem_cons_self
    have ih:=qw (a:=a) (b:=b.erase x) h2 fun y hy=>(List.mem_erase_of_ne (fun (e:y=x)=>h1 (by rw[←e];exact hy))).2 (hs y (List.mem_cons_of_mem _ hy))
    rw[List.length_erase_of_mem hx] at ih;have:=List.length_pos_of_mem hx;rw[List.length_cons];omega
theorem Yk {a b:List Nat}(hn:a.Nodup)(hs:∀x∈a,x∈b){y:Nat}(hy:y∈b)(hya:¬y∈a):a.length<b.length:=by
  have:=qw (a:=y::a) (b:=b) (List.nodup_cons.2 ⟨hya,hn⟩) fun x hx=>by
    rcases List.mem_cons.1 hx with e | e
    · rw[e];exact hy
    · exact hs x e
  rw[List.length_cons] at this;omega
open Classical in
noncomputable def evL (s:Sv)(l:Lb):List Nat:=(List.range s.n).filter fun v=>decide (l.lab (top s v)=1)
open Classical in
noncomputable def cA (s:Sv)(l:Lb):List Nat:=(List.range s.N).filter fun p=>decide (zg s p∧l.lab (top s p)≠1)
noncomputable def mu (s:Sv)(l:Lb):Nat:=(s.n-(evL s l).length)+(cA s l).length
section
variable {es:List E}{s s1 s':Sv}{l l':Lb}{rk rk' lab:Nat→Nat}{t v p a b c e f:Nat}
theorem KX:v∈evL s l↔v<s.n∧l.lab (top s v)=1:=by unfold evL;simp
theorem jS:p∈cA s l↔p<s.N∧zg s p∧l.lab (top s p)≠1:=by unfold cA;simp
theorem zag:(evL s l).Nodup:=List.Pairwise.filter _ List.nodup_range
theorem Fr:(cA s l).Nodup:=List.Pairwise.filter _ List.nodup_range
theorem zaf:(evL s l).length≤s.n:=by
  unfold evL;refine Nat.le_trans (List.length_filter_le _ _) ?_;rw[List.length_range];exact Nat.le_refl _
theorem jV (K1:Ok es s1)(H:Ue es s1 s')(F':Fo es s' l' rk')(S':VF es s' l')(G:Gh es s1 lab rk)(ht:lab t=1)(hv:Wi s1 v t):l'.lab (top s' v)=1:=by
  obtain⟨K',P⟩:=wW H K1;have:=(X4 K1 K' P F' S' G (JM H K1 F' S') _ t (Nat.lt_succ_self _) ht).1;rw[top_eq K'.upOk (P.wi hv)];exact this
theorem zcZ (K1:Ok es s1)(H:Ue es s1 s')(F':Fo es s' l' rk')(S':VF es s' l')(G:Gh es s1 lab rk)(ha:lab a=1)(hb:zc s1 b)(hc:zc s1 c)(hcb:c≠b)(h1:s1.mate b=some f)(h2:s1.mate c=some f)(hcn:Jn es s1 e a b)(ht:Ze es s1 e):l'.lab (top s' b)=1∨l'.lab (top s' c)=1:=by
  obtain⟨K',P⟩:=wW H K1;have New:=JM H K1 F' S';have hA:=jV K1 H F' S' G ha (.refl _);have tA:=P.topTop K' (G a ha).1;have tB:=P.topTop K' hb
  by_cases q:top s' b=top s' a
  · left;rw[q];exact hA
  · have h3:=S' e _ _ hcn.1 (P.tight e hcn.1 ht) ((P.cn hcn).wide (ZO K'.upOk) (ZO K'.upOk)) tA tB (Ne.symm q) hA
    have hbb:top s' b=b:=by
      rcases P.old K' hb with g | g
      · exact g
      · have:=New _ g tB;omega
    right;have tC:=P.topTop K' hc;rcases P.mate b c f hb hc hcb h1 h2 with g | ⟨g1,g2⟩
    · exfalso
      rcases P.old K' hc with g' | g'
      · rw[hbb,g'] at g;exact hcb g.symm
      · rw[←g,hbb] at g';have:=hb.1;omega
    · obtain⟨_,_,f',c',_,_,_,_,_,_,j1,j2,j3,_⟩:=F'.odd _ h3
      rw[g1] at j1;cases j1
      have hne:top s' c≠top s' b:=fun q2=>by
        rcases P.old K' hc with g' | g'
        · rw[hbb,g'] at q2;exact hcb q2
        · rw[q2,hbb] at g';have:=hb.1;omega
      rcases K'.mate2 tB tC (F'.top c' (by omega)) g1 g2 j2 hne with q2 | q2
      · rw[q2] at j3;omega
      · rw[←q2];exact j3
theorem zc0 (K1:Ok es s1)(H:Ue es s1 s')(F':Fo es s' l' rk')(S':VF es s' l')(G:Gh es s1 lab rk)(ha:lab a=1)(hb:lab b=1)(hab:a≠b)(hcn:Jn es s1 e a b)(ht:Ze es s1 e):∃x c f,(x=a∨x=b)∧s1.mate x=some f∧zc s1 c∧c≠x∧s1.mate c=some f∧l'.lab (top s' c)=1:=by
  obtain⟨K',P⟩:=wW H K1;have hA:=jV K1 H F' S' G ha (.refl _);have hB:=jV K1 H F' S' G hb (.refl _);have tA:=P.topTop K' (G a ha).1;have tB:=P.topTop K' (G b hb).1
  have q:top s' a=top s' b:=by
    apply Classical.byContradiction
    intro q;have:=S' e _ _ hcn.1 (P.tight e hcn.1 ht) ((P.cn hcn).wide (ZO K'.upOk) (ZO K'.upOk)) tA tB q hA;omega
  obtain⟨t0,_,_,_,h4⟩:=P.from_ _ tA
  by_cases c:a=t0
  · obtain⟨f,d,i1,i2,i3,i4,i5⟩:=h4 b (G b hb).1 q.symm (fun k=>hab (c.trans k.symm))
    exact⟨b,d,f,.inr rfl,i1,i2,i3,i4,by rw[i5];exact hA⟩
  · obtain⟨f,d,i1,i2,i3,i4,i5⟩:=h4 a (G a ha).1 rfl c
    exact⟨a,d,f,.inl rfl,i1,i2,i3,i4,by rw[i5];exact hA⟩
theorem CB (K1 : Ok es s1) (H : Ue es s1 s') (F' : Fo es s' l' rk') (S' : VF es s' l') (G : Gh es s1 lab rk) (hn : s1.n = s.n) (hN : s1.N = s.N)
    (hv:∀v,v<s.n→l.lab (top s v)=1→∃t,lab t=1∧Wi s1 v t)
    (hr:∀p,zg s1 p→zg s p∧(l.lab (top s p)=1→∃t,lab t=1∧Wi s1 p t))
    (hs:(∃v,v<s.n∧l.lab (top s v)≠1∧l'.lab (top s' v)=1)∨∃B,zg s B∧l.lab (top s B)≠1∧¬zg s1 B):mu s' l'<mu s l:=by
  obtain⟨K',P⟩:=wW H K1;have New:=JM H K1 F' S';have en:s'.n=s.n:=P.n.trans hn
  have e1:∀v∈evL s l,v∈evL s' l':=fun v h=>by
    obtain⟨h1,h2⟩:=KX.1 h;obtain⟨t,h3,h4⟩:=hv v h1 h2
    exact KX.2 ⟨by omega,jV K1 H F' S' G h3 h4⟩
  have o1:∀p∈cA s' l',p∈cA s l∧zg s1 p:=fun p h=>by
    obtain⟨h1,h2,h3⟩:=jS.1 h
    have hp:p<s1.N:=by
      apply Classical.byContradiction
      intro q;have hw:=ZO K'.upOk (v:=p);have hle:=hw.le K'.upOk
      exact h3 (New _ (by omega) (K'.topTop h1 h2.2.2))
    have r1:zg s1 p:=⟨by have:=h2.1;have:=P.n;omega,hp,by rw[←P.live p hp];exact h2.2.2⟩
    obtain⟨r2,r3⟩:=hr p r1
    refine⟨jS.2 ⟨r2.2.1,r2,fun q=>?_⟩,r1⟩
    obtain⟨t,h4,h5⟩:=r3 q;exact h3 (jV K1 H F' S' G h4 h5)
  have le1:=qw zag e1
  have le2:=qw Fr fun p h=>(o1 p h).1
  have b1:=zaf (s:=s') (l:=l');have b2:=zaf (s:=s) (l:=l);unfold mu;rw[en] at b1 ⊢;rcases hs with⟨v,h1,h2,h3⟩ | ⟨B,h1,h2,h3⟩
  · have:=Yk zag e1 (KX.2 ⟨by omega,h3⟩) fun q=>h2 (KX.1 q).2
    omega
  · have:=Yk Fr (fun p h=>(o1 p h).1) (jS.2 ⟨h1.2.1,h1,h2⟩) fun q=>h3 (o1 B q).2
    omega
theorem cC {d : Int} (K : Ok es s) (F : Fo es s l rk) (D : zb0 es s l d) (H : Ue es (zx s l d) s') (F' : Fo es s' l' rk') (S' : VF es s' l') (he : e < es.length) (hne : top s (vA es e) ≠ top s (vB es e))
    (ev:(l.lab (top s (vA es e))=1∧l.lab (top s (vB es e))=1∧slk es s e=2*d)∨(((l.lab (top s (vA es e))=1∧l.lab (top s (vB es e))=0)∨(l.lab (top s (vA es e))=0∧l.lab (top s (vB es e))=1))∧slk es s e=d)):mu s' l'<mu s l:=by
  have K1:=Vb K F D;have G:=dm (d:=d) K F;have ed:=K.ed e he;have tA:=K.vTop ed.1;have tB:=K.vTop ed.2.1;have hcn:=KU K he
  have hgone:∀x,x<s.n→s.gone x=false:=fun x hx=>K.ngone hx
  refine CB K1 H F' S' G rfl rfl (fun v hv h=>⟨top s v,h,ZC.2 (ZO K.upOk)⟩) (fun p hp=>⟨hp,fun h=>⟨top s p,h,ZC.2 (ZO K.upOk)⟩⟩) (.inl ?_)
  have pick:∀c,zc s c→l.lab c≠1→l'.lab (top s' c)=1→∃v,v<s.n∧l.lab (top s v)≠1∧l'.lab (top s' v)=1:=fun c hc h1 h2=>by
    obtain⟨K',P⟩:=wW H K1;obtain⟨v,hv,hw⟩:=VL K c hc.1 hc.2.2
    refine⟨v,hv,by rw[Zo K.upOk hw hc.2.1];exact h1,?_⟩
    rw[top_eq K'.upOk (P.wi (ZC.2 hw))];exact h2
  have hslk:=UY (l:=l) (d:=d) K he;rw[if_neg hne] at hslk;rcases ev with⟨q1,q2,q3⟩ | ⟨q,q3⟩
  · have ht:Ze es (zx s l d) e:=by
      unfold Ze;rw[hslk,q1,q2,sg1,q3];omega
    obtain⟨x,c,f,hx,i1,i2,i3,i4,i5⟩:=zc0 K1 H F' S' G q1 q2 hne (Vc.2 hcn) ht;have i2':zc s c:=i2
    have hxl:l.lab x=1:=by
      rcases hx with r | r
      · rw[r];exact q1
      · rw[r];exact q2
    have hsg:=Cv K F (F.top x (by omega)) i2' i3 i1 i4
    refine pick c i2' (fun k=>?_) i5
    rw[hxl,k] at hsg
    exact absurd hsg (by decide)
  · have bare:∀x w,zc s x→zc s w→l.lab x=1→l.lab w=0→Jn es s e x w→Ze es (zx s l d) e→∃v,v<s.n∧l.lab (top s v)≠1∧l'.lab (top s' v)=1:=fun x w hx hw h1 h0 hc ht=>by
      obtain⟨f,c,i1,i2,i3,i4,_,i5⟩:=F.bare K hw h0;rcases zcZ K1 H F' S' G h1 hw i3 i4 i1 i2 (Vc.2 hc) ht with r | r
      · exact pick w hw (by omega) r
      · exact pick c i3 (by omega) r
    rcases q with⟨q1,q2⟩ | ⟨q1,q2⟩
    · have ht:Ze es (zx s l d) e:=by
        unfold Ze;rw[hslk,q1,q2,sg1,sg0,q3];omega
      exact bare _ _ tA tB q1 q2 hcn ht
    · have ht:Ze es (zx s l d) e:=by
        unfold Ze;rw[hslk,q1,q2,sg1,sg0,q3];omega
      exact bare _ _ tB tA q2 q1 hcn.symm ht
end
def GV (d0 x:Nat):Nat:=if d0%2=1 then (if x=0 then 2 else if x<d0 then 0 else if x%2=1 then 2 else 1) else (if d0<x then 0 else if x%2=0 then 2 else 1)
def mrk (d0 x:Nat):Nat:=if d0%2=1 then x-d0 else d0-x
def mix (n a x:Nat):Nat:=if a+x<n then a+x else a+x-n
section
variable {n a q x:Nat}
theorem GT (ha:a<n)(hx:x<n):mix n a x<n:=by unfold mix;split<;>omega
theorem Cx (ha:a<n)(hx:x<n):dst n a (mix n a x)=x:=by unfold mix dst;split<;>split<;>omega
theorem fO (ha:a<n)(hq:q<n):dst n a q<n:=by unfold dst;split<;>omega
theorem FX (ha:a<n)(hq:q<n):mix n a (dst n a q)=q:=by unfold mix dst;split<;>split<;>omega
theorem zet (ha:a<n)(hx:x+1<n):nx n (mix n a x)=mix n a (x+1):=by unfold nx mix;split<;>split<;>split<;>omega
theorem zcN (ha:a<n)(hn:0<n):nx n (mix n a (n-1))=a:=by unfold nx mix;split<;>split<;>omega
theorem zeH (ha:a<n)(hx:x+1<n):pv n (mix n a (x+1))=mix n a x:=by unfold pv mix;split<;>split<;>split<;>omega
theorem zhH (ha:a<n):mix n a 0=a:=by unfold mix;split<;>omega
end
section
variable {es:List E}{s:Sv}{l:Lb}{rk:Nat→Nat}{B a t v p e q x:Nat}{d:Int}
theorem zeD (ha:a<(s.mem B).length)(hx:x<(s.mem B).length):opM s B a (mix (s.mem B).length a x)=if x=0 then s.mate B else if x%2=1 then some ((s.lnk B).getD (mix (s.mem B).length a x) 0) else some ((s.lnk B).getD (mix (s.mem B).length a (x-1)) 0):=by
  unfold opM;rw[Cx ha hx]
  by_cases h0:x=0
  · rw[if_pos h0,if_pos h0]
  · rw[if_neg h0,if_neg h0]
    by_cases h1:x%2=1
    · rw[if_pos h1,if_pos h1]
    · rw[if_neg h1,if_neg h1]
      obtain⟨y,rfl⟩:∃y,x=y+1:=⟨x-1,by omega⟩
      rw[zeH ha hx,Nat.add_sub_cancel]
theorem enter (K:Ok es s)(hB:zg s B)(ht:s.up B=none){o:Nat}(ho:zc s o)(hoB:o≠B)(hc:Jn es s e o B):∃q,q<(s.mem B).length∧Jn es (zr s B a) e o ((s.mem B).getD q 0):=by
  have K0:=K.ok0;have ed:=K.ed e hc.1
  have get:∀y,y<s.n→Wi s y B→∃q,q<(s.mem B).length∧Wi s y ((s.mem B).getD q 0):=fun y hy h=>by
    rcases h.last with e1 | ⟨m,h1,h2⟩
    · have:=hB.1;omega
    · obtain⟨q,h3,h4⟩:=Zv (d:=0) (K.up m B h1).2.2.2
      exact⟨q,h3,by rw[h4];exact h2⟩
  have hne:∀q,q<(s.mem B).length→(s.mem B).getD q 0≠B:=fun q hq e1=>by
    have:=(K0.memUp hB (zw hq)).2.1;rw[e1] at this;omega
  rcases hc.2 with⟨h1,h2⟩ | ⟨h1,h2⟩
  · obtain⟨q,h3,h4⟩:=get _ ed.2.1 h2
    exact⟨q,h3,vj K0 hB ht ⟨hc.1,.inl ⟨h1,h4⟩⟩ hoB (hne q h3)⟩
  · obtain⟨q,h3,h4⟩:=get _ ed.1 h2
    exact⟨q,h3,vj K0 hB ht ⟨hc.1,.inr ⟨h1,h4⟩⟩ hoB (hne q h3)⟩
theorem zcW (K : Ok es s) (hB : zg s B) (ht : s.up B = none) (hz : s.z B = 0) (ha : a < (s.mem B).length) (hh : YQ es s B ((s.mem B).getD a 0))
    (htop:∀t,l.lab t=1→zc s t) (hlB:l.lab B=2)
    (hG:∀t,l.lab t=1→s.mate t=none∨∃o a e f,l.lab o=2∧zc s o∧s.mate t=some f∧s.mate o=some f∧l.lab a=1∧Jn es s e a o∧Ze es s e∧rk a<rk o∧rk o<rk t)
    (hBin:∃a0 e0,l.lab a0=1∧Jn es s e0 a0 B∧Ze es s e0∧rk a0<rk B) :
    ∃lab1 rk1:Nat→Nat,Gh es (zr s B a) lab1 rk1∧∀t,l.lab t=1→lab1 t=1:=by
  have K0:=K.ok0;have K1:=Ym K hB ht hz ha hh;obtain⟨r1,r2,r3,r4⟩:=K.ring B hB;obtain⟨k1,k2⟩:=K.lnk B hB;obtain⟨a0,e0,i1,i2,i3,i4⟩:=hBin;have ta0:=htop a0 i1
  have ha0B:a0≠B:=fun q=>by rw[q] at i1;omega
  obtain⟨q0,j1,j2⟩:=enter (a:=a) K hB ht ta0 ha0B i2
  have hBm:¬B∈s.mem B:=fun q=>by have:=(K0.memUp hB q).2.1;omega
  have nm:∀o,zc s o→¬o∈s.mem B:=fun o h q=>by have:=(K0.memUp hB q).1;rw[h.2.1] at this;cases this
  have tk:∀e,e<es.length→Ze es s e→Ze es (zr s B a) e:=fun e he h=>by
    unfold Ze at *;rw[xn K0 hB ht hz he];exact h
  have mo:∀o,zc s o→(zr s B a).mate o=s.mate o:=fun o h=>by simp only[zr];rw[if_neg (nm o h)]
  obtain⟨n,hn⟩:∃n,n=(s.mem B).length:=⟨_,rfl⟩
  obtain⟨M,hM⟩:∃M:Nat→Nat,M=fun x=>(s.mem B).getD (mix n a x) 0:=⟨_,rfl⟩
  have hMx:∀x,M x=(s.mem B).getD (mix n a x) 0:=fun x=>by rw[hM]
  obtain⟨d0,hd0⟩:∃d0,d0=dst n a q0:=⟨_,rfl⟩
  have ha':a<n:=by omega
  have hd0n:d0<n:=by rw[hd0];exact fO ha' (by omega)
  have hMq:(s.mem B).getD q0 0=M d0:=by rw[hMx,hd0,FX ha' (by omega)]
  rw[hMq] at j2
  have hMm:∀x,x<n→M x∈s.mem B:=fun x hx=>by rw[hMx];exact zw (by have:=GT ha' hx;omega)
  have hMt:∀x,x<n→zc (zr s B a) (M x):=fun x hx=>(Zy K0 hB).2 (.inr (hMm x hx))
  have hMd:∀x,x<n→dst n a ((s.mem B).idxOf (M x))=x:=fun x hx=>by rw[hMx,JP K0 hB (by have:=GT ha' hx;omega),Cx ha' hx]
  have hMo:∀t,t∈s.mem B→∃x,x<n∧t=M x:=fun t h=>by
    obtain⟨g1,g2⟩:=Yg h
    refine⟨dst n a ((s.mem B).idxOf t),fO ha' (by omega),?_⟩
    rw[hMx,FX ha' (by omega),g2]
  have hmate:∀x,x<n→(zr s B a).mate (M x)=if x=0 then s.mate B else if x%2=1 then some ((s.lnk B).getD (mix n a x) 0) else some ((s.lnk B).getD (mix n a (x-1)) 0):=fun x hx=>by
    rw[hMx,Qd K0 hB (by have:=GT ha' hx;omega)]
    have:=zeD (s:=s) (B:=B) (a:=a) (x:=x) ha (by omega)
    rw[←hn] at this;exact this
  have hlink:∀x,x+1<n→Jn es (zr s B a) ((s.lnk B).getD (mix n a x) 0) (M x) (M (x+1))∧Ze es (zr s B a) ((s.lnk B).getD (mix n a x) 0):=fun x hx=>by
    have hm:=GT ha' (show x<n by omega)
    obtain⟨l1,l2⟩:=k2 (mix n a x) (by omega)
    rw[←hn,Fm hm,zet ha' hx] at l1
    have ne:∀y,y<n→(s.mem B).getD (mix n a y) 0≠B:=fun y hy e1=>hBm (by have:=hMm y hy;rw[hMx,e1] at this;exact this)
    rw[hMx,hMx]
    exact⟨vj K0 hB ht l1 (ne x (by omega)) (ne _ hx),tk _ l1.1 l2⟩
  have hlast:Jn es (zr s B a) ((s.lnk B).getD (mix n a (n-1)) 0) (M (n-1)) (M 0)∧Ze es (zr s B a) ((s.lnk B).getD (mix n a (n-1)) 0):=by
    have hm:=GT ha' (show n-1<n by omega)
    obtain⟨l1,l2⟩:=k2 (mix n a (n-1)) (by omega)
    rw[←hn,Fm hm,zcN ha' (by omega)] at l1
    have ne:∀y,y<n→(s.mem B).getD (mix n a y) 0≠B:=fun y hy e1=>hBm (by have:=hMm y hy;rw[hMx,e1] at this;exact this)
    have n0:=ne 0 (by omega)
    rw[hMx,hMx];rw[zhH ha'] at n0 ⊢
    exact⟨vj K0 hB ht l1 (ne (n-1) (by omega)) n0,tk _ l1.1 l2⟩
  obtain⟨W,hW⟩:∃W,W=n+1:=⟨_,rfl⟩
  have wlt:∀ {x y k:Nat},x<y→k<W→W*x+k<W*y:=fun {x y k} h hk=>by
    have:W*(x+1)≤W*y:=Nat.mul_le_mul_left _ h;rw[Nat.mul_add,Nat.mul_one] at this;omega
  obtain⟨lab1,hlab⟩:∃lab1:Nat→Nat,lab1=fun t=>if t∈s.mem B then GV d0 (dst n a ((s.mem B).idxOf t)) else if t=B then 0 else l.lab t:=⟨_,rfl⟩
  obtain⟨rk1,hrk⟩:∃rk1:Nat→Nat,rk1=fun t=>if t∈s.mem B then W*rk B+mrk d0 (dst n a ((s.mem B).idxOf t)) else W*rk t:=⟨_,rfl⟩
  have labM:∀x,x<n→lab1 (M x)=GV d0 x:=fun x hx=>by rw[hlab];simp only;rw[if_pos (hMm x hx),hMd x hx]
  have labO:∀o,zc s o→o≠B→lab1 o=l.lab o:=fun o h hne=>by rw[hlab];simp only;rw[if_neg (nm o h),if_neg hne]
  have rkM:∀x,x<n→rk1 (M x)=W*rk B+mrk d0 x:=fun x hx=>by rw[hrk];simp only;rw[if_pos (hMm x hx),hMd x hx]
  have rkO:∀o,zc s o→rk1 o=W*rk o:=fun o h=>by rw[hrk];simp only;rw[if_neg (nm o h)]
  have lab0:lab1 a0=1:=by rw[labO a0 ta0 ha0B];exact i1
  have tk0:=tk e0 i2.1 i3
  refine⟨lab1,rk1,fun t h=>?_,fun t h=>?_⟩
  rotate_left
  · have htt:=htop t h
    rw[labO t htt (fun q=>by rw[q] at h;omega)];exact h
  by_cases hm:t∈s.mem B
  · -- a member
    obtain⟨x,hx,rfl⟩:=hMo t hm;rw[labM x hx] at h;refine⟨hMt x hx,.inr ?_⟩
    by_cases up:d0%2=1
    · have hxx:x≠0∧d0≤x∧x%2=0:=by
        unfold GV at h;rw[if_pos up] at h;split at h
        · omega
        · split at h
          · omega
          · split at h<;>omega
      obtain⟨y,rfl⟩:∃y,x=y+1:=⟨x-1,by omega⟩
      have hy1:y%2=1:=by omega
      have m1:=hmate (y+1) hx
      rw[if_neg (by omega),if_neg (by omega),Nat.add_sub_cancel] at m1
      have m2:=hmate y (by omega)
      rw[if_neg (by omega),if_pos hy1] at m2
      have lo:lab1 (M y)=2:=by
        rw[labM y (by omega)]
        unfold GV
        rw[if_pos up,if_neg (by omega),if_neg (by omega),if_pos hy1]
      by_cases yd:y=d0
      · refine⟨M y,a0,e0,_,lo,hMt y (by omega),m1,m2,lab0,by rw[yd];exact j2,tk0,?_⟩
        rw[rkM _ hx,rkO a0 ta0]
        have:=wlt (k:=0) i4 (by omega)
        omega
      · obtain⟨z,rfl⟩:∃z,y=z+1:=⟨y-1,by omega⟩
        obtain⟨c1,c2⟩:=hlink z (by omega)
        refine⟨M (z+1),M z,_,_,lo,hMt _ (by omega),m1,m2,?_,c1,c2,?_⟩
        · rw[labM z (by omega)]
          unfold GV
          rw[if_pos up,if_neg (by omega),if_neg (by omega),if_neg (by omega)]
        · rw[rkM _ hx,rkM _ (by omega)]
          unfold mrk;rw[if_pos up,if_pos up];omega
    · have hxx:x≤d0∧x%2=1:=by
        unfold GV at h;rw[if_neg up] at h;split at h
        · omega
        · split at h<;>omega
      have hx1:x+1<n:=by omega
      have m1:=hmate x hx
      rw[if_neg (by omega),if_pos hxx.2] at m1
      have m2:=hmate (x+1) hx1
      rw[if_neg (by omega),if_neg (by omega),Nat.add_sub_cancel] at m2
      have lo:lab1 (M (x+1))=2:=by
        rw[labM _ hx1];unfold GV
        rw[if_neg up,if_neg (by omega),if_pos (by omega)]
      by_cases xd:x+1=d0
      · refine⟨M (x+1),a0,e0,_,lo,hMt _ hx1,m1,m2,lab0,by rw[xd];exact j2,tk0,?_⟩
        rw[rkM _ hx,rkO a0 ta0]
        have:=wlt (k:=0) i4 (by omega)
        omega
      · obtain⟨c1,c2⟩:=hlink (x+1) (by omega)
        refine⟨M (x+1),M (x+1+1),_,_,lo,hMt _ hx1,m1,m2,?_,c1.symm,c2,?_⟩
        · rw[labM _ (by omega)]
          unfold GV
          rw[if_neg up,if_neg (by omega),if_neg (by omega)]
        · rw[rkM _ hx,rkM _ (by omega)]
          unfold mrk;rw[if_neg up,if_neg up];omega
  · -- one that was there
    have htB:t≠B:=fun q=>by rw[hlab] at h;simp only at h;rw[if_neg hm,if_pos q] at h;omega
    have hl1:l.lab t=1:=by rw[hlab] at h;simp only at h;rw[if_neg hm,if_neg htB] at h;exact h
    have htt:=htop t hl1;refine⟨(Zy K0 hB).2 (.inl ⟨htt,htB⟩),?_⟩;rcases hG t hl1 with g | ⟨o,a1,e1,f,g1,g2,g3,g4,g5,g6,g7,g8,g9⟩
    · left;rw[mo t htt];exact g
    · right
      have ta1:=htop a1 g5
      have a1B:a1≠B:=fun q=>by rw[q] at g5;omega
      by_cases oB:o=B
      · -- its odd one is the ring
        rw[oB] at g4 g9
        have m0:=hmate 0 (by omega)
        rw[if_pos rfl] at m0
        have lo:lab1 (M 0)=2:=by
          rw[labM 0 (by omega)]
          unfold GV
          by_cases up:d0%2=1
          · rw[if_pos up,if_pos rfl]
          · rw[if_neg up,if_neg (by omega),if_pos rfl]
        have mt:(zr s B a).mate t=some f:=by rw[mo t htt];exact g3
        have mm:(zr s B a).mate (M 0)=some f:=by rw[m0];exact g4
        by_cases up:d0%2=1
        · refine⟨M 0,M (n-1),_,f,lo,hMt 0 (by omega),mt,mm,?_,hlast.1,hlast.2,?_⟩
          · rw[labM _ (by omega)]
            unfold GV
            rw[if_pos up,if_neg (by omega),if_neg (by omega),if_neg (by omega)]
          · rw[rkM _ (by omega),rkO t htt]
            refine wlt g9 ?_;unfold mrk;rw[if_pos up];omega
        · by_cases z0:d0=0
          · refine⟨M 0,a0,e0,f,lo,hMt 0 (by omega),mt,mm,lab0,by rw[z0] at j2;exact j2,tk0,?_⟩
            rw[rkO a0 ta0,rkO t htt]
            exact wlt (k:=0) (Nat.lt_trans i4 g9) (by omega)
          · obtain⟨c1,c2⟩:=hlink 0 (by omega)
            refine⟨M 0,M 1,_,f,lo,hMt 0 (by omega),mt,mm,?_,c1.symm,c2,?_⟩
            · rw[labM _ (by omega)]
              unfold GV
              rw[if_neg up,if_neg (by omega),if_neg (by omega)]
            · rw[rkM _ (by omega),rkO t htt]
              refine wlt g9 ?_;unfold mrk;rw[if_neg up];omega
      · refine⟨o,a1,e1,f,by rw[labO o g2 oB];exact g1,(Zy K0 hB).2 (.inl ⟨g2,oB⟩),by rw[mo t htt];exact g3,by rw[mo o g2];exact g4,by rw[labO a1 ta1 a1B];exact g5,vj K0 hB ht g6 a1B oB,tk _ g6.1 g7,?_⟩
        rw[rkO a1 ta1,rkO t htt]
        exact wlt (k:=0) (Nat.lt_trans g8 g9) (by omega)
end
section
variable {es:List E}{s s':Sv}{l l':Lb}{rk rk':Nat→Nat}{B a t v p e q x:Nat}{d Y:Int}
theorem cD (K : Ok es s) (F : Fo es s l rk) (D : zb0 es s l d) (hB : zc s B) (hn : s.n ≤ B) (hl : l.lab B = 2) (hz : (zx s l d).z B = 0) (ha : a < (s.mem B).length) (hh : YQ es (zx s l d) B ((s.mem B).getD a 0))
    (H:Ue es (zr (zx s l d) B a) s') (F':Fo es s' l' rk') (S':VF es s' l'):Ok es (zr (zx s l d) B a)∧mu s' l'<mu s l:=by
  have Kc:=Vb K F D;have hBr:zg (zx s l d) B:=⟨hn,hB.1,hB.2.2⟩;have K1:=Ym (a:=a) Kc hBr hB.2.1 hz ha hh;refine⟨K1,?_⟩
  have tk:∀ {e a b},Jn es s e a b→zc s a→zc s b→sg (l.lab a)+sg (l.lab b)=0→Ze es s e→Ze es (zx s l d) e:=fun h ha hb hs ht=>by
    unfold Ze at *;rw[xm K h ha hb hs];exact ht
  obtain ⟨lab1, rk1, G, hG⟩ := zcW (l := l) (rk := rk) Kc hBr hB.2.1 hz ha hh (fun t h => F.top t (by omega)) hl (fun t h => by
      cases hah:l.ahead t with
      | none=>exact .inl (F.free t h hah)
      | some o =>
        obtain⟨h1,h2,f,h3,h4,_,_⟩:=F.even t o h hah;obtain⟨c,e,f',_,_,h5,h6,_,h7,h8,h9,_⟩:=F.odd o h1
        have to:=F.top o (by omega)
        have tc:=F.top c (by omega)
        exact .inr ⟨o,c,e,f,h1,to,h3,h4,h5,Vc.2 h7,tk h7 tc to (by rw[h5,h1];rfl) h8,h6,h2⟩) (by
      obtain⟨c,e,f',_,_,h5,h6,_,h7,h8,h9,_⟩:=F.odd B hl
      exact⟨c,e,h5,Vc.2 h7,tk h7 (F.top c (by omega)) hB (by rw[h5,hl];rfl) h8,h6⟩)
  have nB:∀t,l.lab t=1→t≠B:=fun t h q=>by rw[q] at h;omega
  have up1:∀v,l.lab (top s v)=1→Wi (zr (zx s l d) B a) v (top s v):=fun v h=>by
    rw[Q7 Kc.ok0 hBr hB.2.1]
    exact⟨ZC.2 (ZO K.upOk),fun q=>absurd q (nB _ h)⟩
  refine CB K1 H F' S' G rfl rfl (fun v hv h=>⟨top s v,hG _ h,up1 v h⟩) (fun p hp=>?_) (.inr ⟨B,hBr,?_,fun q=>(ZQ.1 q).2 rfl⟩)
  · obtain⟨h1,h2⟩:=ZQ.1 hp
    exact⟨h1,fun h=>⟨top s p,hG _ h,up1 p h⟩⟩
  · rw[hB.top K,hl];omega
structure Lo (s:Sv)(Y:Int):Prop where
  free:∀t,zc s t→s.mate t=none→s.y (s.base t)=Y
  low:∀v,v<s.n→Y≤s.y v
  y0:0≤Y
theorem Ct (K:Ok es s)(F:Fo es s l rk)(L:Lo s Y):∀(n t:Nat),rk t<n→l.lab t≠0→∀v,v<s.n→Wi s v t→s.y v%2=Y%2:=by
  intro n
  induction n with
  | zero=>intro t h;omega
  | succ n ih =>
    intro t hn h0 v hv hw;have tt:=F.top t h0;have h2:=F.two t
    by_cases q:l.lab t=1
    · cases hah:l.ahead t with
      | none =>
        have hm:=F.free t q hah;obtain⟨b1,b2⟩:=K.base t tt.1 tt.2.2;rw[K.par1 tt.1 tt.2.2 hv b1 hw b2,L.free t tt hm]
      | some o =>
        obtain⟨h1,h2,f,h3,h4,_,h6⟩:=F.even t o q hah
        have to:=F.top o (by omega)
        obtain⟨w,hw1,hw2⟩:=VL K o to.1 to.2.2;have ht:=(K.mate t f tt h3).1
        rw[←ih o (by omega) (by omega) w hw1 hw2]
        exact kB K h6.symm ht tt to (fun q2=>by rw[q2,h1] at q;omega) hv hw1 hw hw2
    · obtain⟨c,e,_,_,_,h5,h6,_,h7,h8,_⟩:=F.odd t (by omega)
      have tc:=F.top c (by omega)
      obtain⟨w,hw1,hw2⟩:=VL K c tc.1 tc.2.2
      rw[←ih c (by omega) (by omega) w hw1 hw2]
      exact kB K h7.symm h8 tt tc (fun q2=>q (by rw[q2];exact h5)) hv hw1 hw hw2
theorem zcm (K:Ok es s)(F:Fo es s l rk)(L:Lo s Y)(he:e<es.length)(hne:top s (vA es e)≠top s (vB es e))(h1:l.lab (top s (vA es e))=1)(h2:l.lab (top s (vB es e))=1):slk es s e%2=0:=by
  have ed:=K.ed e he
  have p1:=Ct K F L _ _ (Nat.lt_succ_self _) (by omega) _ ed.1 (ZO K.upOk (v:=vA es e))
  have p2:=Ct K F L _ _ (Nat.lt_succ_self _) (by omega) _ ed.2.1 (ZO K.upOk (v:=vB es e))
  rw[kg K hne];omega
structure jp (es:List E)(s:Sv)(l:Lb)(d:Int):Prop where
  step:zb0 es s l d
  y:∀v,v<s.n→l.lab (top s v)=1→d≤s.y v
  by_:(∃v,v<s.n∧l.lab (top s v)=1∧s.y v=d) ∨
    (∃e,e<es.length∧top s (vA es e)≠top s (vB es e)∧((l.lab (top s (vA es e))=1∧l.lab (top s (vB es e))=1∧slk es s e=2*d)∨(((l.lab (top s (vA es e))=1∧l.lab (top s (vB es e))=0)∨(l.lab (top s (vA es e))=0∧l.lab (top s (vB es e))=1))∧slk es s e=d))) ∨
    ∃p,zc s p∧s.n≤p∧l.lab p=2∧s.z p=2*d
theorem Va (K:Ok es s)(F:Fo es s l rk)(L:Lo s Y)(D:jp es s l d)(hf:∃t,zc s t∧s.mate t=none):Lo (zx s l d) (Y-d):=by
  have hd:=D.step.d0
  refine⟨fun t ht hm=>?_,fun v hv=>?_,?_⟩
  · have ht':zc s t:=ht
    have hm':s.mate t=none:=hm;obtain⟨b1,b2⟩:=K.base t ht'.1 ht'.2.2;show s.y (s.base t)-sg (l.lab (top s (s.base t)))*d=Y-d;rw[Zo K.upOk b2 ht'.2.1,(F.root t ht' hm').1,sg1,L.free t ht' hm'];omega
  · have:=L.low v hv
    show Y-d≤s.y v-sg (l.lab (top s v))*d;have l2:=F.two (top s v)
    generalize l.lab (top s v)=x at l2
    rcases (show x=0∨x=1∨x=2 by omega) with rfl | rfl | rfl<;>simp only[sg0,sg1,sg2]<;>omega
  · obtain⟨t,ht,hm⟩:=hf
    obtain⟨b1,b2⟩:=K.base t ht.1 ht.2.2
    have:=D.y _ b1 (by rw[Zo K.upOk b2 ht.2.1];exact (F.root t ht hm).1)
    rw[L.free t ht hm] at this;omega
theorem BL (K:Ok es s)(F:Fo es s l rk)(L:Lo s Y)(D:jp es s l d)(hf:∃t,zc s t∧s.mate t=none)(h:∃v,v<s.n∧l.lab (top s v)=1∧s.y v=d):Y-d=0:=by
  have L':=Va K F L D hf;obtain⟨v,h1,h2,h3⟩:=h;have h4:=L'.low v h1;have h5:=L'.y0;have h6:(zx s l d).y v=s.y v-sg (l.lab (top s v))*d:=rfl;rw[h6,h2,sg1] at h4;omega
theorem Ck (F:Fo es s l rk):∀(n t:Nat),rk t<n→l.lab t≠0→∃r,zc s r∧s.mate r=none
  | 0,_,h,_=>by omega
  | n+1,t,hn,h0=>by
    cases hah:l.ahead t with
    | none =>
      have h2:=F.two t
      by_cases q:l.lab t=1
      · exact⟨t,F.top t h0,F.free t q hah⟩
      · obtain⟨c,_,_,_,h4,_⟩:=F.odd t (by omega)
        rw[hah] at h4;cases h4
    | some o =>
      obtain⟨h1,h2,_⟩:=F.rkAhead h0 hah
      exact Ck F n o (by omega) h2
theorem Fp (K:Ok es s)(L:Lo s Y)(hB:zg s B)(ht:s.up B=none)(ha:a<(s.mem B).length)(hh:YQ es s B ((s.mem B).getD a 0)):Lo (zr s B a) Y:=by
  have K0:=K.ok0
  refine⟨fun t htt hm=>?_,L.low,L.y0⟩
  show s.y (s.base t)=Y;rcases (Zy K0 hB).1 htt with⟨h1,h2⟩ | hm2
  · have nm:¬t∈s.mem B:=fun q=>by have:=(K0.memUp hB q).1;rw[h1.2.1] at this;cases this
    have:(zr s B a).mate t=s.mate t:=by simp only[zr];rw[if_neg nm]
    exact L.free t h1 (this▸hm)
  · obtain⟨hq,hqt⟩:=Yg hm2
    obtain⟨q,hqe⟩:∃q,q=(s.mem B).idxOf t:=⟨_,rfl⟩;rw[←hqe] at hq hqt;subst hqt;rw[Qd K0 hB hq] at hm;unfold opM at hm;split at hm
    · next d0 =>
      have hqa:q=a:=by unfold dst at d0;split at d0<;>omega
      subst hqa;have hw:=hh.2 hm;obtain⟨j,j1,j2⟩:=K.baseM B hB;obtain⟨c1,c2,c3,c4⟩:=K0.memUp hB j1;obtain⟨b1,b2⟩:=K.base j c3 c4;rw[←j2] at b2;have hmq:=K0.memUp hB hm2
      have e1:j=(s.mem B).getD q 0:=by
        rcases b2.chain hw with g | g
        · rcases g.last with k | ⟨m,k1,k2⟩
          · exact k
          · exfalso
            cases g with
            | refl=>have:=(K0.up _ _ k1).1;have:=k2.le K.upOk;omega
            | step k3 k4 =>
              rw[c1] at k3;cases k3;have:=k4.le K.upOk;omega
        · cases g with
          | refl=>rfl
          | step k3 k4 =>
            rw[hmq.1] at k3;cases k3;have:=k4.le K.upOk;omega
      rw[←e1,←j2];exact L.free B ⟨hB.2.1,ht,hB.2.2⟩ hm
    · split at hm<;>cases hm
end
theorem zbT {s s':Sv}(h:∀v,s'.up v=s.up v){u v:Nat}:Wi s' u v↔Wi s u v:=by
  constructor
  · intro k
    induction k with
    | refl=>exact .refl _
    | step e _ ih=>exact .step (by rw[←h];exact e) ih
  · intro k
    induction k with
    | refl=>exact .refl _
    | step e _ ih=>exact .step (by rw[h];exact e) ih
def Z6 (s:Sv)(m:Nat→Option Nat):Sv:={ s with mate:=m }
section
variable {es:List E}{s:Sv}{m:Nat→Option Nat}{e a b u v:Nat}
theorem vN:Wi (Z6 s m) u v↔Wi s u v:=zbT (s:=s) (s':=Z6 s m) fun _=>rfl
theorem Cd:Jn es (Z6 s m) e a b↔Jn es s e a b:=by
  unfold Jn;rw[vN,vN,vN,vN]
theorem Bk:slk es (Z6 s m) e=slk es s e:=by
  unfold slk
  have:qJ (Z6 s m) (vA es e) (vB es e) s.N=qJ s (vA es e) (vB es e) s.N:=jo _ (fun p _ _=>⟨by rw[vN,vN],fun _ _=>rfl⟩) rfl
  show s.y _+s.y _-_+qJ (Z6 s m) _ _ s.N=_;rw[this]
theorem xU:Ze es (Z6 s m) e↔Ze es s e:=by unfold Ze;rw[Bk]
theorem zcG (K:Ok es s)(hm:∀t e,zc s t→m t=some e→Ze es s e∧∃o,zc s o∧o≠t∧m o=some e∧Jn es s e t o):Ok es (Z6 s m) :=
  ⟨K.nN,K.ed,K.up,K.ring,fun p hp=>⟨(K.lnk p hp).1,fun j hj=>⟨Cd.2 ((K.lnk p hp).2 j hj).1,xU.2 ((K.lnk p hp).2 j hj).2⟩⟩,K.gone,fun t e ht h=>by
    obtain⟨h1,o,h2,h3,h4,h5⟩:=hm t e ht h
    exact⟨xU.2 h1,o,h2,h3,h4,Cd.2 h5⟩,fun t h1 h2=>⟨(K.base t h1 h2).1,vN.2 (K.base t h1 h2).2⟩,K.baseM,fun e he=>by rw[Bk];exact K.feas e he,K.z0,fun p u v hp hu hv h1 h2=>K.par p u v hp hu hv (vN.1 h1) (vN.1 h2)⟩
end
def uC (l:Lb)(e:Nat)(xs:List Nat)(j:Nat):Option Nat:=if j=0 then some e else if j%2=1 then l.byE (xs.getD j 0) else l.byE (xs.getD (j-1) 0)
def qL (s:Sv)(l:Lb)(e:Nat)(xs ys:List Nat)(t:Nat):Option Nat:=if t∈xs then uC l e xs (xs.idxOf t) else if t∈ys then uC l e ys (ys.idxOf t) else s.mate t
structure Aug (es:List E)(s:Sv)(l:Lb)(rk:Nat→Nat)(e:Nat)(xs ys:List Nat):Prop where
  F:Fo es s l rk
  wx:qc l xs
  wy:qc l ys
  x0:l.lab (xs.getD 0 0)=1
  y0:l.lab (ys.getD 0 0)=1
  tight:Ze es s e
  cn:Jn es s e (xs.getD 0 0) (ys.getD 0 0)
  dis:∀t,t∈xs→¬t∈ys
section
variable {es:List E}{s:Sv}{l:Lb}{rk:Nat→Nat}{e f t o j:Nat}{xs ys:List Nat}
theorem VE (h:qc l xs):0<xs.length:=by
  cases xs with
  | nil=>exact h.elim
  | cons x xs=>simp
theorem FD (F:Fo es s l rk)(h:qc l xs)(h0:l.lab (xs.getD 0 0)=1):xs.Nodup:=by
  rw[List.nodup_iff_pairwise_ne,List.pairwise_iff_getElem];intro p q hp hq hpq he
  have:=U3 F h h0 hp hq (by simpa[List.getD,hp,hq] using he)
  omega
theorem gf (F:Fo es s l rk)(h:qc l xs)(h0:l.lab (xs.getD 0 0)=1):xs.length%2=1:=by
  have hp:=VE h
  have h1:=ZA F h h0 (xs.length-1) (by omega)
  have h2:=Jr h;apply Classical.byContradiction
  intro q
  obtain⟨a,_,_,_,h3,_⟩:=F.odd (xs.getD (xs.length-1) 0) (by omega)
  rw[h2] at h3;cases h3
theorem zax {zs:List Nat}(h:zs.Nodup)(hj:j<zs.length):zs.idxOf (zs.getD j 0)=j:=by
  have e1:zs.getD j 0=zs[j]:=by simp[List.getD,hj]
  rw[e1];exact h.idxOf_getElem j hj
theorem Gv {zs:List Nat}(h:t∈zs):zs.idxOf t<zs.length∧zs.getD (zs.idxOf t) 0=t:=by
  have h1:=List.idxOf_lt_length_iff.2 h;refine⟨h1,?_⟩;rw[List.getD_eq_getElem?_getD,List.getElem?_eq_getElem h1,Option.getD_some,List.getElem_idxOf h1]
theorem Jt (F:Fo es s l rk)(K:Ok es s)(h:qc l xs)(h0:l.lab (xs.getD 0 0)=1)(ho:o∈xs)(hm:s.mate o=some f)(ht:zc s t)(hmt:s.mate t=some f):t∈xs:=by
  obtain⟨i1,i2⟩:=Gv ho;obtain⟨j,hj⟩:∃j,j=xs.idxOf o:=⟨_,rfl⟩;rw[←hj] at i1 i2;subst i2;have hl:=ZA F h h0;have hodd:=gf F h h0;have l1:=hl j i1
  have to:zc s (xs.getD j 0):=F.top _ (by omega)
  by_cases p:j%2=0
  · by_cases last:j+1=xs.length
    · have h2:=Jr h
      rw[show xs.length-1=j by omega] at h2
      have:=F.free _ (by omega) h2
      rw[hm] at this;cases this
    · have nx:=qf (j:=j) h (by omega)
      obtain⟨_,_,f1,a1,a2,_,_⟩:=F.even _ _ (show l.lab (xs.getD j 0)=1 by omega) nx
      rw[hm] at a1;cases a1
      have l2:=hl (j+1) (by omega)
      rcases K.mate2 to (F.top _ (by omega)) ht hm a2 hmt (fun q=>by rw[q] at l2;omega) with q | q
      · rw[q];exact zw i1
      · rw[q];exact zw (by omega)
  · have l2:=hl (j-1) (by omega)
    have nx:=qf (j:=j-1) h (by omega)
    rw[show j-1+1=j by omega] at nx
    obtain⟨_,_,f1,a1,a2,_,_⟩:=F.even _ _ (show l.lab (xs.getD (j-1) 0)=1 by omega) nx
    rw[hm] at a2;cases a2
    rcases K.mate2 to (F.top _ (by omega)) ht hm a1 hmt (fun q=>by rw[q] at l2;omega) with q | q
    · rw[q];exact zw i1
    · rw[q];exact zw (by omega)
theorem Ju (F:Fo es s l rk)(K:Ok es s)(h:qc l xs)(h0:l.lab (xs.getD 0 0)=1)(hj:j<xs.length)(j0:j≠0):∃f k,k<xs.length∧k≠j∧k≠0∧uC l e xs j=some f∧uC l e xs k=some f∧Jn es s f (xs.getD j 0) (xs.getD k 0)∧Ze es s f:=by
  have hl:=ZA F h h0;have hodd:=gf F h h0
  by_cases p:j%2=1
  · have l1:=hl j hj
    have nx:=qf (j:=j) h (by omega)
    obtain⟨c1,c2⟩:=UG F K (by omega) nx
    obtain⟨_,f,_,_,_,_,_,h4,_⟩:=F.odd (xs.getD j 0) (by omega)
    rw[h4,Option.getD_some] at c1 c2
    refine⟨f,j+1,by omega,by omega,by omega,?_,?_,c1.symm,c2⟩
    · unfold uC;rw[if_neg j0,if_pos p];exact h4
    · unfold uC;rw[if_neg (by omega),if_neg (by omega),Nat.add_sub_cancel];exact h4
  · have l1:=hl (j-1) (by omega)
    have nx:=qf (j:=j-1) h (by omega)
    rw[show j-1+1=j by omega] at nx
    obtain⟨c1,c2⟩:=UG F K (by omega) nx
    obtain⟨_,f,_,_,_,_,_,h4,_⟩:=F.odd (xs.getD (j-1) 0) (by omega)
    rw[h4,Option.getD_some] at c1 c2
    refine⟨f,j-1,by omega,by omega,by omega,?_,?_,c1,c2⟩
    · unfold uC;rw[if_neg j0,if_neg p];exact h4
    · unfold uC;rw[if_neg (by omega),if_pos (by omega)];exact h4
theorem Aug.fx (A:Aug es s l rk e xs ys)(hj:j<xs.length):qL s l e xs ys (xs.getD j 0)=uC l e xs j:=by
  unfold qL;rw[if_pos (zw hj),zax (FD A.F A.wx A.x0) hj]
theorem Aug.fy (A:Aug es s l rk e xs ys)(hj:j<ys.length):qL s l e xs ys (ys.getD j 0)=uC l e ys j:=by
  unfold qL
  rw[if_neg (fun q=>A.dis _ q (zw hj)),if_pos (zw hj),zax (FD A.F A.wy A.y0) hj]
theorem gA (A:Aug es s l rk e xs ys)(K:Ok es s):Ok es (Z6 s (qL s l e xs ys)):=by
  have px:=VE A.wx;have py:=VE A.wy
  have tx:∀j,j<xs.length→zc s (xs.getD j 0):=fun j hj=>A.F.top _ (by have:=ZA A.F A.wx A.x0 j hj;omega)
  have ty:∀j,j<ys.length→zc s (ys.getD j 0):=fun j hj=>A.F.top _ (by have:=ZA A.F A.wy A.y0 j hj;omega)
  have nexy:∀i j,i<xs.length→j<ys.length→ys.getD j 0≠xs.getD i 0:=fun i j hi hj q=>A.dis _ (zw hi) (q▸zw hj)
  refine zcG K fun t f ht hf=>?_
  by_cases hx:t∈xs
  · obtain⟨i1,i2⟩:=Gv hx
    obtain⟨j,hj⟩:∃j,j=xs.idxOf t:=⟨_,rfl⟩;rw[←hj] at i1 i2;subst i2;rw[A.fx i1] at hf
    by_cases j0:j=0
    · subst j0
      have:e=f:=by simpa[uC] using hf
      subst this
      exact⟨A.tight,ys.getD 0 0,ty 0 py,nexy 0 0 px py,by rw[A.fy py];rfl,A.cn⟩
    · obtain⟨g,k,k1,k2,k3,k4,k5,k6,k7⟩:=Ju (e:=e) A.F K A.wx A.x0 i1 j0
      rw[k4] at hf;cases hf
      exact⟨k7,xs.getD k 0,tx k k1,fun q=>k2 (U3 A.F A.wx A.x0 k1 i1 q),by rw[A.fx k1];exact k5,k6⟩
  · by_cases hy:t∈ys
    · obtain⟨i1,i2⟩:=Gv hy
      obtain⟨j,hj⟩:∃j,j=ys.idxOf t:=⟨_,rfl⟩;rw[←hj] at i1 i2;subst i2;rw[A.fy i1] at hf
      by_cases j0:j=0
      · subst j0
        have:e=f:=by simpa[uC] using hf
        subst this
        exact⟨A.tight,xs.getD 0 0,tx 0 px,(nexy 0 0 px py).symm,by rw[A.fx px];rfl,A.cn.symm⟩
      · obtain⟨g,k,k1,k2,k3,k4,k5,k6,k7⟩:=Ju (e:=e) A.F K A.wy A.y0 i1 j0
        rw[k4] at hf;cases hf
        exact⟨k7,ys.getD k 0,ty k k1,fun q=>k2 (U3 A.F A.wy A.y0 k1 i1 q),by rw[A.fy k1];exact k5,k6⟩
    · have hf':s.mate t=some f:=by unfold qL at hf;rw[if_neg hx,if_neg hy] at hf;exact hf
      obtain⟨h1,o,h2,h3,h4,h5⟩:=K.mate t f ht hf'
      have ox:¬o∈xs:=fun q=>hx (Jt A.F K A.wx A.x0 q h4 ht hf')
      have oy:¬o∈ys:=fun q=>hy (Jt A.F K A.wy A.y0 q h4 ht hf')
      exact⟨h1,o,h2,h3,by unfold qL;rw[if_neg ox,if_neg oy];exact h4,h5⟩
theorem jr (A:Aug es s l rk e xs ys)(K:Ok es s)(hm:qL s l e xs ys t=none):s.mate t=none∧¬t∈xs∧¬t∈ys:=by
  have nx:¬t∈xs:=fun q=>by
    obtain⟨i1,i2⟩:=Gv q;rw[←i2,A.fx i1] at hm
    by_cases j0:xs.idxOf t=0
    · rw[j0] at hm;cases hm
    · obtain⟨f,_,_,_,_,k4,_⟩:=Ju (e:=e) A.F K A.wx A.x0 i1 j0
      rw[k4] at hm;cases hm
  have ny:¬t∈ys:=fun q=>by
    obtain⟨i1,i2⟩:=Gv q;rw[←i2,A.fy i1] at hm
    by_cases j0:ys.idxOf t=0
    · rw[j0] at hm;cases hm
    · obtain⟨f,_,_,_,_,k4,_⟩:=Ju (e:=e) A.F K A.wy A.y0 i1 j0
      rw[k4] at hm;cases hm
  unfold qL at hm;rw[if_neg nx,if_neg ny] at hm;exact⟨hm,nx,ny⟩
theorem BG {Y:Int}(A:Aug es s l rk e xs ys)(K:Ok es s)(L:Lo s Y):Lo (Z6 s (qL s l e xs ys)) Y :=
  ⟨fun t ht hm=>L.free t ht (jr A K hm).1,L.low,L.y0⟩
theorem DA (A:Aug es s l rk e xs ys)(K:Ok es s):∃r,zc s r∧s.mate r=none∧(qL s l e xs ys r).isSome=true:=by
  have px:=VE A.wx
  have h1:=ZA A.F A.wx A.x0 (xs.length-1) (by omega)
  have h2:=Jr A.wx;have h3:=gf A.F A.wx A.x0
  refine⟨xs.getD (xs.length-1) 0,A.F.top _ (by omega),A.F.free _ (by omega) h2,?_⟩
  cases hm:qL s l e xs ys (xs.getD (xs.length-1) 0) with
  | some f=>rfl
  | none=>exact absurd (zw (by omega)) (jr A K hm).2.1
end
end Go.Proofs.Ytafhipglhnfgnaa.Ab
