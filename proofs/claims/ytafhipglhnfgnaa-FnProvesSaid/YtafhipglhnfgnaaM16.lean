/- Joined: K95, K96, K97, K98, K99, K100. No conditions. -/
import Derived.Test.YtafhipglhnfgnaaM15
set_option linter.unusedSimpArgs false
set_option linter.unusedVariables false
set_option linter.unnecessarySimpa false
set_option maxHeartbeats 4000000
namespace Go.Proofs.Ytafhipglhnfgnaa.Ab
open Go.RowKit
def MeetAt (es:List E) (s:Sv) (l:Lb) (e:Nat):Prop:=e < es.length∧Tight es s e∧top s (vA es e)≠top s (vB es e)∧l.lab (top s (vA es e))=1∧l.lab (top s (vB es e))=1
section
variable {X:CallF} {g:Tags} {h:Heap} {b k t:Nat} {es:List E} {s:Sv} {M:List Lk} {dn:Bool} {V:RV} {size:Int}
theorem zeros1:∀ {n:Nat},zeros [Value.int .i64 0] n=(ints (natI (List.replicate n 0))).flatten
  | 0=>rfl
  | n+1=>by
    have ih:=zeros1 (n:=n);show [Value.int .i64 0]++zeros [Value.int .i64 0] n=_;rw [ih,List.replicate_succ];rfl
theorem zeros2:∀ {n:Nat},zeros [Value.int .i64 0,Value.int .i64 0] n=((List.replicate n l0).map lkR).flatten
  | 0=>rfl
  | n+1=>by
    have ih:=zeros2 (n:=n);show [Value.int .i64 0,Value.int .i64 0]++zeros [Value.int .i64 0,Value.int .i64 0] n=_;rw [ih,List.replicate_succ];rfl
theorem mk_at {h:Heap} {sz N:Nat} {ty:TypeId} {z:List Value} (hN:N≤lim):mkW h sz ty z (.int .i64 (N:Nat))=some (slv h.length N,h++[⟨zeros z N,sz,ty,true⟩]):=by
  unfold mkW;simp only
  rw [if_pos ⟨by omega,by omega⟩]
  rfl
def tpH (h:Heap) (N:Nat):Heap:=h++[⟨zeros [.int .i64 0] N,1,y_int,true⟩]++[⟨zeros [.int .i64 0,.int .i64 0] N,2,y_l10Link,true⟩]++[⟨zeros [.int .i64 0] N,1,y_int,true⟩]++[⟨[slv h.length N,slv (h.length+1) N,slv (h.length+2) N],3,y_l10Tops,true⟩]
theorem tp_new {N:Nat}:Tp (tpH h N) h.length N (List.replicate N 0) (List.replicate N l0) (List.replicate N 0):=by
  unfold tpH
  refine ⟨by simp,⟨fun r hr=>?_,.inr ⟨h.length,Nat.le_refl _,Nat.lt_succ_self _,?_,?_⟩⟩,⟨fun r hr=>?_,.inr ⟨h.length+1,Nat.le_refl _,Nat.lt_succ_self _,?_,?_⟩⟩,⟨fun r hr=>?_,.inr ⟨h.length+2,Nat.le_refl _,Nat.lt_succ_self _,?_,?_⟩⟩,by simp⟩
  · simp [ints] at hr;obtain ⟨x,_,rfl⟩:=hr;rfl
  · rw [ints_len,natI_len,List.length_replicate];rfl
  · rw [← zeros1];simp
  · obtain ⟨x,_,rfl⟩:=List.mem_map.1 hr;rfl
  · rw [List.length_map,List.length_replicate];rfl
  · rw [← zeros2];simp
  · simp [ints] at hr;obtain ⟨x,_,rfl⟩:=hr;rfl
  · rw [ints_len,natI_len,List.length_replicate];rfl
  · rw [← zeros1];simp
theorem tp_len {N:Nat}:(tpH h N).length=h.length+4:=by unfold tpH;simp
theorem tp_pre {N:Nat}:h <+: tpH h N:=by unfold tpH;simp [List.append_assoc]
theorem live_top {v a:Nat} (K:Ok es s) (w:Wi s v a) (hv:v < s.n):s.gone a=false:=by
  rcases w.last with e | ⟨m,e,_⟩
  · cases hg:s.gone a with
    | false=>rfl
    | true=>have:=(K.gone a hg).1;omega
  · exact (K.up _ _ e).2.1.2.2
set_option maxRecDepth 100000 in
open Classical in
theorem k_l10Label (R : Rn g h b es s M k dn V) (K : Ok es s) (hs : Sm s) (m : MtOk es s M) (gk : GOk size es) (he9 : es.length ≤ 1000) :
    ∃ hh l rk L A Q,∃ r:Int,C T X n_spec_l10Label [p7 b 0] h=some (.tuple ⟨[p3 (h.length+3) 0,.int .i64 r]⟩,hh)∧h <+: hh∧hh.length=h.length+4∧Fo es s l rk∧Tl es s l L A Q∧Tp hh h.length s.N L A Q∧((r=-1∧Stuck es s l)∨∃ e:Nat,r=e∧MeetAt es s l e):=by
  suffices hx:∃ w hh,C T X n_spec_l10Label [p7 b 0] h=some (w,hh)∧∃ l rk L A Q,∃ r:Int,w=.tuple ⟨[p3 (h.length+3) 0,.int .i64 r]⟩∧h <+: hh∧hh.length=h.length+4∧Fo es s l rk∧Tl es s l L A Q∧Tp hh h.length s.N L A Q∧((r=-1∧Stuck es s l)∨∃ e:Nat,r=e∧MeetAt es s l e) by
    obtain ⟨w,hh,c,l,rk,L,A,Q,r,rfl,q⟩:=hx;exact ⟨hh,l,rk,L,A,Q,r,c,q⟩
  refine C_ex t_spec_l10Label rfl ?_;unfold F_spec_l10Label;have hu:=K.upOk;have h9:=hs.N;have nN:=K.nN
  have hM:∀ x∈M,x.f < s.N∧x.t < s.N:=fun x hx=>by
    obtain ⟨e,h1,_⟩:=m.of x hx;have:=ends_lt K h1;omega
  have hlim:(0:Int)≤((s.N:Nat):Int)∧((s.N:Nat):Int)≤(lim:Int):=⟨by omega,by unfold lim;omega⟩
  have sc:∀ c n,cellsOf (slv c n)=some [slv c n]:=fun _ _=>rfl
  obtain ⟨h1,hh1⟩:∃ h1:Heap,h1=h++[⟨zeros [.int .i64 0] s.N,1,y_int,true⟩]:=⟨_,rfl⟩;obtain ⟨h2,hh2⟩:∃ h2:Heap,h2=h1++[⟨zeros [.int .i64 0,.int .i64 0] s.N,2,y_l10Link,true⟩]:=⟨_,rfl⟩;obtain ⟨h3,hh3⟩:∃ h3:Heap,h3=h2++[⟨zeros [.int .i64 0] s.N,1,y_int,true⟩]:=⟨_,rfl⟩
  have ln1:h1.length=h.length+1:=by rw [hh1];simp
  have ln2:h2.length=h.length+2:=by rw [hh2];simp [ln1]
  have ln3:h3.length=h.length+3:=by rw [hh3];simp [ln2]
  have m1:mkW h 1 y_int [.int .i64 0] (.int .i64 (s.N:Nat))=some (slv h.length s.N,h1):=by rw [hh1];exact mk_at (by unfold lim;omega)
  have m2:mkW h1 2 y_l10Link [.int .i64 0,.int .i64 0] (.int .i64 (s.N:Nat))=some (slv (h.length+1) s.N,h2):=by rw [hh2,← ln1];exact mk_at (by unfold lim;omega)
  have m3:mkW h2 1 y_int [.int .i64 0] (.int .i64 (s.N:Nat))=some (slv (h.length+2) s.N,h3):=by rw [hh3,← ln2];exact mk_at (by unfold lim;omega)
  have m4:bxW h3 y_l10Tops 3 (.agg ⟨[slv h.length s.N,slv (h.length+1) s.N,slv (h.length+2) s.N]⟩)=some (p3 (h.length+3) 0,tpH h s.N):=by
    have e:tpH h s.N=h3++[⟨[slv h.length s.N,slv (h.length+1) s.N,slv (h.length+2) s.N],3,y_l10Tops,true⟩]:=by rw [hh3,hh2,hh1];rfl
    rw [e,← ln3];rfl
  simp only [R.chk,R.fa,R.ld3,R.nln,Nat.zero_add,hlim,m1,m2,m3,m4,sc,List.cons_append,List.nil_append,List.length_cons,List.length_nil,go_sem]
  refine w_for s.N (fun i t loc h'=>t 0=p7 b 0∧t 4=.int .i64 (s.N:Nat)∧t 5=p3 (h.length+3) 0∧t 6=.int .i64 (i:Nat)∧h <+: h'∧h'.length=h.length+4∧∃ L Q,Tp h' h.length s.N L (List.replicate s.N l0) Q∧(∀ j,j < i→L.getD j 0=(freshL s).lab j∧((freshL s).lab j≠0→Q.getD j 0=j))∧∀ j,i≤j→L.getD j 0=0) ⟨rfl,rfl,rfl,rfl,tp_pre,tp_len,_,_,tp_new,fun j hj=>by omega,fun j _=>?_⟩ ?_
  · rw [List.getD_eq_getElem?_getD,List.getElem?_replicate]
    split<;>rfl
  rintro i t loc h' hi ⟨t0,t4,t5,t6,hp,hl,L,Q,P,hj,hj0⟩;simp only [t4,t6,go_sem]
  refine w_open (by simp only [go_sem];rfl) ?_ ?_<;>intro hc
  · have hi1:i < s.N:=by omega
    have hw:IntKind.i64.wrap ((i:Int)+1)=((i+1:Nat):Int):=w64 (by omega) (by omega)
    have R':=R.up hp;have c1:=k_l10Mate (X:=X) (i:=i) R' hu hM m.le;unfold mateV at c1;have c2:=k_l10IsTop (X:=X) R' hi1
    have keep:(freshL s).lab i=0→(∀ j,j < i+1→L.getD j 0=(freshL s).lab j∧((freshL s).lab j≠0→Q.getD j 0=j))∧∀ j,i+1≤j→L.getD j 0=0:=fun h0=>⟨fun j hj'=>by
      by_cases e:j=i
      · rw [e];exact ⟨by rw [hj0 i (Nat.le_refl _),h0],fun q=>absurd h0 q⟩
      · exact hj j (by omega),fun j hj'=>hj0 j (by omega)⟩
    by_cases ht:IsTop s i
    · rw [tP_t ht] at c2
      have hiff:=mateL_iff K m ht
      cases hm:mateL s i M with
      | some x =>
        rw [hm] at c1 hiff;obtain ⟨e,he⟩:=hiff.1 rfl
        have h0:(freshL s).lab i=0:=by simp [freshL,he]
        simp only [Option.getD_some,Option.isSome_some,lkR] at c1;obtain ⟨k1,k2⟩:=keep h0;simp only [t0,t4,t5,t6,c1,c2,hw,List.prefix_refl,go_sem];exact ⟨hi1,hp,hl,L,Q,P,k1,k2⟩
      | none =>
        rw [hm] at c1;have hmn:=mateL_none K m hm ht
        have h1':(freshL s).lab i=1:=by simp [freshL,hmn,ht]
        simp only [Option.getD_none,Option.isSome_none,lkR] at c1;obtain ⟨h4,e4,s4,P4⟩:=P.stl hi1 1;obtain ⟨h5,e5,s5,P5⟩:=P4.stq hi1 i;have one:((1:Nat):Int)=1:=rfl;rw [one] at e4;have hp5:h <+: h5:=s5.pre (s4.pre hp (Nat.le_refl _)) (Nat.le_refl _);simp only [t0,t4,t5,t6,c1,c2,hw,P.chk,P.fa,P.ld0,(P.lel hi1).1,e4,P4.chk,P4.fa,P4.ld2,(P4.qel hi1).1,e5,Nat.zero_add,List.prefix_refl,go_sem]
        refine ⟨hi1,hp5,by rw [s5.len,s4.len,hl],_,_,P5,fun j hj'=>?_,fun j hj'=>?_⟩
        · by_cases e:j=i
          · rw [e,gset_self (by rw [P.ln.1];exact hi1),h1']
            exact ⟨rfl,fun _=>gset_self (by rw [P.ln.2.2];exact hi1)⟩
          · rw [gset_ne (Ne.symm e),gset_ne (Ne.symm e)]
            exact hj j (by omega)
        · rw [gset_ne (by omega)]
          exact hj0 j (by omega)
    · rw [tP_f ht] at c2
      have h0:(freshL s).lab i=0:=by simp [freshL,ht]
      obtain ⟨k1,k2⟩:=keep h0;simp only [t0,t4,t5,t6,c1,c2,hw,lkR_len,List.prefix_refl,go_sem];exact ⟨hi1,hp,hl,L,Q,P,k1,k2⟩
  have hiN:i=s.N:=by omega
  subst hiN
  have D0:Tl es s (freshL s) L (List.replicate s.N l0) Q:=fresh_tl P.ln (fun j hj'=>(hj j hj').1) fun j hj'=>(hj j hj').2
  simp only [t0,t5,go_sem]
  refine w_meas (cnt0 s.N (freshL s)+1) (fun mo t loc h'=>t 0=p7 b 0∧t 5=p3 (h.length+3) 0∧h <+: h'∧h'.length=h.length+4∧∃ l rk L A Q fd,t 9=.bool fd∧Fo es s l rk∧Tl es s l L A Q∧Tp h' h.length s.N L A Q∧((fd=true∧mo=cnt0 s.N l+1)∨(fd=false∧mo=0∧Stuck es s l))) ⟨rfl,rfl,hp,hl,_,_,_,_,_,true,rfl,fresh_fo,D0,P,.inl ⟨rfl,rfl⟩⟩ ?_
  clear hj hj0 D0 P hp hl t0 t4 t5 t6 hc hi
  clear t loc h' L Q
  rintro mo t loc h' ⟨t0,t5,hp,hl,l,rk,L,A,Q,fd,t9,F,D,P,hfd⟩;rcases hfd with ⟨rfl,hmo⟩ | ⟨rfl,hmo,hst⟩
  rotate_left
  · simp only [t0,t5,t9,go_sem]
    rw [finish_deep rfl];exact ⟨rfl,l,rk,L,A,Q,-1,rfl,hp,hl,F,D,P,.inl ⟨rfl,hst⟩⟩
  simp only [t0,t5,t9,go_sem]
  refine w_meas (es.length+1) (fun mi t loc h'=>t 0=p7 b 0∧t 5=p3 (h.length+3) 0∧h <+: h'∧h'.length=h.length+4∧∃ l' rk' L A Q fd,∃ i:Nat,t 9=.bool fd∧t 10=.int .i64 (i:Nat)∧i≤es.length∧Fo es s l' rk'∧Tl es s l' L A Q∧Tp h' h.length s.N L A Q∧((fd=false∧mi+i=es.length+1∧cnt0 s.N l'=cnt0 s.N l∧∀ e,e < i→Pass es s l' e)∨(fd=true∧mi=0∧cnt0 s.N l' < cnt0 s.N l))) ⟨rfl,rfl,hp,hl,l,rk,L,A,Q,false,0,rfl,rfl,Nat.zero_le _,F,D,P,.inl ⟨rfl,rfl,rfl,fun e he=>by omega⟩⟩ ?_
  clear F D P hp hl t0 t5 t9
  clear t loc h' L A Q
  rintro mi t loc h' ⟨t0,t5,hp,hl,l',rk',L,A,Q,fd,i,t9,t10,hie,F,D,P,hfd⟩;have R':=R.up hp;rcases hfd with ⟨rfl,hmi,hcn,hps⟩ | ⟨rfl,hmi,hcn⟩
  rotate_left
  · -- found: on with the next look
    by_cases ci:(i:Int) < (es.length:Int)
    · simp only [t0,t5,t9,t10,R'.chk,R'.fa,R'.ld1,R'.eln,ci,Nat.zero_add,go_sem]
      exact ⟨cnt0 s.N l'+1,by omega,hp,hl,l',rk',L,A,Q,true,rfl,F,D,P,.inl ⟨rfl,rfl⟩⟩
    · simp only [t0,t5,t9,t10,R'.chk,R'.fa,R'.ld1,R'.eln,ci,Nat.zero_add,go_sem]
      exact ⟨cnt0 s.N l'+1,by omega,hp,hl,l',rk',L,A,Q,true,rfl,F,D,P,.inl ⟨rfl,rfl⟩⟩
  by_cases ci:(i:Int) < (es.length:Int)
  rotate_left
  · simp only [t0,t5,t9,t10,R'.chk,R'.fa,R'.ld1,R'.eln,ci,Nat.zero_add,go_sem]
    exact ⟨0,by omega,hp,hl,l',rk',L,A,Q,false,rfl,F,D,P,.inr ⟨rfl,rfl,pass_stuck K fun e he=>hps e (by omega)⟩⟩
  have hi1:i < es.length:=by omega
  have hw:IntKind.i64.wrap ((i:Int)+1)=((i+1:Nat):Int):=w64 (by omega) (by omega)
  obtain ⟨hE,hEB⟩:=K.ed i hi1;obtain ⟨ga,gb,_⟩:=gok_int gk hi1;have el:=R'.ev.el (f:=edgeR) e0 hi1;have csl:=k_l10Slack (X:=X) R' K hs gk hi1
  have cta:=k_l10Top (X:=X) R' hu (v:=vA es i) (by omega)
  have ctb:=k_l10Top (X:=X) R' hu (v:=vB es i) (by omega)
  obtain ⟨q,hq⟩:∃ q,q=es.getD i e0:=⟨_,rfl⟩;rw [← hq] at el csl ga gb;unfold edgeV at csl
  have er:edgeR q=[.int .i64 (vA es i:Nat),.int .i64 (vB es i:Nat),.int .i64 q.w1,.int .i64 q.w2,.int .i64 q.w3]:=by unfold edgeR;rw [ga,gb]
  rw [er] at el csl;obtain ⟨a,hA⟩:∃ a,a=top s (vA es i):=⟨_,rfl⟩;obtain ⟨c,hC⟩:∃ c,c=top s (vB es i):=⟨_,rfl⟩;rw [← hA] at cta;rw [← hC] at ctb
  have aN:a < s.N:=by rw [hA];exact top_lt hu (by omega)
  have cN:c < s.N:=by rw [hC];exact top_lt hu (by omega)
  have wa:Wi s (vA es i) a:=by rw [hA];exact top_in hu
  have wc:Wi s (vB es i) c:=by rw [hC];exact top_in hu
  have la:=D.lab a aN;have lc:=D.lab c cN;obtain ⟨x1,x2⟩:=P.lel aN;obtain ⟨y1,y2⟩:=P.lel cN;rw [la] at x2;rw [lc] at y2;have two1:=F.two a;have two2:=F.two c
  have go:Pass es s l' i→∀ e,e < i+1→Pass es s l' e:=fun hpi e he=>by
    by_cases h:e=i
    · rw [h];exact hpi
    · exact hps e (by omega)
  by_cases k1:(a:Int)=(c:Int)
  · simp only [t0,t5,t9,t10,R'.chk,R'.fa,R'.ld1,R'.eln,ci,el.1,el.2.1,el.2.2,cta,ctb,k1,hw,Nat.zero_add,zeros,fillAt,List.prefix_refl,go_sem]
    exact ⟨mi - 1,by omega,hp,hl,l',rk',L,A,Q,false,i+1,rfl,rfl,by omega,F,D,P,.inl ⟨rfl,by omega,hcn,go fun _ h=>absurd (by rw [← hA,← hC];omega) h⟩⟩
  by_cases k2:slk es s i=0
  rotate_left
  · simp only [t0,t5,t9,t10,R'.chk,R'.fa,R'.ld1,R'.eln,ci,el.1,el.2.1,el.2.2,cta,ctb,csl,k1,k2,hw,Nat.zero_add,zeros,fillAt,List.prefix_refl,go_sem]
    exact ⟨mi - 1,by omega,hp,hl,l',rk',L,A,Q,false,i+1,rfl,rfl,by omega,F,D,P,.inl ⟨rfl,by omega,hcn,go fun h=>absurd h k2⟩⟩
  have hne:a≠c:=by omega
  have passed:(l'.lab a≠1∧l'.lab c≠1)∨l'.lab a=2∨l'.lab c=2→Pass es s l' i:=fun hq _ _ hc=>by
    rw [← hA,← hC] at hc;omega
  have la3:l'.lab a=0∨l'.lab a=1∨l'.lab a=2:=by omega
  have lc3:l'.lab c=0∨l'.lab c=1∨l'.lab c=2:=by omega
  have n0:((0:Nat):Int)=0:=rfl;have n1:((1:Nat):Int)=1:=rfl;have n2:((2:Nat):Int)=2:=rfl;rcases la3 with la' | la' | la'
  · rw [la',n0] at x2
    rcases lc3 with lc' | lc' | lc'
    · rw [lc',n0] at y2
      simp only [t0,t5,t9,t10,R'.chk,R'.fa,R'.ld1,R'.eln,ci,el.1,el.2.1,el.2.2,cta,ctb,csl,k1,k2,P.chk,P.fa,P.ld0,x1,x2,y1,y2,hw,Nat.zero_add,zeros,fillAt,List.prefix_refl,go_sem]
      exact ⟨mi - 1,by omega,hp,hl,l',rk',L,A,Q,false,i+1,rfl,rfl,by omega,F,D,P,.inl ⟨rfl,by omega,hcn,go (passed (by omega))⟩⟩
    · rw [lc',n1] at y2
      have aT:IsTop s c:=F.top c (by omega)
      have cT:IsTop s a:=by
        refine ⟨aN,?_,?_⟩
        · rw [hA];exact top_up hu
        · exact live_top K wa (by omega) 
      obtain ⟨f,d,b1,b2,b3,b4,b5,b6⟩:=F.bare K cT (by omega)
      have cm:=k_l10Mate (X:=X) (i:=a) R' hu hM m.le;have hsome:=(mateL_iff K m cT).2 ⟨f,b1⟩;obtain ⟨y,hy⟩:=Option.isSome_iff_exists.1 hsome;obtain ⟨_,f',z1,z2,z3,z4,z5,z6⟩:=mateL_some K m hy;rw [b1] at z2;cases z2;have zd:top s y.t=d:=(K.mate2 cT b3 z4 b1 b2 z5 b4).resolve_left z6;rw [hy] at cm;unfold mateV at cm;simp only [Option.getD_some,Option.isSome_some,lkR] at cm
      have ytN:y.t < s.N:=by have:=ends_lt K z1;omega
      have cty:=k_l10Top (X:=X) R' hu (v:=y.t) ytN;rw [zd] at cty;have dN:d < s.N:=b3.1
      have ac:c≠a:=by omega
      have cd:a≠d:=fun q=>b4 q.symm
      have ad:c≠d:=fun q=>by rw [← q] at b6;omega
      have hx:IsE es i ⟨vB es i,vA es i⟩:=⟨hi1,.inr ⟨rfl,rfl⟩⟩
      have F':=F.grow K (show Tight es s i from k2) (a:=c) (b:=a) (c:=d) (e:=i) (f:=f) (show Jn es s i c a from ⟨hi1,.inr ⟨wc,wa⟩⟩) aT cT ac (by omega) (by omega) b1 b2 b3 b4 b5 b6
      have D':=grow_tl (x:=⟨vB es i,vA es i⟩) (y:=y) D F aT cT b3 (by omega) (by omega) b6 cd hx z1 (top_of hu wc aT.2.1) (top_of hu wa cT.2.1) z3 zd
      have hcn':=grow_cnt (a:=c) (e:=i) (f:=f) (N:=s.N) cT.1 (show l'.lab a=0 by omega) cd b6
      have t2:((2:Nat):Int)=2:=rfl;have t1:((1:Nat):Int)=1:=rfl;obtain ⟨h1,e1,s1,P1⟩:=P.stl cT.1 2;rw [t2] at e1;obtain ⟨h2,e2,s2,P2⟩:=P1.sta cT.1 ⟨vB es i,vA es i⟩;unfold lkR at e2;obtain ⟨h3,e3,s3,P3⟩:=P2.stq cT.1 (Q.getD c 0);obtain ⟨h4,e4,s4,P4⟩:=P3.stl dN 1;rw [t1] at e4;obtain ⟨h5,e5,s5,P5⟩:=P4.sta dN y;unfold lkR at e5;obtain ⟨h6,e6,s6,P6⟩:=P5.stq dN (Q.getD c 0);have q2:=(P2.qel aT.1).2;have q5:=(P5.qel aT.1).2;rw [gset_ne (Ne.symm ac)] at q5;have hp6:h <+: h6:=s6.pre (s5.pre (s4.pre (s3.pre (s2.pre (s1.pre hp (Nat.le_refl _)) (Nat.le_refl _)) (Nat.le_refl _)) (Nat.le_refl _)) (Nat.le_refl _)) (Nat.le_refl _)
      simp only [cm,cty,e1,e2,e3,e4,e5,e6,P1.chk,P1.fa,P1.ld1,P2.chk,P2.fa,P2.ld2,P3.chk,P3.fa,P3.ld0,P4.chk,P4.fa,P4.ld1,P5.chk,P5.fa,P5.ld2,(P1.ael cT.1).1,(P2.qel cT.1).1,(P2.qel aT.1).1,q2,(P3.lel dN).1,(P4.ael dN).1,(P5.qel dN).1,(P5.qel aT.1).1,q5,t0,t5,t9,t10,R'.chk,R'.fa,R'.ld1,R'.eln,ci,el.1,el.2.1,el.2.2,cta,ctb,csl,k1,k2,P.chk,P.fa,P.ld0,x1,x2,y1,y2,hw,Nat.zero_add,zeros,fillAt,List.prefix_refl,go_sem]
      exact ⟨0,by omega,hp6,by rw [s6.len,s5.len,s4.len,s3.len,s2.len,s1.len,hl],_,_,_,_,_,true,i+1,rfl,rfl,by omega,F',D',P6,.inr ⟨rfl,rfl,by omega⟩⟩
    · rw [lc',n2] at y2
      simp only [t0,t5,t9,t10,R'.chk,R'.fa,R'.ld1,R'.eln,ci,el.1,el.2.1,el.2.2,cta,ctb,csl,k1,k2,P.chk,P.fa,P.ld0,x1,x2,y1,y2,hw,Nat.zero_add,zeros,fillAt,List.prefix_refl,go_sem]
      exact ⟨mi - 1,by omega,hp,hl,l',rk',L,A,Q,false,i+1,rfl,rfl,by omega,F,D,P,.inl ⟨rfl,by omega,hcn,go (passed (by omega))⟩⟩
  · rw [la',n1] at x2
    rcases lc3 with lc' | lc' | lc'
    · rw [lc',n0] at y2
      have aT:IsTop s a:=F.top a (by omega)
      have cT:IsTop s c:=by
        refine ⟨cN,?_,?_⟩
        · rw [hC];exact top_up hu
        · exact live_top K wc (by omega) 
      obtain ⟨f,d,b1,b2,b3,b4,b5,b6⟩:=F.bare K cT (by omega)
      have cm:=k_l10Mate (X:=X) (i:=c) R' hu hM m.le;have hsome:=(mateL_iff K m cT).2 ⟨f,b1⟩;obtain ⟨y,hy⟩:=Option.isSome_iff_exists.1 hsome;obtain ⟨_,f',z1,z2,z3,z4,z5,z6⟩:=mateL_some K m hy;rw [b1] at z2;cases z2;have zd:top s y.t=d:=(K.mate2 cT b3 z4 b1 b2 z5 b4).resolve_left z6;rw [hy] at cm;unfold mateV at cm;simp only [Option.getD_some,Option.isSome_some,lkR] at cm
      have ytN:y.t < s.N:=by have:=ends_lt K z1;omega
      have cty:=k_l10Top (X:=X) R' hu (v:=y.t) ytN;rw [zd] at cty;have dN:d < s.N:=b3.1
      have ac:a≠c:=by omega
      have cd:c≠d:=fun q=>b4 q.symm
      have ad:a≠d:=fun q=>by rw [← q] at b6;omega
      have hx:IsE es i ⟨vA es i,vB es i⟩:=⟨hi1,.inl ⟨rfl,rfl⟩⟩
      have F':=F.grow K (show Tight es s i from k2) (a:=a) (b:=c) (c:=d) (e:=i) (f:=f) (show Jn es s i a c from ⟨hi1,.inl ⟨wa,wc⟩⟩) aT cT ac (by omega) (by omega) b1 b2 b3 b4 b5 b6
      have D':=grow_tl (x:=⟨vA es i,vB es i⟩) (y:=y) D F aT cT b3 (by omega) (by omega) b6 cd hx z1 (top_of hu wa aT.2.1) (top_of hu wc cT.2.1) z3 zd
      have hcn':=grow_cnt (a:=a) (e:=i) (f:=f) (N:=s.N) cT.1 (show l'.lab c=0 by omega) cd b6
      have t2:((2:Nat):Int)=2:=rfl;have t1:((1:Nat):Int)=1:=rfl;obtain ⟨h1,e1,s1,P1⟩:=P.stl cT.1 2;rw [t2] at e1;obtain ⟨h2,e2,s2,P2⟩:=P1.sta cT.1 ⟨vA es i,vB es i⟩;unfold lkR at e2;obtain ⟨h3,e3,s3,P3⟩:=P2.stq cT.1 (Q.getD a 0);obtain ⟨h4,e4,s4,P4⟩:=P3.stl dN 1;rw [t1] at e4;obtain ⟨h5,e5,s5,P5⟩:=P4.sta dN y;unfold lkR at e5;obtain ⟨h6,e6,s6,P6⟩:=P5.stq dN (Q.getD a 0);have q2:=(P2.qel aT.1).2;have q5:=(P5.qel aT.1).2;rw [gset_ne (Ne.symm ac)] at q5;have hp6:h <+: h6:=s6.pre (s5.pre (s4.pre (s3.pre (s2.pre (s1.pre hp (Nat.le_refl _)) (Nat.le_refl _)) (Nat.le_refl _)) (Nat.le_refl _)) (Nat.le_refl _)) (Nat.le_refl _)
      simp only [cm,cty,e1,e2,e3,e4,e5,e6,P1.chk,P1.fa,P1.ld1,P2.chk,P2.fa,P2.ld2,P3.chk,P3.fa,P3.ld0,P4.chk,P4.fa,P4.ld1,P5.chk,P5.fa,P5.ld2,(P1.ael cT.1).1,(P2.qel cT.1).1,(P2.qel aT.1).1,q2,(P3.lel dN).1,(P4.ael dN).1,(P5.qel dN).1,(P5.qel aT.1).1,q5,t0,t5,t9,t10,R'.chk,R'.fa,R'.ld1,R'.eln,ci,el.1,el.2.1,el.2.2,cta,ctb,csl,k1,k2,P.chk,P.fa,P.ld0,x1,x2,y1,y2,hw,Nat.zero_add,zeros,fillAt,List.prefix_refl,go_sem]
      exact ⟨0,by omega,hp6,by rw [s6.len,s5.len,s4.len,s3.len,s2.len,s1.len,hl],_,_,_,_,_,true,i+1,rfl,rfl,by omega,F',D',P6,.inr ⟨rfl,rfl,by omega⟩⟩
    · rw [lc',n1] at y2
      simp only [t0,t5,t9,t10,R'.chk,R'.fa,R'.ld1,R'.eln,ci,el.1,el.2.1,el.2.2,cta,ctb,csl,k1,k2,P.chk,P.fa,P.ld0,x1,x2,y1,y2,hw,Nat.zero_add,zeros,fillAt,List.prefix_refl,go_sem];rw [finish_deep rfl]
      exact ⟨rfl,l',rk',L,A,Q,_,rfl,hp,hl,F,D,P,.inr ⟨i,rfl,hi1,k2,by rw [← hA,← hC];exact hne,by rw [← hA];exact la',by rw [← hC];exact lc'⟩⟩
    · rw [lc',n2] at y2
      simp only [t0,t5,t9,t10,R'.chk,R'.fa,R'.ld1,R'.eln,ci,el.1,el.2.1,el.2.2,cta,ctb,csl,k1,k2,P.chk,P.fa,P.ld0,x1,x2,y1,y2,hw,Nat.zero_add,zeros,fillAt,List.prefix_refl,go_sem]
      exact ⟨mi - 1,by omega,hp,hl,l',rk',L,A,Q,false,i+1,rfl,rfl,by omega,F,D,P,.inl ⟨rfl,by omega,hcn,go (passed (by omega))⟩⟩
  · rw [la',n2] at x2
    rcases lc3 with lc' | lc' | lc'
    · rw [lc',n0] at y2
      simp only [t0,t5,t9,t10,R'.chk,R'.fa,R'.ld1,R'.eln,ci,el.1,el.2.1,el.2.2,cta,ctb,csl,k1,k2,P.chk,P.fa,P.ld0,x1,x2,y1,y2,hw,Nat.zero_add,zeros,fillAt,List.prefix_refl,go_sem]
      exact ⟨mi - 1,by omega,hp,hl,l',rk',L,A,Q,false,i+1,rfl,rfl,by omega,F,D,P,.inl ⟨rfl,by omega,hcn,go (passed (by omega))⟩⟩
    · rw [lc',n1] at y2
      simp only [t0,t5,t9,t10,R'.chk,R'.fa,R'.ld1,R'.eln,ci,el.1,el.2.1,el.2.2,cta,ctb,csl,k1,k2,P.chk,P.fa,P.ld0,x1,x2,y1,y2,hw,Nat.zero_add,zeros,fillAt,List.prefix_refl,go_sem]
      exact ⟨mi - 1,by omega,hp,hl,l',rk',L,A,Q,false,i+1,rfl,rfl,by omega,F,D,P,.inl ⟨rfl,by omega,hcn,go (passed (by omega))⟩⟩
    · rw [lc',n2] at y2
      simp only [t0,t5,t9,t10,R'.chk,R'.fa,R'.ld1,R'.eln,ci,el.1,el.2.1,el.2.2,cta,ctb,csl,k1,k2,P.chk,P.fa,P.ld0,x1,x2,y1,y2,hw,Nat.zero_add,zeros,fillAt,List.prefix_refl,go_sem]
      exact ⟨mi - 1,by omega,hp,hl,l',rk',L,A,Q,false,i+1,rfl,rfl,by omega,F,D,P,.inl ⟨rfl,by omega,hcn,go (passed (by omega))⟩⟩
end
end Go.Proofs.Ytafhipglhnfgnaa.Ab
set_option linter.unusedSimpArgs false
set_option linter.unusedVariables false
set_option linter.unnecessarySimpa false
set_option maxHeartbeats 4000000
namespace Go.Proofs.Ytafhipglhnfgnaa.Ab
open Go.RowKit
section
variable {g g':Tags} {h h':Heap} {b i k t:Nat} {T:Tg→Prop} {es:List E} {s s':Sv} {M:List Lk} {dn:Bool} {V:RV} {v:Value}
theorem Tn.take (f:Tn b T g h g' h') (ok:TagOk b g h) (hb:b < h.length):h'.take (b - 1)=h.take (b - 1):=by
  apply List.ext_getElem?
  intro c;rw [List.getElem?_take,List.getElem?_take]
  by_cases hc:c < b - 1
  · rw [if_pos hc,if_pos hc,f.blk c (by omega) (by omega) fun τ q=>by have:=(ok c τ q).1;omega]
  · rw [if_neg hc,if_neg hc]
theorem Tn.set (ok:TagOk b g h) {x:Blk}:Tn b T g h g (h.set b x) :=
  ⟨Nat.le_of_eq (List.length_set ..).symm,fun c _ hc _=>List.getElem?_set_ne (Ne.symm hc),fun _ _ _ q=>q,fun _ _ _ q=>q,fun c τ q=>by rw [List.length_set];exact ok c τ q⟩
theorem Rn.tn (R:Rn g h b es s M k dn V) (f:Tn b T g h g' h') (hb:h'[b]?=h[b]?) (hT:∀ τ,T τ→τ=.tb∨τ=.lb∨τ=.ah∨τ=.rt):Rn g' h' b es s M k dn V:=by
  have n1:∀ {τ},¬ (τ=Tg.tb∨τ=.lb∨τ=.ah∨τ=.rt)→¬ T τ:=fun h q=>h (hT _ q)
  exact ⟨f.ok,by rw [hb];exact R.blk,by rw [f.take R.ok R.bl];exact R.e,R.y.tn R.ok f (n1 (by simp)),R.nd.tn R.ok f (n1 (by simp)),R.m.tn R.ok f (n1 (by simp)),fun i hi=>(R.rg i hi).tn R.ok f (n1 (by simp)),fun i hi=>by
    obtain ⟨L,h1,h2⟩:=R.lk i hi
    exact ⟨L,h1.tn R.ok f (n1 (by simp)),h2⟩⟩
theorem Rn.congr' (R:Rn g h b es s M k dn V) (h1:s'.n=s.n) (h2:s'.N=s.N) (h3:∀ v,v < s.n→s'.y v=s.y v) (h4:∀ i,i < s.N→s'.z i=s.z i∧s'.up i=s.up i∧s'.gone i=s.gone i∧s'.mem i=s.mem i∧s'.lnk i=s.lnk i):Rn g h b es s' M k dn V:=by
  have e1:ysOf s'=ysOf s:=by
    unfold ysOf;rw [h1]
    exact List.map_congr_left fun v hv=>h3 v (List.mem_range.1 hv)
  have e2:ndsOf s' V=ndsOf s V:=by
    unfold ndsOf;rw [h2]
    refine List.map_congr_left fun v hv=>?_
    obtain ⟨q2,q3,q4,_⟩:=h4 v (List.mem_range.1 hv);unfold mkNd;rw [q2,q3,q4]
  have e3:runB s' V k dn=runB s V k dn:=by unfold runB;rw [h1]
  refine ⟨R.ok,by rw [e3];exact R.blk,R.e,by rw [e1];exact R.y,by rw [e2];exact R.nd,R.m,fun i hi=>?_,fun i hi=>?_⟩
  · rw [h2] at hi
    rw [(h4 i hi).2.2.2.1];exact R.rg i hi
  · rw [h2] at hi
    obtain ⟨L,q1,q2⟩:=R.lk i hi;refine ⟨L,q1,?_⟩;unfold LnkOk;rw [(h4 i hi).2.2.2.2];exact q2
theorem Rn.congr (R:Rn g h b es s M k dn V) (h1:s'.n=s.n) (h2:s'.N=s.N) (h3:∀ v,v < s.n→s'.y v=s.y v) (h4:∀ i,i < s.N→s'.base i=s.base i∧s'.z i=s.z i∧s'.up i=s.up i∧s'.gone i=s.gone i∧s'.mem i=s.mem i∧s'.lnk i=s.lnk i):Rn g h b es s' M k dn V:=R.congr' h1 h2 h3 fun i hi=>(h4 i hi).2
theorem Rn.stN (R : Rn g h b es s M k dn V) (hi : i < s.N) {o : Nat} {w : Value} (ho : o < 6) (hn : s'.n = s.n) (hN : s'.N = s.N) (hy : s'.y = s.y) (hm : s'.mem = s.mem) (hl : s'.lnk = s.lnk) (hs : ∀ j, j < s.N → j ≠ i → mkNd s' V j = mkNd s V j) (hr : ndR (mkNd s' V i) = (ndR (mkNd s V i)).set o w) :
    ∃ h',stC h (elemP V.nv 6 i o) [w]=some h'∧Tn b (·=.n) g h g h'∧h'.length=h.length∧h'[b]?=h[b]?∧Rn g h' b es s' M k dn V:=by
  have hl1:i < ((ndsOf s V).map ndR).length:=by rw [List.length_map,nds_len];exact hi
  obtain ⟨h',e1,e2,e3,e4,e5⟩:=R.nd.st R.ok hl1 (k:=o) (vs:=[w]) (by simp;omega)
  have hrow:((ndsOf s V).map ndR)[i]=ndR (mkNd s V i):=by
    rw [map_at (d:=nd0) (by rw [nds_len];exact hi),nds_get hi]
  rw [hrow] at e5
  have hput:putAt (ndR (mkNd s V i)) o [w]=(ndR (mkNd s V i)).set o w:=by
    have hlen:(ndR (mkNd s V i)).length=6:=rfl;unfold putAt
    rw [List.length_singleton,List.set_eq_take_append_cons_drop,if_pos (by omega),List.append_assoc]
    rfl
  have hset:((ndsOf s V).map ndR).set i (putAt (ndR (mkNd s V i)) o [w])=(ndsOf s' V).map ndR:=by
    rw [hput,← hr,← List.map_set]
    congr 1
    apply List.ext_getElem?
    intro j;rw [List.getElem?_set];unfold ndsOf;rw [hN]
    by_cases hj:i=j
    · subst hj
      simp [hi]
    · rw [if_neg hj]
      by_cases hjN:j < s.N
      · simp [hjN,(hs j hjN (Ne.symm hj)).symm]
      · simp [hjN]
  rw [hset] at e5
  have ys:ysOf s'=ysOf s:=by unfold ysOf;rw [hn,hy]
  have rb:runB s' V k dn=runB s V k dn:=by unfold runB;rw [hn]
  have nn:∀ {τ:Tg},τ≠.n→¬ (τ=Tg.n):=fun h=>h
  refine ⟨h',e1,e2,e3,e4,⟨e2.ok,by rw [e4,rb];exact R.blk,by rw [e2.take R.ok R.bl];exact R.e,by rw [ys];exact R.y.tn R.ok e2 (by simp),e5,R.m.tn R.ok e2 (by simp),fun j hj=>?_,fun j hj=>?_⟩⟩
  · rw [hm]
    exact (R.rg j (by rw [← hN];exact hj)).tn R.ok e2 (by simp)
  · obtain ⟨L,q1,q2⟩:=R.lk j (by rw [← hN];exact hj)
    refine ⟨L,q1.tn R.ok e2 (by simp),?_⟩
    unfold LnkOk;rw [hl];exact q2
def setUp (s:Sv) (i:Nat) (o:Option Nat):Sv:={ s with up:=fun v=>if v=i then o else s.up v }
theorem Rn.stUp (R:Rn g h b es s M k dn V) (hi:i < s.N) (o:Option Nat):∃ h',stC h (elemP V.nv 6 i 4) [.int .i64 (upI o)]=some h'∧Tn b (·=.n) g h g h'∧h'.length=h.length∧h'[b]?=h[b]?∧Rn g h' b es (setUp s i o) M k dn V :=
  R.stN hi (by omega) rfl rfl rfl rfl rfl (fun j _ hj=>by unfold mkNd setUp;simp only;rw [if_neg hj]) (by unfold mkNd setUp ndR;simp)
def setGone (s:Sv) (i:Nat):Sv:={ s with gone:=fun v=>if v=i then true else s.gone v }
theorem Rn.stGone (R:Rn g h b es s M k dn V) (hi:i < s.N):∃ h',stC h (elemP V.nv 6 i 5) [.bool true]=some h'∧Tn b (·=.n) g h g h'∧h'.length=h.length∧h'[b]?=h[b]?∧Rn g h' b es (setGone s i) M k dn V :=
  R.stN hi (by omega) rfl rfl rfl rfl rfl (fun j _ hj=>by unfold mkNd setGone;simp only;rw [if_neg hj]) (by unfold mkNd setGone ndR;simp)
def setZ (s:Sv) (i:Nat) (z:Int):Sv:={ s with z:=fun v=>if v=i then z else s.z v }
theorem Rn.stZ (R:Rn g h b es s M k dn V) (hi:i < s.N) (z:Int):∃ h',stC h (elemP V.nv 6 i 3) [.int .i64 z]=some h'∧Tn b (·=.n) g h g h'∧h'.length=h.length∧h'[b]?=h[b]?∧Rn g h' b es (setZ s i z) M k dn V :=
  R.stN hi (by omega) rfl rfl rfl rfl rfl (fun j _ hj=>by unfold mkNd setZ;simp only;rw [if_neg hj]) (by unfold mkNd setZ ndR;simp)
def setY (s:Sv) (i:Nat) (y:Int):Sv:={ s with y:=fun v=>if v=i then y else s.y v }
theorem Rn.stY (R:Rn g h b es s M k dn V) (hi:i < s.n) (y:Int):∃ h',stC h (elemP V.yv 1 i 0) [.int .i64 y]=some h'∧Tn b (·=.y) g h g h'∧h'.length=h.length∧h'[b]?=h[b]?∧Rn g h' b es (setY s i y) M k dn V:=by
  have hlen:(ysOf s).length=s.n:=by unfold ysOf;simp
  obtain ⟨h',e1,e2,e3,e4,e5⟩:=R.y.st R.ok (i:=i) (by rw [ints_len,hlen];exact hi) (k:=0) (vs:=[.int .i64 y]) (by simp)
  have hrow:∀ hh,(ints (ysOf s))[i]'hh=[.int .i64 (s.y i)]:=fun hh=>by simp [ints,ysOf]
  rw [hrow] at e5;have hp:putAt [Value.int .i64 (s.y i)] 0 [.int .i64 y]=[.int .i64 y]:=rfl
  have hset:(ysOf s).set i y=ysOf (setY s i y):=by
    apply List.ext_getElem?
    intro j;rw [List.getElem?_set];unfold ysOf setY
    by_cases hj:i=j
    · subst hj;simp [hi]
    · rw [if_neg hj]
      by_cases hjN:j < s.n
      · simp [hjN,Ne.symm hj]
      · simp [hjN]
  rw [hp,ints_setV,hset] at e5
  refine ⟨h',e1,e2,e3,e4,⟨e2.ok,by rw [e4];exact R.blk,by rw [e2.take R.ok R.bl];exact R.e,e5,R.nd.tn R.ok e2 (by simp),R.m.tn R.ok e2 (by simp),fun j hj=>(R.rg j hj).tn R.ok e2 (by simp),fun j hj=>?_⟩⟩
  obtain ⟨L,q1,q2⟩:=R.lk j hj
  exact ⟨L,q1.tn R.ok e2 (by simp),q2⟩
theorem Rn.st5 (R:Rn g h b es s M k dn V) (k':Nat):∃ h',stC h (p7 b 5) [.int .i64 (k':Nat)]=some h'∧Tn b T g h g h'∧h'.length=h.length∧Rn g h' b es s M k' dn V:=by
  refine ⟨h.set b (runB s V k' dn),by simp [stC,p7,R.blk,runB,putAt],Tn.set R.ok,List.length_set ..,?_⟩
  have f:Tn b (fun _=>False) g h g (h.set b (runB s V k' dn)):=Tn.set R.ok
  exact ⟨f.ok,List.getElem?_set_self R.bl,by rw [f.take R.ok R.bl];exact R.e,R.y.tn R.ok f id,R.nd.tn R.ok f id,R.m.tn R.ok f id,fun i hi=>(R.rg i hi).tn R.ok f id,fun i hi=>by
    obtain ⟨L,h1,h2⟩:=R.lk i hi
    exact ⟨L,h1.tn R.ok f id,h2⟩⟩
theorem Rn.st6 (R:Rn g h b es s M k dn V) (dn':Bool):∃ h',stC h (p7 b 6) [.bool dn']=some h'∧Tn b T g h g h'∧h'.length=h.length∧Rn g h' b es s M k dn' V:=by
  refine ⟨h.set b (runB s V k dn'),by simp [stC,p7,R.blk,runB,putAt],Tn.set R.ok,List.length_set ..,?_⟩
  have f:Tn b (fun _=>False) g h g (h.set b (runB s V k dn')):=Tn.set R.ok
  exact ⟨f.ok,List.getElem?_set_self R.bl,by rw [f.take R.ok R.bl];exact R.e,R.y.tn R.ok f id,R.nd.tn R.ok f id,R.m.tn R.ok f id,fun i hi=>(R.rg i hi).tn R.ok f id,fun i hi=>by
    obtain ⟨L,h1,h2⟩:=R.lk i hi
    exact ⟨L,h1.tn R.ok f id,h2⟩⟩
theorem rb_chk (hb:h[b]?=some (runB s V k dn)):chkV h (p7 b 0)=some (p7 b 0):=by simp [chkV,ldC,p7,hb,runB]
theorem rb_fa (hb:h[b]?=some (runB s V k dn)):∀ i j,faV h (p7 b i) j=some (p7 b (i+j)):=fun i j=>by simp [faV,p7,hb,runB]
theorem Rn.newM {M' : List Lk} (R : Rn g h b es s M k dn V) (f : Tn b (· = .m) g h g' h') (hb : h'[b]? = h[b]?) (hv : Has g' h' .m 2 y_l10Link v (M'.map lkR)) :
    ∃ h2,stC h' (p7 b 4) [v]=some h2∧Tn b (·=.m) g h g' h2∧h2.length=h'.length∧Rn g' h2 b es s M' k dn { V with mv:=v }:=by
  have hb':h'[b]?=some (runB s V k dn):=by rw [hb];exact R.blk
  have f2:Tn b (fun _=>False) g' h' g' (h'.set b (runB s { V with mv:=v } k dn)):=Tn.set f.ok
  have hbl:=lt_of_get hb'
  have f3:Tn b (·=.m) g h g' (h'.set b (runB s { V with mv:=v } k dn)):=f.trans (f2.mono fun _ q=>q.elim)
  refine ⟨_,by simp [stC,p7,hb',runB,putAt],f3,List.length_set ..,⟨f3.ok,List.getElem?_set_self hbl,by rw [f3.take R.ok R.bl];exact R.e,R.y.tn R.ok f3 (by simp),R.nd.tn R.ok f3 (by simp),hv.tn f.ok f2 id,fun i hi=>(R.rg i hi).tn R.ok f3 (by simp),fun i hi=>?_⟩⟩
  obtain ⟨L,h1,h2⟩:=R.lk i hi
  exact ⟨L,h1.tn R.ok f3 (by simp),h2⟩
theorem Rn.pushM (R:Rn g h b es s M k dn V) (x:Lk) (hl:M.length < lim):∃ v' h1 h2 g',appLW h 2 y_l10Link 1 V.mv (some (lkR x))=some (v',h1)∧h1[b]?=some (runB s V k dn)∧stC h1 (p7 b 4) [v']=some h2∧Tn b (·=.m) g h g' h2∧Rn g' h2 b es s (M++[x]) k dn { V with mv:=v' }∧∀ n,FarV V.mv n→FarV v' n:=by
  obtain ⟨v',h1,g',e1,e2,e3,e4,e5⟩:=R.m.push R.ok R.bl (cs:=lkR x) rfl (by rw [List.length_map];exact hl)
  have e4':Has g' h1 .m 2 y_l10Link v' ((M++[x]).map lkR):=by rw [List.map_append];exact e4
  obtain ⟨h2,q1,q2,q3,q4⟩:=R.newM e2 e3 e4'
  exact ⟨v',h1,h2,g',e1,by rw [e3];exact R.blk,q1,q2,q4,e5⟩
def Far (V:RV) (n:Nat):Prop:=FarV V.mv n
theorem Rn.mv_lt (R:Rn g h b es s M k dn V):¬ Far V h.length:=by
  rintro ⟨c,m,h1,h2⟩;rcases R.m.is with ⟨q,_⟩ | ⟨c',q1,q2,_⟩
  · rw [h2] at q;cases q
  · have:=(R.ok c' _ q1).2
    rw [h2] at q2
    injection q2 with q2
    injection q2 with q2
    injection q2 with q2
    omega
theorem Rn.diff {M':List Lk} {k':Nat} {dn':Bool} {V':RV} (R:Rn g h b es s M k dn V) (R':Rn g' h' b es s' M' k' dn' V') (hf:Far V' h.length):h'[b]?≠h[b]?:=fun q=>by
  rw [R.blk,R'.blk] at q;have e:=Option.some.inj q;unfold runB at e
  injection e with e
  simp only [List.cons.injEq] at e;have e4:V'.mv=V.mv:=e.2.2.2.2.1;unfold Far at hf;rw [e4] at hf;exact R.mv_lt hf
theorem fin_keep {c:Nat} {h h':Heap} {v:Value} (hc:c < h.length) (hne:h'[c]?≠h[c]?):finish h (v,h')=(v,h'):=by
  unfold finish;rw [if_neg];rintro ⟨_,hp⟩;exact hne (get_of_pre hp hc)
end
end Go.Proofs.Ytafhipglhnfgnaa.Ab
set_option linter.unusedSimpArgs false
set_option linter.unusedVariables false
set_option linter.unnecessarySimpa false
set_option maxHeartbeats 4000000
namespace Go.Proofs.Ytafhipglhnfgnaa.Ab
open Go.RowKit
def claim (g:Tags) (h h':Heap) (τ:Tg):Tags:=fun c=>open Classical in if h.length≤c∧c < h'.length then some τ else g c
section
variable {g g':Tags} {h h':Heap} {b i k t sz:Nat} {τ:Tg} {T:Tg→Prop} {ty:TypeId} {es:List E} {s s':Sv} {M M':List Lk} {dn dn':Bool} {V V':RV} {v:Value} {rws:List (List Value)}
theorem tn_claim (ok:TagOk b g h) (hb:b < h.length) (hp:h <+: h'):Tn b (·=τ) g h (claim g h h' τ) h':=by
  refine ⟨pre_len hp,fun c hc _ _=>get_of_pre hp hc,fun c τ' hT q=>?_,fun c τ' hc q=>?_,fun c τ' q=>?_⟩
  · have:=(ok c τ' q).2
    unfold claim
    rw [if_neg (by omega)]
    exact q
  · unfold claim at q
    rw [if_neg (by omega)] at q
    exact q
  · unfold claim at q
    by_cases e:h.length≤c∧c < h'.length
    · exact ⟨by omega,e.2⟩
    · rw [if_neg e] at q
      have:=ok c τ' q;have:=pre_len hp
      exact ⟨by omega,by omega⟩
theorem has_claim (o:Own h' h.length h'.length sz ty v rws):Has (claim g h h' τ) h' τ sz ty v rws:=Has.take o fun c h1 h2=>if_pos ⟨h1,h2⟩
theorem Rn.diffL {k':Nat} (R:Rn g h b es s M k dn V) (R':Rn g' h' b es s' M' k' dn' V') (hl:M'.length≠M.length):h'[b]?≠h[b]?:=fun q=>by
  rw [R.blk,R'.blk] at q;have e:=Option.some.inj q;unfold runB at e
  injection e with e
  simp only [List.cons.injEq] at e;have e4:V'.mv=V.mv:=e.2.2.2.2.1;rcases R.m.is with ⟨q1,q2⟩ | ⟨c,_,q2,_⟩
  · rcases R'.m.is with ⟨p1,p2⟩ | ⟨c',_,p2,_⟩
    · have e1:M=[]:=by simpa using q2
      have e2:M'=[]:=by simpa using p2
      exact hl (by rw [e1,e2])
    · rw [p2,q1] at e4;cases e4
  · rcases R'.m.is with ⟨p1,p2⟩ | ⟨c',_,p2,_⟩
    · rw [p1,q2] at e4;cases e4
    · rw [p2,q2] at e4
      injection e4 with _ e4 _
      rw [List.length_map,List.length_map] at e4;exact hl e4
end
def woP (s:Sv) (t:Nat) (x:Lk):Bool:=decide (top s x.f≠t∧top s x.t≠t)
def opnL (n a:Nat) (L:List Lk) (j:Nat):List Lk:=(List.range j).map fun q=>L.getD ((a+(2*q+1))%n) l0
theorem opnL_next {n a j:Nat} {L:List Lk}:opnL n a L (j+1)=opnL n a L j++[L.getD ((a+(2*j+1))%n) l0]:=by unfold opnL;rw [List.range_succ,List.map_append];rfl
section
variable {X:CallF} {g:Tags} {h:Heap} {b k t:Nat} {es:List E} {s:Sv} {M:List Lk} {dn:Bool} {V:RV}
theorem k_l10Without (R : Rn g h b es s M k dn V) (hu : UpOk s) (hM : ∀ x ∈ M, x.f < s.N ∧ x.t < s.N) (hl : M.length ≤ 400) :
    ∃ h' g' v,C T X n_spec_l10Without [p7 b 0,.int .i64 (t:Nat)] h=some (.tuple ⟨[]⟩,h')∧Tn b (·=.m) g h g' h'∧Rn g' h' b es s (M.filter (woP s t)) k dn { V with mv:=v }∧Far { V with mv:=v } h.length:=by
  suffices hx:∃ w h',C T X n_spec_l10Without [p7 b 0,.int .i64 (t:Nat)] h=some (w,h')∧w=.tuple ⟨[]⟩∧∃ g' v,Tn b (·=.m) g h g' h'∧Rn g' h' b es s (M.filter (woP s t)) k dn { V with mv:=v }∧Far { V with mv:=v } h.length by
    obtain ⟨w,h',c,rfl,g',v,q⟩:=hx;exact ⟨h',g',v,c,q⟩
  refine C_ex t_spec_l10Without rfl ?_;unfold F_spec_l10Without;simp only [zeros,fillAt,go_sem]
  refine w_for M.length (fun i t' loc h'=>t' 0=p7 b 0∧t' 1=.int .i64 (t:Nat)∧t' 5=.int .i64 (i:Nat)∧h <+: h'∧∃ v,t' 4=v∧Own h' h.length h'.length 2 y_l10Link v (((M.take i).filter (woP s t)).map lkR)∧∃ c m,h.length≤c∧v=.slice (some ⟨c,0,none⟩) m m) ⟨rfl,rfl,rfl,List.prefix_append _ _,.slice (some ⟨h.length,0,none⟩) 0 0,rfl,Acc.new.own,h.length,0,Nat.le_refl _,rfl⟩ ?_
  rintro i t' loc h' hi ⟨t0,t1,t5,hp,v,t4,o,hfar⟩;have R':=R.up hp;simp only [t0,t5,R'.chk,R'.fa,R'.ld4,R'.mln,Nat.zero_add,go_sem]
  refine w_open (by simp only [go_sem];rfl) ?_ ?_<;>intro hc
  · have hi1:i < M.length:=by omega
    have hw:IntKind.i64.wrap ((i:Int)+1)=((i+1:Nat):Int):=w64 (by omega) (by omega)
    obtain ⟨m1,m2,m3⟩:=R'.mia hi1;have m4:=R'.m0 hi1;have m5:=R'.m1 hi1;obtain ⟨hx1,hx2⟩:=hM _ (getD_mem (d:=l0) hi1);have htake:M.take (i+1)=M.take i++[M.getD i l0]:=take_getD (d:=l0) hi1;obtain ⟨x,hx⟩:∃ x,x=M.getD i l0:=⟨_,rfl⟩;rw [← hx] at m3 m4 m5 hx1 hx2 htake;have c1:=k_l10Top (X:=X) R' hu hx1;have c2:=k_l10Top (X:=X) R' hu hx2
    have hlen:(((M.take i).filter (woP s t)).map lkR).length≤400:=by
      rw [List.length_map]
      exact Nat.le_trans (List.length_filter_le _ _) (by rw [List.length_take];omega)
    have no:woP s t x=false→((M.take (i+1)).filter (woP s t))=(M.take i).filter (woP s t):=fun q=>by rw [htake,List.filter_append];simp [q]
    by_cases d1:(top s x.f:Int)=(t:Int)
    · simp only [t0,t1,t4,t5,R'.chk,R'.fa,R'.ld4,m1,m2,m4,c1,d1,hw,Nat.zero_add,List.prefix_refl,go_sem]
      exact ⟨hi1,hp,v,rfl,by rw [no (by unfold woP;simp;omega)];exact o,hfar⟩
    · by_cases d2:(top s x.t:Int)=(t:Int)
      · simp only [t0,t1,t4,t5,R'.chk,R'.fa,R'.ld4,m1,m2,m4,m5,c1,c2,d1,d2,hw,Nat.zero_add,List.prefix_refl,go_sem]
        exact ⟨hi1,hp,v,rfl,by rw [no (by unfold woP;simp;omega)];exact o,hfar⟩
      · obtain ⟨v2,h2,c3,p1,p2,o2⟩:=o.push1 (pre_len hp) (lkR x) rfl (by unfold lim;omega)
        rw [Nat.max_eq_right p1] at o2
        have yes:((M.take (i+1)).filter (woP s t)).map lkR=((M.take i).filter (woP s t)).map lkR++[lkR x]:=by
          rw [htake,List.filter_append]
          have:woP s t x=true:=by unfold woP;simp;omega
          simp [this]
        unfold lkR at c3 m3;simp only [t0,t1,t4,t5,R'.chk,R'.fa,R'.ld4,m1,m2,m3,m4,m5,c1,c2,d1,d2,c3,hw,Nat.zero_add,zeros,fillAt,List.prefix_refl,go_sem]
        refine ⟨hi1,pre_push hp (Nat.le_refl _) p1 p2,v2,rfl,by rw [yes];exact o2,?_⟩
        rcases o2.is with ⟨_,q⟩ | ⟨c,l1,_,l3,_⟩
        · simp at q
        · exact ⟨c,_,l1,l3⟩
  · have:i=M.length:=by omega
    subst this;rw [List.take_length] at o;obtain ⟨h2,e1,e2,e3,e4⟩:=R.newM (tn_claim (τ:=.m) R.ok R.bl hp) (get_of_pre hp R.bl) (has_claim o)
    have hne:=R.diff e4 (show Far _ h.length from hfar)
    simp only [t0,t4,R'.chk,R'.fa,e1,o.live,o.cells,Nat.zero_add,go_sem];rw [fin_keep R.bl hne];exact ⟨rfl,_,_,e2,e4,hfar⟩
def opU (s:Sv) (B j:Nat):Sv:={ s with up:=fun v=>if v∈(s.mem B).take j then none else s.up v }
open Classical in
theorem k_l10Open {B a : Nat} {L : List Lk} (R : Rn g h b es s M k dn V) (hu : UpOk s) (hM : ∀ x ∈ M, x.f < s.N ∧ x.t < s.N) (hl : M.length ≤ 200) (hB : B < s.N) (n3 : 3 ≤ (s.mem B).length) (n9 : (s.mem B).length ≤ 9) (nodd : (s.mem B).length % 2 = 1) (hmem : ∀ v ∈ s.mem B, v < s.N)
    (hnd:(s.mem B).Nodup) (hL:Has g h (.lk B) 2 y_l10Link (V.lv B) (L.map lkR)) (hLl:L.length=(s.mem B).length) {bv:Nat} (hbv:bv=baseR s V.bs M B) (hbN:bv < s.N) (ha:a < (s.mem B).length) (hin:Wi s bv ((s.mem B).getD a 0)) (hun:∀ j,j < (s.mem B).length→Wi s bv ((s.mem B).getD j 0)→j=a) (hN:s.N≤400) :
    ∃ h' g' V',C T X n_spec_l10Open [p7 b 0,.int .i64 (B:Nat)] h=some (.tuple ⟨[]⟩,h')∧Tn b (fun τ=>τ=.n∨τ=.m) g h g' h'∧Rn g' h' b es (openS s B a) (M++opnL (s.mem B).length a L ((s.mem B).length / 2)) k dn V'∧V'.bs=V.bs∧∀ n,Far V n→Far V' n:=by
  suffices hx:∃ w h',C T X n_spec_l10Open [p7 b 0,.int .i64 (B:Nat)] h=some (w,h')∧w=.tuple ⟨[]⟩∧∃ g' V',Tn b (fun τ=>τ=.n∨τ=.m) g h g' h'∧Rn g' h' b es (openS s B a) (M++opnL (s.mem B).length a L ((s.mem B).length / 2)) k dn V'∧V'.bs=V.bs∧∀ n,Far V n→Far V' n by
    obtain ⟨w,h',c,rfl,g',V',q⟩:=hx;exact ⟨h',g',V',c,q⟩
  have cb:=k_l10Base (X:=X) (i:=B) R hu hM (by omega) hB
  rw [← hbv] at cb;obtain ⟨n,hn⟩:∃ n,n=(s.mem B).length:=⟨_,rfl⟩;rw [← hn] at n3 n9 nodd hLl ha hun ⊢;have rB:=R.rg B hB;have nln:=nat_ln rB.rows;rw [← hn] at nln;have nl:=R.nld hB;unfold ndR mkNd at nl;simp only at nl;refine C_ex t_spec_l10Open rfl ?_;unfold F_spec_l10Open;simp only [cb,R.chk,R.fa,R.ld3,R.nia hB,nl,nln,Nat.zero_add,zeros,fillAt,List.prefix_refl,go_sem];obtain ⟨c5,hc5⟩:∃ c5:List Value,c5=[V.rv B,V.lv B,.int .i64 (V.bs B:Nat),.int .i64 (s.z B),.int .i64 (upI (s.up B)),.bool (s.gone B)]:=⟨_,rfl⟩
  refine w_for n (fun i t' loc h'=>h'=h∧t' 0=p7 b 0∧t' 1=.int .i64 (B:Nat)∧t' 4=.int .i64 (bv:Nat)∧t' 6=.int .i64 (n:Nat)∧t' 8=.int .i64 (i:Nat)∧loc 5=some c5∧t' 7=.int .i64 ((if a < i then a else 0:Nat):Int)) ⟨rfl,rfl,rfl,rfl,rfl,rfl,by rw [hc5];rfl,rfl⟩ ?_
  rintro i t' loc h' hi ⟨rfl,t0,t1,t4,t6,t8,l5,t7⟩;simp only [t6,t8,go_sem]
  refine w_open (by simp only [go_sem];rfl) ?_ ?_<;>intro hc
  · have hi1:i < n:=by omega
    have hw:IntKind.i64.wrap ((i:Int)+1)=((i+1:Nat):Int):=w64 (by omega) (by omega)
    obtain ⟨e1,e2⟩:=nat_el rB.rows (i:=i) (by rw [← hn];exact hi1)
    have cw:=k_l10Within (X:=X) (t:=(s.mem B).getD i 0) R hu hbN
    by_cases w:Wi s bv ((s.mem B).getD i 0)
    · rw [tP_t w] at cw
      have hia:=hun i hi1 w;simp only [t0,t1,t4,t6,t7,t8,l5,hc5,e1,e2,cw,hw,Nat.zero_add,List.prefix_refl,go_sem]
      exact ⟨hi1,by rw [if_pos (by omega),hia]⟩
    · rw [tP_f w] at cw
      have hia:i≠a:=fun q=>w (by rw [q];exact hin)
      simp only [t0,t1,t4,t6,t7,t8,l5,hc5,e1,e2,cw,hw,Nat.zero_add,List.prefix_refl,go_sem];refine ⟨hi1,?_⟩
      by_cases q:a < i
      · rw [if_pos q,if_pos (by omega)]
      · rw [if_neg q,if_neg (by omega)]
  have hin':i=n:=by omega
  rw [hin',if_pos ha] at t7
  clear hc hi
  simp only [t0,t1,t4,t6,t7,t8,l5,go_sem]
  refine w_for n (fun i t' loc hh=>t' 0=p7 b 0∧t' 1=.int .i64 (B:Nat)∧t' 6=.int .i64 (n:Nat)∧t' 7=.int .i64 (a:Nat)∧t' 9=.int .i64 (i:Nat)∧loc 5=some c5∧Tn b (·=.n) g h' g hh∧hh.length=h'.length∧Rn g hh b es (opU s B i) M k dn V) ⟨rfl,rfl,rfl,rfl,rfl,by rw [hc5];rfl,Tn.refl R.ok,rfl,R.congr rfl rfl (fun _ _=>rfl) fun i _=>⟨rfl,rfl,by show (if i∈(s.mem B).take 0 then none else s.up i)=s.up i;simp,rfl,rfl,rfl⟩⟩ ?_
  clear t0 t1 t4 t6 t7 t8 l5 hin'
  clear t' loc i
  rintro i t' loc hh hi ⟨t0,t1,t6,t7,t9,l5,f1,hlen,R1⟩;simp only [t6,t9,go_sem]
  refine w_open (by simp only [go_sem];rfl) ?_ ?_<;>intro hc
  · have hi1:i < n:=by omega
    have hw:IntKind.i64.wrap ((i:Int)+1)=((i+1:Nat):Int):=w64 (by omega) (by omega)
    have rB1:Has g hh (.rg B) 1 y_int (V.rv B) (ints (natI (s.mem B))):=R1.rg B hB
    obtain ⟨e1,e2⟩:=nat_el rB1.rows (i:=i) (by rw [← hn];exact hi1)
    obtain ⟨v,hv⟩:∃ v,v=(s.mem B).getD i 0:=⟨_,rfl⟩
    have hvN:v < s.N:=hmem v (by rw [hv];exact getD_mem (d:=0) (by rw [← hn];exact hi1))
    rw [← hv] at e2;obtain ⟨h2,q1,q2,q3,q4,q5⟩:=R1.stUp (i:=v) hvN none;have hq1:stC hh (elemP V.nv 6 v 4) [.int .i64 (-1)]=some h2:=q1
    have R2:Rn g h2 b es (opU s B (i+1)) M k dn V:=q5.congr rfl rfl (fun _ _=>rfl) fun j _=>⟨rfl,rfl,by
      show (if j∈(s.mem B).take (i+1) then none else s.up j)=if j=v then none else if j∈(s.mem B).take i then none else s.up j
      rw [take_getD (d:=0) (by rw [← hn];exact hi1),← hv]
      by_cases z:j=v
      · rw [if_pos (by simp [z]),if_pos z]
      · rw [if_neg z]
        by_cases z2:j∈(s.mem B).take i
        · rw [if_pos (by simp [z2]),if_pos z2]
        · rw [if_neg (by simp [z,z2]),if_neg z2],rfl,rfl,rfl⟩
    have ni:=R1.nia (i:=v) hvN;have nf:=R1.nfa (i:=v) hvN;simp only [t0,t1,t6,t7,t9,l5,hc5,R1.chk,R1.fa,R1.ld3,e1,e2,ni,nf,hq1,hw,Nat.zero_add,List.prefix_refl,go_sem]
    exact ⟨hi1,f1.trans q2,by rw [q3,hlen],R2⟩
  have hin':i=n:=by omega
  subst hin'
  clear hc hi
  obtain ⟨h2,q1,q2,q3,q4,q5⟩:=R1.stGone (i:=B) hB;have ni:=R1.nia (i:=B) hB;have nf:=R1.nfa (i:=B) hB
  have R2:Rn g h2 b es (openS s B a) M k dn V:=q5.congr rfl rfl (fun _ _=>rfl) fun j _=>⟨rfl,rfl,by
    show (if j∈s.mem B then none else s.up j)=if j∈(s.mem B).take i then none else s.up j
    rw [hn,List.take_length],rfl,rfl,rfl⟩
  have f2:Tn b (fun τ=>τ=.n∨τ=.m) g h' g h2:=(f1.trans q2).mono fun _ q=>.inl q
  simp only [t0,t1,t6,t7,l5,R1.chk,R1.fa,R1.ld3,ni,nf,q1,Nat.zero_add,go_sem]
  refine w_for (i / 2) (fun j t' loc hh=>t' 0=p7 b 0∧t' 6=.int .i64 (i:Nat)∧t' 7=.int .i64 (a:Nat)∧t' 10=.int .i64 ((2*j+1:Nat):Int)∧loc 5=some c5∧∃ g' V',Tn b (fun τ=>τ=.n∨τ=.m) g h' g' hh∧Rn g' hh b es (openS s B a) (M++opnL i a L j) k dn V'∧V'.bs=V.bs∧∀ n,Far V n→Far V' n) ⟨rfl,rfl,rfl,rfl,by rw [hc5];rfl,g,V,f2,by simpa [opnL] using R2,rfl,fun _ q=>q⟩ ?_
  clear t0 t1 t6 t7 t9 l5 q1
  clear t' loc
  rintro j t' loc h3 hj ⟨t0,t6,t7,t10,l5,g',V',f3,R3,eb,far3⟩;simp only [t6,t10,go_sem]
  refine w_open (by simp only [go_sem];rfl) ?_ ?_<;>intro hc
  · have hj1:j < i / 2:=by omega
    have hw:IntKind.i64.wrap (((2*j+1:Nat):Int)+2)=((2*(j+1)+1:Nat):Int):=by rw [w64 (by omega) (by omega)];omega
    have hw2:IntKind.i64.wrap ((a:Int)+((2*j+1:Nat):Int))=((a+(2*j+1):Nat):Int):=w64 (by omega) (by omega)
    have hm:(((a+(2*j+1):Nat):Int)).tmod (i:Int)=(((a+(2*j+1))%i:Nat):Int):=rfl
    have hi0:¬ ((i:Int)=0):=by omega
    have hq:(a+(2*j+1))%i < L.length:=by rw [hLl];exact Nat.mod_lt _ (by omega)
    have hL3:Has g' h3 (.lk B) 2 y_l10Link (V.lv B) (L.map lkR):=hL.tn R.ok f3 (by simp)
    have el:=hL3.rows.el (f:=lkR) l0 hq;obtain ⟨x,hx⟩:∃ x,x=L.getD ((a+(2*j+1))%i) l0:=⟨_,rfl⟩;rw [← hx] at el
    have hMl:(M++opnL i a L j).length < lim:=by
      rw [List.length_append];unfold opnL lim;rw [List.length_map,List.length_range];omega
    obtain ⟨v',h4,h5,g4,p1,p2,p3',p4,p5,far4⟩:=R3.pushM x hMl;have p6:cellsOf v'=some [v']:=p5.m.rows.cells;unfold lkR at p1 el;simp only [t0,t6,t7,t10,l5,hc5,R3.chk,R3.fa,R3.ld4,hw,hw2,hm,hi0,el.1,el.2.2,p1,rb_chk p2,rb_fa p2,p3',p6,Nat.zero_add,zeros,fillAt,List.prefix_refl,go_sem]
    refine ⟨hj1,g4,{ V' with mv:=v' },f3.trans (p4.mono fun _ q=>.inr q),?_,eb,fun n q=>far4 n (far3 n q)⟩
    rw [opnL_next,← List.append_assoc,← hx];exact p5
  · have hjn:j=i / 2:=by omega
    subst hjn
    have hne:=R.diffL R3 (by
      rw [List.length_append];unfold opnL;rw [List.length_map,List.length_range]
      omega)
    simp only [t0,go_sem];rw [fin_keep R.bl hne];exact ⟨rfl,g',V',f3,R3,eb,far3⟩
end
end Go.Proofs.Ytafhipglhnfgnaa.Ab
set_option linter.unusedSimpArgs false
set_option linter.unusedVariables false
set_option linter.unnecessarySimpa false
set_option maxHeartbeats 4000000
namespace Go.Proofs.Ytafhipglhnfgnaa.Ab
open Go.RowKit
theorem dst_mod {n a d:Nat} (ha:a < n) (hd:d < n):dst n a ((a+d)%n)=d∧(a+d)%n < n:=by
  have hn:0 < n:=by omega
  by_cases q:a+d < n
  · rw [Nat.mod_eq_of_lt q]
    unfold dst
    rw [if_pos (by omega)]
    omega
  · have e:(a+d)%n=a+d - n:=by
      rw [Nat.mod_eq_sub_mod (by omega),Nat.mod_eq_of_lt (by omega)]
    rw [e];unfold dst
    rw [if_neg (by omega)]
    omega
theorem mod_dst {n a q:Nat} (ha:a < n) (hq:q < n):(a+dst n a q)%n=q:=by
  unfold dst;split
  · rw [show a+(q - a)=q by omega,Nat.mod_eq_of_lt hq]
  · rw [show a+(q+n - a)=q+n by omega,Nat.add_mod_right,Nat.mod_eq_of_lt hq]
theorem pv_mod {n a d:Nat} (ha:a < n) (hd:d+1 < n):pv n ((a+(d+1))%n)=(a+d)%n:=by
  unfold pv
  by_cases q:a+d+1 < n
  · rw [Nat.mod_eq_of_lt (show a+(d+1) < n by omega),Nat.mod_eq_of_lt (show a+d < n by omega),if_neg (by omega)]
    omega
  · by_cases q2:a+d+1=n
    · rw [show a+(d+1)=n by omega,Nat.mod_self,if_pos rfl,Nat.mod_eq_of_lt (show a+d < n by omega)]
      omega
    · have e1:(a+(d+1))%n=a+d+1 - n:=by rw [Nat.mod_eq_sub_mod (by omega),Nat.mod_eq_of_lt (by omega)];omega
      have e2:(a+d)%n=a+d - n:=by rw [Nat.mod_eq_sub_mod (by omega),Nat.mod_eq_of_lt (by omega)]
      rw [e1,e2,if_neg (by omega)]
      omega
theorem mod_succ {n a d:Nat}:((a+d)%n+1)%n=(a+(d+1))%n:=by rw [Nat.mod_add_mod];rfl
section
variable {es:List E} {T:Nat→Prop} {s:Sv} {B a u q t e:Nat} {M L:List Lk} {size:Int} {x:Lk}
theorem top_o1 (K:Ok0 es T s) (hB:IsRing s B) (hb:s.up B=none) (hu':UpOk (openS s B a)) (hw:Wi s u t) (ht:s.up t=none) (hne:t≠B):top (openS s B a) u=t:=by
  refine top_of hu' ((wi_open K hB hb).2 ⟨hw,fun q=>absurd q hne⟩) ?_
  show (if t∈s.mem B then none else s.up t)=none;split
  · rfl
  · exact ht
theorem top_o2 (K:Ok0 es T s) (hB:IsRing s B) (hb:s.up B=none) (hu':UpOk (openS s B a)) (hw:Wi s u t) (ht:t∈s.mem B):top (openS s B a) u=t:=by
  have hne:t≠B:=by have:=(K.memUp hB ht).2.1;omega
  refine top_of hu' ((wi_open K hB hb).2 ⟨hw,fun q=>absurd q hne⟩) ?_
  show (if t∈s.mem B then none else s.up t)=none;rw [if_pos ht]
theorem opM_odd {d:Nat} (ha:a < (s.mem B).length) (hd:d+1 < (s.mem B).length) (hodd:d%2=1):opM s B a ((a+d)%(s.mem B).length)=some ((s.lnk B).getD ((a+d)%(s.mem B).length) 0)∧opM s B a ((a+(d+1))%(s.mem B).length)=some ((s.lnk B).getD ((a+d)%(s.mem B).length) 0):=by
  unfold opM
  rw [(dst_mod ha (show d < _ by omega)).1,(dst_mod ha hd).1,pv_mod ha hd]
  refine ⟨by rw [if_neg (by omega),if_pos hodd],by rw [if_neg (by omega),if_neg (by omega)]⟩
theorem opn_of (K : Ok0 es T s) (hB : IsRing s B) (hb : s.up B = none) (hu' : UpOk (openS s B a)) (ha : a < (s.mem B).length) (hL : LnkOk es s B L) {j : Nat} (hj : j < (s.mem B).length / 2) :
    ∃ q q',q < (s.mem B).length∧q' < (s.mem B).length∧dst (s.mem B).length a q=2*j+1∧dst (s.mem B).length a q'=2*j+2∧IsE es ((s.lnk B).getD q 0) (L.getD ((a+(2*j+1))%(s.mem B).length) l0) ∧
      (openS s B a).mate ((s.mem B).getD q 0)=some ((s.lnk B).getD q 0)∧(openS s B a).mate ((s.mem B).getD q' 0)=some ((s.lnk B).getD q 0)∧Jn es s ((s.lnk B).getD q 0) ((s.mem B).getD q 0) ((s.mem B).getD q' 0):=by
  obtain ⟨r1,r2,r3,r4⟩:=K.ring B hB;obtain ⟨k1,k2⟩:=K.lnk B hB
  have hd:2*j+1+1 < (s.mem B).length:=by omega
  obtain ⟨o1,o2⟩:=opM_odd (s:=s) (B:=B) ha hd (by omega)
  have d1:=dst_mod ha (show 2*j+1 < (s.mem B).length by omega)
  have d2:=dst_mod ha hd
  refine ⟨(a+(2*j+1))%(s.mem B).length,(a+(2*j+1+1))%(s.mem B).length,d1.2,d2.2,d1.1,d2.1,hL.2 _ (by rw [hL.1,k1];exact d1.2),by rw [mate_mem K hB d1.2];exact o1,by rw [mate_mem K hB d2.2];exact o2,?_⟩
  have:=(k2 _ d1.2).1;rw [mod_succ] at this;exact this
theorem mem_inj (K:Ok0 es T s) (hB:IsRing s B) {q q':Nat} (h1:q < (s.mem B).length) (h2:q' < (s.mem B).length) (e:(s.mem B).getD q 0=(s.mem B).getD q' 0):q=q':=by
  have i1:=idx_of K hB h1;have i2:=idx_of K hB h2;rw [e,i2] at i1;exact i1.symm
theorem mt_open (K : Ok0 es T s) (hB : IsRing s B) (hb : s.up B = none) (ha : a < (s.mem B).length) (hh : Hold es s B ((s.mem B).getD a 0)) (hL : LnkOk es s B L) (m : MtOk es s M) (gk : GOk size es) (hl : M.length + (s.mem B).length ≤ 400) :
    MtOk es (openS s B a) (M++opnL (s.mem B).length a L ((s.mem B).length / 2)):=by
  have hu:=K.upOk;have hu':UpOk (openS s B a):=(open_ok0 K hB hb ha hh).upOk;obtain ⟨r1,r2,r3,r4⟩:=K.ring B hB;have hBT:IsTop s B:=⟨hB.2.1,hb,hB.2.2⟩;have haM:(s.mem B).getD a 0∈s.mem B:=getD_mem0 ha
  have notmem:∀ {t},s.up t=none→¬ t∈s.mem B:=fun h q=>by have:=(K.memUp hB q).1;rw [h] at this;cases this
  have mate_old:∀ {t},s.up t=none→(openS s B a).mate t=s.mate t:=fun h=>by
    show (if _ then _ else _)=_;rw [if_neg (notmem h)]
  have mate_a:(openS s B a).mate ((s.mem B).getD a 0)=s.mate B:=by
    rw [mate_mem K hB ha];unfold opM dst;rw [if_pos (Nat.le_refl _),Nat.sub_self,if_pos rfl]
  have one:∀ (x:Lk) (e:Nat),IsE es e x→s.mate (top s x.f)=some e→s.mate (top s x.t)=some e→top s x.f≠top s x.t→IsTop s (top s x.t)→top s x.f=B→top (openS s B a) x.f=(s.mem B).getD a 0∧top (openS s B a) x.t=top s x.t:=fun x e h1 h2 h3 h4 h5 h6=>by
    rw [h6] at h2 h4
    have wf:Wi s x.f B:=by rw [← h6];exact top_in hu
    have wt:Wi s x.t (top s x.t):=top_in hu
    have jn:Jn es s e B (top s x.t):=by
      refine ⟨h1.1,?_⟩;rcases h1.2 with ⟨q1,q2⟩ | ⟨q1,q2⟩
      · exact .inl ⟨by rw [← q1];exact wf,by rw [← q2];exact wt⟩
      · exact .inr ⟨by rw [← q1];exact wf,by rw [← q2];exact wt⟩
    have ja:=hh.1 e (top s x.t) h2 h5 (Ne.symm h4) h3 jn;refine ⟨?_,top_o1 K hB hb hu' wt h5.2.1 (Ne.symm h4)⟩;rcases isE_jn ja h1 with ⟨w1,_⟩ | ⟨_,w2⟩
    · exact top_o2 K hB hb hu' w1 haM
    · exact absurd ((top_of hu wf hb).symm.trans (top_of hu w2 h5.2.1)) h4
  have topA:IsTop (openS s B a) ((s.mem B).getD a 0):=(top_open K hB).2 (.inr haM)
  have newmem:∀ y∈opnL (s.mem B).length a L ((s.mem B).length / 2),∃ j,j < (s.mem B).length / 2∧y=L.getD ((a+(2*j+1))%(s.mem B).length) l0:=fun y hy=>by
    unfold opnL at hy;obtain ⟨j,hj,rfl⟩:=List.mem_map.1 hy;exact ⟨j,List.mem_range.1 hj,rfl⟩
  refine ⟨fun x hx=>?_,fun t e ht he=>?_,?_,?_⟩
  · rcases List.mem_append.1 hx with hx | hx
    · obtain ⟨e,h1,h2,h3,h4,h5,h6⟩:=m.of x hx
      by_cases c1:top s x.f=B
      · obtain ⟨q1,q2⟩:=one x e h1 h2 h3 h4 h6 c1
        rw [c1] at h2 h4
        refine ⟨e,h1,by rw [q1,mate_a];exact h2,by rw [q2,mate_old h6.2.1];exact h3,?_,by rw [q1];exact topA,by rw [q2];exact (top_open K hB).2 (.inl ⟨h6,Ne.symm h4⟩)⟩
        rw [q1,q2]
        exact fun q=>notmem h6.2.1 (q ▸ haM)
      · by_cases c2:top s x.t=B
        · obtain ⟨q1,q2⟩:=one x.rev e h1.rev h3 h2 (Ne.symm h4) h5 c2
          have q1':top (openS s B a) x.t=(s.mem B).getD a 0:=q1;have q2':top (openS s B a) x.f=top s x.f:=q2;rw [c2] at h3
          refine ⟨e,h1,by rw [q2',mate_old h5.2.1];exact h2,by rw [q1',mate_a];exact h3,?_,by rw [q2'];exact (top_open K hB).2 (.inl ⟨h5,c1⟩),by rw [q1'];exact topA⟩
          rw [q1',q2']
          exact fun q=>notmem h5.2.1 (q ▸ haM)
        · have t1:=top_o1 K hB hb hu' (top_in hu (v:=x.f)) h5.2.1 c1
          have t2:=top_o1 K hB hb hu' (top_in hu (v:=x.t)) h6.2.1 c2
          exact ⟨e,h1,by rw [t1,mate_old h5.2.1];exact h2,by rw [t2,mate_old h6.2.1];exact h3,by rw [t1,t2];exact h4,by rw [t1];exact (top_open K hB).2 (.inl ⟨h5,c1⟩),by rw [t2];exact (top_open K hB).2 (.inl ⟨h6,c2⟩)⟩
    · obtain ⟨j,hj,rfl⟩:=newmem x hx
      obtain ⟨q,q',z1,z2,z3,z4,z5,z6,z7,z8⟩:=opn_of K hB hb hu' ha hL hj;have m1:=getD_mem0 (l:=s.mem B) z1;have m2:=getD_mem0 (l:=s.mem B) z2
      have hne:(s.mem B).getD q 0≠(s.mem B).getD q' 0:=fun e=>by
        have:=mem_inj K hB z1 z2 e;rw [this] at z3;omega
      have T1:IsTop (openS s B a) ((s.mem B).getD q 0):=(top_open K hB).2 (.inr m1);have T2:IsTop (openS s B a) ((s.mem B).getD q' 0):=(top_open K hB).2 (.inr m2);rcases isE_jn z8 z5 with ⟨w1,w2⟩ | ⟨w1,w2⟩
      · have t1:=top_o2 K hB hb hu' w1 m1
        have t2:=top_o2 K hB hb hu' w2 m2
        exact ⟨_,z5,by rw [t1];exact z6,by rw [t2];exact z7,by rw [t1,t2];exact hne,by rw [t1];exact T1,by rw [t2];exact T2⟩
      · have t1:=top_o2 K hB hb hu' w1 m1
        have t2:=top_o2 K hB hb hu' w2 m2
        exact ⟨_,z5,by rw [t2];exact z7,by rw [t1];exact z6,by rw [t1,t2];exact Ne.symm hne,by rw [t2];exact T2,by rw [t1];exact T1⟩
  · have fromNew:∀ {d:Nat},d%2=1→d+1 < (s.mem B).length→∃ x∈M++opnL (s.mem B).length a L ((s.mem B).length / 2),IsE es ((s.lnk B).getD ((a+d)%(s.mem B).length) 0) x:=fun {d} h1 h2=>by
      refine ⟨L.getD ((a+d)%(s.mem B).length) l0,List.mem_append_right _ ?_,hL.2 _ (by rw [hL.1,(K.lnk B hB).1];exact (dst_mod ha (show d < _ by omega)).2)⟩
      unfold opnL
      refine List.mem_map.2 ⟨d / 2,List.mem_range.2 (by omega),?_⟩
      rw [show 2*(d / 2)+1=d by omega]
    rcases (top_open K hB).1 ht with ⟨h1,_⟩ | hm
    · rw [mate_old h1.2.1] at he
      obtain ⟨x,hx,hx2⟩:=m.all t e h1 he;exact ⟨x,List.mem_append_left _ hx,hx2⟩
    · obtain ⟨i1,i2⟩:=idx_get hm
      obtain ⟨q,hq⟩:∃ q,q=(s.mem B).idxOf t:=⟨_,rfl⟩;rw [← hq] at i1 i2;rw [← i2,mate_mem K hB i1] at he;have hmd:=mod_dst ha i1;have dl:=dstN_lt ha i1;obtain ⟨d,hd⟩:∃ d,d=dst (s.mem B).length a q:=⟨_,rfl⟩;unfold opM at he;rw [← hd] at he hmd dl
      by_cases c0:d=0
      · rw [if_pos c0] at he
        obtain ⟨x,hx,hx2⟩:=m.all B e hBT he;exact ⟨x,List.mem_append_left _ hx,hx2⟩
      · rw [if_neg c0] at he
        by_cases c1:d%2=1
        · rw [if_pos c1] at he
          cases he
          have:=fromNew c1 (by omega)
          rw [hmd] at this;exact this
        · rw [if_neg c1] at he
          cases he
          have h3:=fromNew (d:=d - 1) (by omega) (by omega)
          have:=pv_mod (a:=a) (d:=d - 1) ha (by omega)
          rw [show d - 1+1=d by omega,hmd] at this
          rw [this];exact h3
  · rw [List.pairwise_append]
    refine ⟨m.nd,?_,fun x hx y hy e h1 h2=>?_⟩
    · unfold opnL
      rw [List.pairwise_map];refine List.Pairwise.imp_of_mem ?_ List.pairwise_lt_range;intro j1 j2 hj1 hj2 hlt e h1 h2;obtain ⟨q1,p1,a1,a2,a3,a4,a5,_,_,a8⟩:=opn_of K hB hb hu' ha hL (List.mem_range.1 hj1);obtain ⟨q2,p2,b1,b2,b3,b4,b5,_,_,b8⟩:=opn_of K hB hb hu' ha hL (List.mem_range.1 hj2);have e1:=isE_uniq gk h1 a5;have e2:=isE_uniq gk h2 b5;rw [← e1] at a8 a5;rw [← e2] at b8
      have tq:∀ {u q:Nat},q < (s.mem B).length→Wi s u ((s.mem B).getD q 0)→top (openS s B a) u=(s.mem B).getD q 0:=fun hq hw=>top_o2 K hB hb hu' hw (getD_mem0 hq)
      rcases isE_jn a8 h1 with ⟨w1,w2⟩ | ⟨w1,w2⟩<;>rcases isE_jn b8 h1 with ⟨v1,v2⟩ | ⟨v1,v2⟩
      · have:=mem_inj K hB a1 b1 ((tq a1 w1).symm.trans (tq b1 v1))
        rw [this] at a3;omega
      · have:=mem_inj K hB a1 b2 ((tq a1 w1).symm.trans (tq b2 v2))
        rw [this] at a3;omega
      · have:=mem_inj K hB a1 b2 ((tq a1 w1).symm.trans (tq b2 v2))
        rw [this] at a3;omega
      · have:=mem_inj K hB a1 b1 ((tq a1 w1).symm.trans (tq b1 v1))
        rw [this] at a3;omega
    · obtain ⟨j,hj,rfl⟩:=newmem y hy
      obtain ⟨q,q',z1,z2,z3,z4,z5,z6,z7,z8⟩:=opn_of K hB hb hu' ha hL hj;have e2:=isE_uniq gk h2 z5;rw [← e2] at z8;obtain ⟨e',h1',_,_,h4,_⟩:=m.of x hx
      have up1:∀ {u q:Nat},q < (s.mem B).length→Wi s u ((s.mem B).getD q 0)→top s u=B:=fun hq hw=>top_of hu (hw.trans (Wi.one (r4 _ (getD_mem0 hq)))) hb
      rcases isE_jn z8 h1 with ⟨w1,w2⟩ | ⟨w1,w2⟩
      · exact h4 ((up1 z1 w1).trans (up1 z2 w2).symm)
      · exact h4 ((up1 z2 w2).trans (up1 z1 w1).symm)
  · rw [List.length_append]
    unfold opnL;rw [List.length_map,List.length_range];omega
end
end Go.Proofs.Ytafhipglhnfgnaa.Ab
set_option linter.unusedSimpArgs false
set_option linter.unusedVariables false
set_option linter.unnecessarySimpa false
set_option maxHeartbeats 4000000
namespace Go.Proofs.Ytafhipglhnfgnaa.Ab
open Go.RowKit
section
variable {es:List E} {T:Nat→Prop} {s:Sv} {B a u q t e:Nat} {M L:List Lk} {size:Int} {x:Lk}
theorem ends_lt0 (K:Ok0 es T s) {e:Nat} {x:Lk} (h:IsE es e x):x.f < s.n∧x.t < s.n:=by
  have:=K.ed e h.1
  rcases h.2 with ⟨h1,h2⟩ | ⟨h1,h2⟩<;>omega
theorem mt_in (K:Ok0 es T s) (m:MtOk es s M):∀ x∈M,x.f < s.N∧x.t < s.N:=fun x hx=>by
  obtain ⟨e,h1,_⟩:=m.of x hx;have:=ends_lt0 K h1;have:=K.nN;omega
theorem mt_len (K:Ok0 es T s) (h1:∀ x∈M,∃ e,IsE es e x∧s.mate (top s x.f)=some e) (h2:M.Pairwise fun x y=>∀ e,IsE es e x→¬ IsE es e y):M.length≤s.n:=by
  have hn:(M.map (·.f)).Nodup:=by
    rw [List.nodup_iff_pairwise_ne,List.pairwise_map];refine List.Pairwise.imp_of_mem ?_ h2;intro x y hx hy hxy e;obtain ⟨e1,a1,a2⟩:=h1 x hx;obtain ⟨e2,b1,b2⟩:=h1 y hy;rw [e,b2] at a2;cases a2;exact hxy e1 a1 b1
  have:=nsub_len (a:=M.map (·.f)) (b:=List.range s.n) hn fun v hv=>by
    obtain ⟨x,hx,rfl⟩:=List.mem_map.1 hv;obtain ⟨e1,a1,_⟩:=h1 x hx;exact List.mem_range.2 (ends_lt0 K a1).1
  rw [List.length_map,List.length_range] at this;exact this
theorem mateL_some0 (m:MtOk es s M) (h:mateL s t M=some x):IsTop s t∧∃ e,IsE es e x∧s.mate t=some e∧top s x.f=t:=by
  obtain ⟨u,hu,hr⟩:=List.exists_of_findSome?_eq_some h;obtain ⟨e,h1,h2,h3,h4,h5,h6⟩:=m.of u hu;unfold mateR at hr;split at hr
  · next c=>cases hr;rw [c] at h2 h5;exact ⟨h5,e,h1,h2,c⟩
  · split at hr
    · next c=>cases hr;rw [c] at h3 h6;exact ⟨h6,e,h1.rev,h3,c⟩
    · cases hr
theorem mateL_none0 (K:Ok0 es T s) (m:MtOk es s M) (h:mateL s t M=none) (ht:IsTop s t):s.mate t=none:=by
  cases hm:s.mate t with
  | none=>rfl
  | some e =>
    exfalso;obtain ⟨u,hu,h1⟩:=m.all t e ht hm;have h2:=List.findSome?_eq_none_iff.1 h u hu;obtain ⟨_,o,ho,hne,hmo,hj⟩:=K.mate t e ht hm;have hi:=K.upOk;unfold mateR at h2;rcases isE_jn hj h1 with ⟨q,_⟩ | ⟨q,_⟩
    · rw [if_pos (top_of hi q ht.2.1)] at h2;cases h2
    · by_cases c:top s u.f=t
      · rw [if_pos c] at h2;cases h2
      · rw [if_neg c,if_pos (top_of hi q ht.2.1)] at h2;cases h2
theorem BsOk.opn {bs:Nat→Nat} (hbs:BsOk s bs) (K:Ok0 es T s) (hB:IsRing s B) (hb:s.up B=none) (ha:a < (s.mem B).length) (hh:Hold es s B ((s.mem B).getD a 0)):BsOk (openS s B a) bs:=by
  intro t i ht hm hw hv;have hw1:=((wi_open K hB hb).1 hw).1;have hv1:=((wi_open K hB hb).1 hv).1;have hu:=K.upOk;rcases (top_open K hB).1 ht with ⟨h1,h2⟩ | h1
  · have hm':s.mate t=none:=by
      have e:(openS s B a).mate t=s.mate t:=by
        show (if t∈s.mem B then _ else s.mate t)=_
        rw [if_neg fun q=>by have:=(K.memUp hB q).1;rw [h1.2.1] at this;cases this]
      rw [← e];exact hm
    exact hbs t i h1 hm' hw1 hv1
  · obtain ⟨q,hq,rfl⟩:=mem_getD (d:=0) h1
    rw [mate_mem K hB hq] at hm
    have hq0:dst (s.mem B).length a q=0:=by
      by_cases z:dst (s.mem B).length a q=0
      · exact z
      · unfold opM at hm
        rw [if_neg z] at hm
        split at hm<;>cases hm
    have hqa:q=a:=by unfold dst at hq0;split at hq0<;>omega
    have hmB:s.mate B=none:=by unfold opM at hm;rw [if_pos hq0] at hm;exact hm
    have mu:=(K.memUp hB h1).1;have hBT:IsTop s B:=⟨hB.2.1,hb,hB.2.2⟩;have hbw:=hh.2 hmB;obtain ⟨j,hj,ej⟩:=K.baseM B hB;obtain ⟨c1,c2,c3,c4⟩:=K.memUp hB hj;have hbj:=(K.base j c3 c4).2
    have key:∀ {p q:Nat},s.up p=some B→s.up q=some B→Wi s p q→p=q:=fun {p q} hp hq hpq=>by
      cases hpq with
      | refl=>rfl
      | step e k =>
        rw [hp] at e;cases e;have:=(hu _ _ hq).1;have:=k.le hu;omega
    rw [← hqa] at hbw
    have ej2:j=(s.mem B).getD q 0:=by
      rw [← ej] at hbj;rcases hbj.chain hbw with k | k
      · exact key c1 mu k
      · exact (key mu c1 k).symm
    rw [ej2] at ej;refine hbs B i hBT hmB (hw1.trans (.one mu)) ?_;rw [ej];exact hv1
theorem base_at {bs:Nat→Nat} (hbs:BsOk s bs) (K:Ok0 es T s) (m:MtOk es s M) (hB:IsRing s B) (hb:s.up B=none):baseR s bs M B < s.n∧∃ a,a < (s.mem B).length∧Wi s (baseR s bs M B) ((s.mem B).getD a 0)∧(∀ j,j < (s.mem B).length→Wi s (baseR s bs M B) ((s.mem B).getD j 0)→j=a)∧Hold es s B ((s.mem B).getD a 0):=by
  have hBT:IsTop s B:=⟨hB.2.1,hb,hB.2.2⟩;have hu:=K.upOk
  have hbB:s.mate B=none→bs B=s.base B:=fun q=>hbs B B hBT q (.refl _) (K.base B hB.2.1 hB.2.2).2
  obtain ⟨h1,h2⟩:baseR s bs M B < s.n∧Wi s (baseR s bs M B) B:=by
    unfold baseR
    cases hm:mateL s B M with
    | some x =>
      obtain ⟨_,e,q1,_,q3⟩:=mateL_some0 m hm
      exact ⟨(ends_lt0 K q1).1,by rw [← q3];exact top_in hu⟩
    | none =>
      show bs B < s.n∧Wi s (bs B) B;rw [hbB (mateL_none0 K m hm hBT)];exact K.base B hB.2.1 hB.2.2
  refine ⟨h1,?_⟩
  obtain ⟨v,hv,hw⟩:∃ v,s.up v=some B∧Wi s (baseR s bs M B) v:=by
    rcases h2.last with e | q
    · have:=hB.1;omega
    · exact q
  obtain ⟨a,ha,e⟩:=mem_getD (d:=0) (K.up v B hv).2.2.2
  refine ⟨a,ha,by rw [e];exact hw,fun j hj hwj=>?_,?_⟩
  · have uj:=(K.memUp hB (getD_mem0 hj)).1
    have key:∀ {p q:Nat},s.up p=some B→s.up q=some B→Wi s p q→p=q:=fun {p q} hp hq hpq=>by
      cases hpq with
      | refl=>rfl
      | step e k =>
        rw [hp] at e;cases e;have:=(hu _ _ hq).1;have:=k.le hu;omega
    refine mem_inj K hB hj ha ?_;rw [e];rcases hwj.chain hw with k | k
    · exact key uj hv k
    · exact (key hv uj k).symm
  · rw [e]
    refine ⟨fun f o h1' h2' h3' h4' h5'=>?_,fun hn=>?_⟩
    · cases hm:mateL s B M with
      | none=>rw [mateL_none0 K m hm hBT] at h1';cases h1'
      | some x =>
        obtain ⟨_,f',q1,q2,q3⟩:=mateL_some0 m hm;rw [h1'] at q2;cases q2
        have hbx:baseR s bs M B=x.f:=by unfold baseR;rw [hm]
        rw [hbx] at hw;refine ⟨q1.1,?_⟩;rcases isE_jn h5' q1 with ⟨w1,w2⟩ | ⟨w1,w2⟩
        · rcases q1.2 with ⟨p1,p2⟩ | ⟨p1,p2⟩
          · exact .inl ⟨by rw [← p1];exact hw,by rw [← p2];exact w2⟩
          · exact .inr ⟨by rw [← p1];exact hw,by rw [← p2];exact w2⟩
        · exact absurd (q3.symm.trans (top_of hu w2 h2'.2.1)) (Ne.symm h3')
    · cases hm:mateL s B M with
      | some x =>
        obtain ⟨_,f',_,q2,_⟩:=mateL_some0 m hm;rw [hn] at q2;cases q2
      | none =>
        have hbx:baseR s bs M B=s.base B:=by rw [← hbB hn];unfold baseR;rw [hm]
        rw [hbx] at hw;exact hw
theorem ring_len (K:Ok0 es T s) (hB:IsRing s B):(s.mem B).length≤s.n:=by
  have hu:=K.upOk
  have hn:((s.mem B).map s.base).Nodup:=by
    rw [List.nodup_iff_pairwise_ne,List.pairwise_map];refine List.Pairwise.imp_of_mem ?_ (List.nodup_iff_pairwise_ne.1 (K.ring B hB).2.2.1);intro p q hp hq hpq e;obtain ⟨p1,p2,p3,p4⟩:=K.memUp hB hp;obtain ⟨q1,q2,q3,q4⟩:=K.memUp hB hq;have b1:=(K.base p p3 p4).2;have b2:=(K.base q q3 q4).2;rw [e] at b1
    have key:∀ {p q:Nat},s.up p=some B→s.up q=some B→Wi s p q→p=q:=fun {p q} hp hq hpq=>by
      cases hpq with
      | refl=>rfl
      | step e k =>
        rw [hp] at e;cases e;have:=(hu _ _ hq).1;have:=k.le hu;omega
    rcases b1.chain b2 with k | k
    · exact hpq (key p1 q1 k)
    · exact hpq (key q1 p1 k).symm
  have:=nsub_len (a:=(s.mem B).map s.base) (b:=List.range s.n) hn fun v hv=>by
    obtain ⟨p,hp,rfl⟩:=List.mem_map.1 hv;obtain ⟨_,_,p3,p4⟩:=K.memUp hB hp;exact List.mem_range.2 (K.base p p3 p4).1
  rw [List.length_map,List.length_range] at this;exact this
end
section
variable {X:CallF} {g:Tags} {h:Heap} {b k B:Nat} {es:List E} {T:Nat→Prop} {s:Sv} {M:List Lk} {dn:Bool} {V:RV} {size:Int}
theorem open_step (hbs : BsOk s V.bs) (R : Rn g h b es s M k dn V) (K : Ok0 es T s) (m : MtOk es s M) (gk : GOk size es) (hn : s.n ≤ 9) (hN : s.N ≤ 400) (hB : IsRing s B) (hb : s.up B = none) :
    ∃ a h' g' V' M',C Ab.T X n_spec_l10Open [p7 b 0,.int .i64 (B:Nat)] h=some (.tuple ⟨[]⟩,h')∧Tn b (fun τ=>τ=.n∨τ=.m) g h g' h'∧Rn g' h' b es (openS s B a) M' k dn V'∧MtOk es (openS s B a) M'∧a < (s.mem B).length∧Hold es s B ((s.mem B).getD a 0)∧(V'.bs=V.bs∧BsOk (openS s B a) V'.bs)∧∀ n,Far V n→Far V' n:=by
  obtain ⟨b1,a,a1,a2,a3,a4⟩:=base_at hbs K m hB hb;obtain ⟨r1,r2,r3,r4⟩:=K.ring B hB;obtain ⟨L,l1,l2⟩:=R.lk B hB.2.1;have rl:=ring_len K hB
  have ml:=mt_len K (fun x hx=>by obtain ⟨e,q1,q2,_⟩:=m.of x hx;exact ⟨e,q1,q2⟩) m.nd
  have nN:=K.nN
  obtain ⟨h',g',V',c,f,R',eb,far⟩:=k_l10Open (X:=X) R K.upOk (mt_in K m) (by omega) hB.2.1 r1 (by omega) r2 (fun v hv=>(K.memUp hB hv).2.2.1) r3 l1 (by rw [l2.1,(K.lnk B hB).1]) rfl (by omega) a1 a2 a3 hN
  exact ⟨a,h',g',V',_,c,f,R',mt_open K hB hb a1 a4 l2 m gk (by omega),a1,a4,⟨eb,by rw [eb];exact hbs.opn K hB hb a1 a4⟩,far⟩
end
end Go.Proofs.Ytafhipglhnfgnaa.Ab
set_option linter.unusedSimpArgs false
set_option linter.unusedVariables false
set_option linter.unnecessarySimpa false
set_option maxHeartbeats 4000000
namespace Go.Proofs.Ytafhipglhnfgnaa.Ab
open Go.RowKit
def oddL (l:Lb) (xs:List Nat):List Nat:=xs.filter fun t=>decide (l.lab t=2)
def woL (s:Sv) (zs:List Nat) (y:Lk):Bool:=zs.all fun t=>woP s t y
theorem woL_or {s:Sv} {xs ys:List Nat} {y:Lk}:woL s (xs++ys) y=true↔∀ t,t∈xs∨t∈ys→top s y.f≠t∧top s y.t≠t:=by
  unfold woL woP;rw [List.all_eq_true];simp only [List.mem_append,decide_eq_true_eq]
theorem woL_next {s:Sv} {zs:List Nat} {t:Nat} {M:List Lk}:(M.filter (woL s zs)).filter (woP s t)=M.filter (woL s (zs++[t])):=by
  rw [List.filter_filter]
  refine List.filter_congr fun y _=>?_
  unfold woL;rw [List.all_append,Bool.and_comm];simp
section
variable {es:List E} {s:Sv} {l:Lb} {rk:Nat→Nat} {e f j t u:Nat} {xs ys:List Nat} {M A':List Lk} {L Q:List Nat} {A:List Lk} {size:Int} {x y:Lk}
theorem top_mate {m:Nat→Option Nat}:top (mateS s m) u=top s u:=by
  have:∀ n v,topF (mateS s m) n v=topF s n v:=by
    intro n
    induction n with
    | zero=>intro v;rfl
    | succ n ih =>
      intro v
      show (match s.up v with | none=>v | some p=>topF (mateS s m) n p)=match s.up v with | none=>v | some p=>topF s n p
      cases s.up v with
      | none=>rfl
      | some p=>exact ih p
  exact this _ _
theorem ist_mate {m:Nat→Option Nat}:IsTop (mateS s m) t↔IsTop s t:=Iff.rfl
theorem aug_lk (G : Aug es s l rk e xs ys) (K : Ok es s) (D : Tl es s l L A Q) (hj : j < xs.length) (ho : l.lab (xs.getD j 0) = 2) :
    ∃ f,IsE es f (A.getD (xs.getD j 0) l0)∧j+1 < xs.length∧j%2=1∧top s (A.getD (xs.getD j 0) l0).f=xs.getD (j+1) 0∧top s (A.getD (xs.getD j 0) l0).t=xs.getD j 0∧augM l e xs j=some f∧augM l e xs (j+1)=some f:=by
  have hl:=way_lab G.F G.wx G.x0 j hj
  have hodd:j%2=1:=by omega
  have hlen:=way_odd G.F G.wx G.x0
  have hj1:j+1 < xs.length:=by omega
  have hn:=way_next G.wx hj1
  have hT:=G.F.top (xs.getD j 0) (by omega)
  obtain ⟨f,f1,f2,f3,f4⟩:=D.ah _ _ hT.1 hn;refine ⟨f,f2,hj1,hodd,f3,f4,?_,?_⟩
  · unfold augM
    rw [if_neg (by omega),if_pos hodd,f1]
  · unfold augM
    rw [if_neg (by omega),if_neg (by omega),show j+1 - 1=j by omega,f1]
theorem Aug.flip (G:Aug es s l rk e xs ys):Aug es s l rk e ys xs:=⟨G.F,G.wy,G.wx,G.y0,G.x0,G.tight,⟨G.cn.1,G.cn.2.symm.imp (fun q=>⟨q.2,q.1⟩) fun q=>⟨q.2,q.1⟩⟩,fun t h1 h2=>G.dis t h2 h1⟩
theorem augF_out (h1:¬ t∈xs) (h2:¬ t∈ys):augF s l e xs ys t=s.mate t:=by unfold augF;rw [if_neg h1,if_neg h2]
theorem mt_aug (G : Aug es s l rk e xs ys) (K : Ok es s) (D : Tl es s l L A Q) (m : MtOk es s M) (gk : GOk size es) (h9 : s.n ≤ 9) (he : IsE es e x) (hx : (top s x.f = xs.getD 0 0 ∧ top s x.t = ys.getD 0 0)) :
    MtOk es (mateS s (augF s l e xs ys)) ((M.filter (woL s (xs++ys)))++x::(oddL l xs++oddL l ys).map fun t=>A.getD t l0):=by
  have hu:=K.upOk;have hxp:=way_pos G.wx;have hyp:=way_pos G.wy;have K':=aug_ok G K
  have mx:∀ {j},j < xs.length→augF s l e xs ys (xs.getD j 0)=augM l e xs j:=fun h=>G.fx h
  have my:∀ {j},j < ys.length→augF s l e xs ys (ys.getD j 0)=augM l e ys j:=fun h=>G.fy h
  have topx:∀ {j},j < xs.length→IsTop s (xs.getD j 0):=fun h=>G.F.top _ (by rw [way_lab G.F G.wx G.x0 _ h];omega)
  have topy:∀ {j},j < ys.length→IsTop s (ys.getD j 0):=fun h=>G.F.top _ (by rw [way_lab G.F G.wy G.y0 _ h];omega)
  have odd:∀ t∈oddL l xs++oddL l ys,l.lab t=2∧∃ f o,IsE es f (A.getD t l0)∧top s (A.getD t l0).f=o∧top s (A.getD t l0).t=t∧l.lab o=1∧IsTop s o∧IsTop s t∧augF s l e xs ys o=some f∧augF s l e xs ys t=some f∧(t∈xs∨t∈ys)∧(o∈xs∨o∈ys):=fun t ht=>by
    rcases List.mem_append.1 ht with h | h
    · obtain ⟨h1,h2⟩:=List.mem_filter.1 h
      have h2':l.lab t=2:=by simpa using h2
      obtain ⟨j,hj,hjt⟩:=mem_getD (d:=0) h1;rw [← hjt] at h2' ⊢;obtain ⟨f,a1,a2,a3,a4,a5,a6,a7⟩:=aug_lk G K D hj h2'
      refine ⟨h2',f,_,a1,a4,a5,?_,topx a2,topx hj,by rw [mx a2];exact a7,by rw [mx hj];exact a6,.inl (getD_mem (d:=0) hj),.inl (getD_mem (d:=0) a2)⟩
      rw [way_lab G.F G.wx G.x0 _ a2];omega
    · obtain ⟨h1,h2⟩:=List.mem_filter.1 h
      have h2':l.lab t=2:=by simpa using h2
      obtain ⟨j,hj,hjt⟩:=mem_getD (d:=0) h1;rw [← hjt] at h2' ⊢;obtain ⟨f,a1,a2,a3,a4,a5,a6,a7⟩:=aug_lk G.flip K D hj h2'
      refine ⟨h2',f,_,a1,a4,a5,?_,topy a2,topy hj,by rw [my a2];exact a7,by rw [my hj];exact a6,.inr (getD_mem (d:=0) hj),.inr (getD_mem (d:=0) a2)⟩
      rw [way_lab G.F G.wy G.y0 _ a2];omega
  have hof:∀ y∈(M.filter (woL s (xs++ys)))++x::(oddL l xs++oddL l ys).map fun t=>A.getD t l0,∃ e',IsE es e' y∧(mateS s (augF s l e xs ys)).mate (top (mateS s (augF s l e xs ys)) y.f)=some e'∧(mateS s (augF s l e xs ys)).mate (top (mateS s (augF s l e xs ys)) y.t)=some e'∧top (mateS s (augF s l e xs ys)) y.f≠top (mateS s (augF s l e xs ys)) y.t∧IsTop (mateS s (augF s l e xs ys)) (top (mateS s (augF s l e xs ys)) y.f)∧IsTop (mateS s (augF s l e xs ys)) (top (mateS s (augF s l e xs ys)) y.t):=fun y hy=>by
    simp only [top_mate,ist_mate];show ∃ e',IsE es e' y∧augF s l e xs ys (top s y.f)=some e'∧augF s l e xs ys (top s y.t)=some e'∧_;rcases List.mem_append.1 hy with hy | hy
    · obtain ⟨h1,h2⟩:=List.mem_filter.1 hy
      have h2':=woL_or.1 h2;obtain ⟨e',q1,q2,q3,q4,q5,q6⟩:=m.of y h1
      have o1:augF s l e xs ys (top s y.f)=s.mate (top s y.f):=augF_out (fun q=>(h2' _ (.inl q)).1 rfl) fun q=>(h2' _ (.inr q)).1 rfl
      have o2:augF s l e xs ys (top s y.t)=s.mate (top s y.t):=augF_out (fun q=>(h2' _ (.inl q)).2 rfl) fun q=>(h2' _ (.inr q)).2 rfl
      exact ⟨e',q1,by rw [o1];exact q2,by rw [o2];exact q3,q4,q5,q6⟩
    · rcases List.mem_cons.1 hy with hy | hy
      · rw [hy,hx.1,hx.2]
        refine ⟨e,he,by rw [mx hxp];rfl,by rw [my hyp];rfl,fun q=>?_,topx hxp,topy hyp⟩
        exact G.dis _ (getD_mem (d:=0) hxp) (by rw [q];exact getD_mem (d:=0) hyp)
      · obtain ⟨t,ht,rfl⟩:=List.mem_map.1 hy
        obtain ⟨lt,f,o,a1,a2,a3,a4,a5,a6,a7,a8,_,_⟩:=odd t ht;rw [a2,a3]
        exact ⟨f,a1,a7,a8,fun q=>(by rw [q,lt] at a4;cases a4),a5,a6⟩
  have hnd:((M.filter (woL s (xs++ys)))++x::(oddL l xs++oddL l ys).map fun t=>A.getD t l0).Pairwise fun x y=>∀ e,IsE es e x→¬ IsE es e y:=by
    have same:∀ {y z:Lk} {e':Nat},IsE es e' y→IsE es e' z→(top s y.f=top s z.f∧top s y.t=top s z.t)∨(top s y.f=top s z.t∧top s y.t=top s z.f):=fun h1 h2=>by
      rcases h1.2 with ⟨p1,p2⟩ | ⟨p1,p2⟩<;>rcases h2.2 with ⟨q1,q2⟩ | ⟨q1,q2⟩<;>rw [p1,p2,q1,q2]<;>simp
    rw [List.pairwise_append,List.pairwise_cons]
    refine ⟨m.nd.filter _,⟨fun z hz e' h1 h2=>?_,?_⟩,fun y hy z hz e' h1 h2=>?_⟩
    · obtain ⟨t,ht,rfl⟩:=List.mem_map.1 hz
      obtain ⟨lt,f,o,a1,a2,a3,a4,_⟩:=odd t ht;rcases same h1 h2 with ⟨_,q⟩ | ⟨q,_⟩
      · rw [a3,hx.2] at q;have:=G.y0;rw [q,lt] at this;cases this
      · rw [a3,hx.1] at q;have:=G.x0;rw [q,lt] at this;cases this
    · rw [List.pairwise_map]
      have hnd:(oddL l xs++oddL l ys).Nodup:=by
        rw [List.nodup_append]
        refine ⟨(way_nd G.F G.wx G.x0).filter _,(way_nd G.F G.wy G.y0).filter _,fun a ha c hc q=>?_⟩
        rw [q] at ha;exact G.dis _ (List.mem_filter.1 ha).1 (List.mem_filter.1 hc).1
      refine List.Pairwise.imp_of_mem ?_ (List.nodup_iff_pairwise_ne.1 hnd);intro t t' ht ht' hne e' h1 h2;obtain ⟨lt,f,o,a1,a2,a3,a4,_⟩:=odd t ht;obtain ⟨lt',f',o',b1,b2,b3,b4,_⟩:=odd t' ht';rcases same h1 h2 with ⟨_,q⟩ | ⟨_,q⟩
      · rw [a3,b3] at q;exact hne q
      · rw [a3,b2] at q;rw [q,b4] at lt;cases lt
    · obtain ⟨hy1,hy2⟩:=List.mem_filter.1 hy
      have hy3:=woL_or.1 hy2;rcases List.mem_cons.1 hz with hz | hz
      · rw [hz] at h2
        rcases same h1 h2 with ⟨q,_⟩ | ⟨_,q⟩
        · exact (hy3 _ (.inl (getD_mem (d:=0) hxp))).1 (q.trans hx.1)
        · exact (hy3 _ (.inl (getD_mem (d:=0) hxp))).2 (q.trans hx.1)
      · obtain ⟨t,ht,rfl⟩:=List.mem_map.1 hz
        obtain ⟨lt,f,o,a1,a2,a3,a4,_,_,_,_,a9,_⟩:=odd t ht;rcases same h1 h2 with ⟨_,q⟩ | ⟨q,_⟩
        · exact (hy3 t a9).2 (q.trans a3)
        · exact (hy3 t a9).1 (q.trans a3)
  have hle:_≤s.n:=mt_len (s:=mateS s (augF s l e xs ys)) K'.ok0 (fun y hy=>by obtain ⟨e',q1,q2,_⟩:=hof y hy;exact ⟨e',q1,q2⟩) hnd
  refine ⟨hof,fun t f ht hf=>?_,hnd,by omega⟩
  have hf':augF s l e xs ys t=some f:=hf
  have way:∀ {zs:List Nat} {ws:List Nat},Aug es s l rk e zs ws→(∀ {j},j < zs.length→augF s l e xs ys (zs.getD j 0)=augM l e zs j)→(∀ q∈oddL l zs,q∈oddL l xs++oddL l ys)→t∈zs→∃ y∈x::(oddL l xs++oddL l ys).map fun t=>A.getD t l0,IsE es f y:=fun {zs ws} G' hm hin hz=>by
    obtain ⟨j,hj,hjt⟩:=mem_getD (d:=0) hz;rw [← hjt,hm hj] at hf';have hlj:=way_lab G'.F G'.wx G'.x0 j hj
    by_cases c0:j=0
    · unfold augM at hf'
      rw [if_pos c0] at hf';cases hf';exact ⟨x,List.mem_cons_self,he⟩
    · have key:∀ i,i < zs.length→i%2=1→augM l e zs i=some f→∃ y∈x::(oddL l xs++oddL l ys).map fun t=>A.getD t l0,IsE es f y:=fun i hi h1 h2=>by
        have hl:l.lab (zs.getD i 0)=2:=by rw [way_lab G'.F G'.wx G'.x0 i hi];omega
        obtain ⟨f',a1,a2,a3,a4,a5,a6,a7⟩:=aug_lk G' K D hi hl;rw [h2] at a6;cases a6
        exact ⟨_,List.mem_cons_of_mem _ (List.mem_map.2 ⟨_,hin _ (List.mem_filter.2 ⟨getD_mem (d:=0) hi,by simpa using hl⟩),rfl⟩),a1⟩
      by_cases c1:j%2=1
      · exact key j hj c1 hf'
      · refine key (j - 1) (by omega) (by omega) ?_
        unfold augM at hf' ⊢;rw [if_neg c0,if_neg c1] at hf'
        rw [if_neg (by omega),if_pos (by omega)]
        exact hf'
  by_cases c1:t∈xs
  · obtain ⟨y,hy,h1⟩:=way G mx (fun q hq=>List.mem_append_left _ hq) c1
    exact ⟨y,List.mem_append_right _ hy,h1⟩
  · by_cases c2:t∈ys
    · obtain ⟨y,hy,h1⟩:=way G.flip my (fun q hq=>List.mem_append_right _ hq) c2
      exact ⟨y,List.mem_append_right _ hy,h1⟩
    · rw [augF_out c1 c2] at hf'
      obtain ⟨y,hy,h1⟩:=m.all t f ht hf';refine ⟨y,List.mem_append_left _ (List.mem_filter.2 ⟨hy,woL_or.2 ?_⟩),h1⟩;obtain ⟨f',q1,q2,q3,q4,q5,q6⟩:=m.of y hy;have:=isE_uniq gk h1 q1;subst this;intro u hu'
      have nx:∀ {o},s.mate o=some f→¬ (o∈xs∨o∈ys):=fun {o} ho hq=>by
        rcases hq with q | q
        · exact c1 (way_mate G.F K G.wx G.x0 q ho ht hf')
        · exact c2 (way_mate G.F K G.wy G.y0 q ho ht hf')
      exact ⟨fun q=>nx q2 (by rw [q];exact hu'),fun q=>nx q3 (by rw [q];exact hu')⟩
end
end Go.Proofs.Ytafhipglhnfgnaa.Ab
