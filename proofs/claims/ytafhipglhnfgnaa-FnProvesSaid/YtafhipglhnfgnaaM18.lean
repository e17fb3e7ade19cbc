/- Joined: K107, K108, K109, K110, K111, K112, K113, R8, K7, K8, K14. No conditions. -/
import Derived.Test.YtafhipglhnfgnaaM17
import Derived.Test.YtafhipglhnfgnaaM4
import Derived.Laws.StructEq
import Derived.Test.YtafhipglhnfgnaaM11
import Derived.Test.YtafhipglhnfgnaaM14
set_option linter.unusedSimpArgs false
set_option linter.unusedVariables false
set_option linter.unnecessarySimpa false
set_option maxHeartbeats 4000000
namespace Go.Proofs.Ytafhipglhnfgnaa.Ab
open Go.RowKit
section
variable {X:CallF} {g:Tags} {h:Heap} {b k lo:Nat} {es:List E} {s:Sv} {l:Lb} {rk:Nat→Nat} {M:List Lk} {V:RV} {size Y Mx:Int} {L Q:List Nat} {A:List Lk}
set_option maxRecDepth 100000 in
open Classical in
theorem k_l10Adjust (hbs : BsOk s V.bs) (R : Rn g h b es s M k false V) (G : Gs es s Y Mx) (hN : s.N ≤ 400) (m : MtOk es s M) (gk : GOk size es) (P : Tp h lo s.N L A Q) (D : Tl es s l L A Q) (F : Fo es s l rk) (S : Stuck es s l) (he9 : es.length ≤ 1000) (hlo : b < lo) (hg : ∀ c τ, g c = some τ → c < lo) :
    ∃ h' g' V' s' M' dn',C T X n_spec_l10Adjust [p7 b 0,p3 (lo+3) 0] h=some (.tuple ⟨[]⟩,h')∧Rn g' h' b es s' M' k dn' V'∧MtOk es s' M'∧BsOk s' V'.bs∧(∀ c,c+1 < b→h'[c]?=h[c]?)∧h.length≤h'.length∧Df s s' false dn'∧((dn'=true∧Last es s s')∨(dn'=false∧Round es s s')):=by
  suffices hx:∃ w h',C T X n_spec_l10Adjust [p7 b 0,p3 (lo+3) 0] h=some (w,h')∧w=.tuple ⟨[]⟩∧∃ g' V' s' M' dn',Rn g' h' b es s' M' k dn' V'∧MtOk es s' M'∧BsOk s' V'.bs∧(∀ c,c+1 < b→h'[c]?=h[c]?)∧h.length≤h'.length∧Df s s' false dn'∧((dn'=true∧Last es s s')∨(dn'=false∧Round es s s')) by
    obtain ⟨w,h',c,rfl,g',V',s',M',dn',q⟩:=hx;exact ⟨h',g',V',s',M',dn',c,q⟩
  have K:=G.K;have hs:=G.sm hN;have hu:=K.upOk;have nN:=K.nN;have n9:=hs.n
  have hgn:∀ c,lo≤c→c < lo+4→g c=none:=fun c h1 _=>by
    cases q:g c with
    | none=>rfl
    | some τ=>have:=hg c τ q;omega
  obtain ⟨d,y,cst,hst⟩:=k_l10Step (X:=X) R K hs gk P D F G.L he9;refine C_ex t_spec_l10Adjust rfl ?_;unfold F_spec_l10Adjust;rcases hst with ⟨rfl,hno⟩ | ⟨LD,hdy,⟨v0,v1,v2,v3⟩,hmin⟩
  · have hn:((-1:Int) < 0):=by omega
    obtain ⟨h2,e1,e2,e3,R2⟩:=R.st6 (T:=fun _=>False) true
    simp only [cst,hn,R.chk,R.fa,e1,Nat.zero_add,go_sem];rw [finish_room e3]
    exact ⟨rfl,g,V,s,M,true,R2,m,hbs,e2.low R.ok R.bl,Nat.le_of_eq e3.symm,.inl (by simp),.inl ⟨rfl,.none F hno⟩⟩
  have hd0:=LD.step.d0
  have hn:¬ (d < 0):=by omega
  obtain ⟨y1,y2⟩:=hs.y v0 v1
  have hdb:d≤100000000:=by omega
  have hf:∃ t,IsTop s t∧s.mate t=none:=free_ex F _ _ (Nat.lt_succ_self _) (show l.lab (top s v0)≠0 by omega)
  have y00:∀ v,v < s.n→(chY s l d 0).y v=s.y v:=fun v _=>by unfold chY;simp
  simp only [cst,hn,Nat.zero_add,go_sem]
  refine w_for s.n (fun j t' loc hh=>t' 0=p7 b 0∧t' 1=p3 (lo+3) 0∧t' 4=.int .i64 d∧t' 5=.int .i64 y∧t' 6=.int .i64 (j:Nat)∧Tn b (fun τ=>τ=.y∨τ=.n) g h g hh∧hh.length=h.length∧Rn g hh b es (chY s l d j) M k false V) ⟨rfl,rfl,rfl,rfl,rfl,Tn.refl R.ok,rfl,R.congr' rfl rfl y00 fun _ _=>⟨rfl,rfl,rfl,rfl,rfl⟩⟩ ?_
  rintro j t' loc hh hj ⟨t0,t1,t4,t5,t6,f1,len1,R1⟩;have ld0:=R1.ld0;have hnn:((chY s l d j).n:Int)=(s.n:Int):=rfl;rw [hnn] at ld0;simp only [t0,t6,R1.chk,R1.fa,ld0,Nat.zero_add,go_sem]
  refine w_open (by simp only [go_sem];rfl) ?_ ?_<;>intro hc
  · have hj1:j < s.n:=by omega
    have hw:IntKind.i64.wrap ((j:Int)+1)=((j+1:Nat):Int):=w64 (by omega) (by omega)
    have P1:=P.tn f1 hlo hgn
    have ct:=k_l10Top (X:=X) R1 hu (v:=j) (show j < s.N by omega)
    rw [show top (chY s l d j) j=top s j from top_cong rfl rfl] at ct
    obtain ⟨a,ha⟩:∃ a,a=top s j:=⟨_,rfl⟩;rw [← ha] at ct
    have aN:a < s.N:=by rw [ha];exact top_lt hu (by omega)
    obtain ⟨x1,x2⟩:=P1.lel aN;rw [D.lab a aN] at x2;obtain ⟨b1,b2⟩:=R1.yia (v:=j) hj1;have hyj:(chY s l d j).y j=s.y j:=if_neg (Nat.lt_irrefl j);rw [hyj] at b2;obtain ⟨z1,z2⟩:=hs.y j hj1;have two:=F.two a;have n0:((0:Nat):Int)=0:=rfl;have n1:((1:Nat):Int)=1:=rfl;have n2:((2:Nat):Int)=2:=rfl
    have nxt:∀ (i:Nat) (w:Int),w=s.y j - sg (l.lab a)*d→(if i=j then w else if i < j then s.y i - sg (l.lab (top s i))*d else s.y i)=if i < j+1 then s.y i - sg (l.lab (top s i))*d else s.y i:=fun i w hw'=>by
      by_cases c:i=j
      · rw [if_pos c,if_pos (by omega),c,hw',ha]
      · rw [if_neg c]
        by_cases c2:i < j
        · rw [if_pos c2,if_pos (by omega)]
        · rw [if_neg c2,if_neg (by omega)]
    rcases (show l.lab a=0∨l.lab a=1∨l.lab a=2 by omega) with la | la | la
    · rw [la,n0] at x2
      simp only [t0,t1,t4,t5,t6,ct,x1,x2,P1.chk,P1.fa,P1.ld0,hw,Nat.zero_add,List.prefix_refl,go_sem]
      refine ⟨hj1,f1,len1,R1.congr' rfl rfl (fun i hi=>?_) fun _ _=>⟨rfl,rfl,rfl,rfl,rfl⟩⟩
      have:=nxt i (s.y j) (by rw [la,sg0];omega)
      show (if i < j+1 then _ else _)=if i < j then _ else _;rw [← this]
      by_cases c:i=j
      · rw [if_pos c,if_neg (by omega),c]
      · rw [if_neg c]
    · rw [la,n1] at x2
      have hw2:IntKind.i64.wrap (s.y j - d)=s.y j - d:=w64 (by omega) (by omega)
      obtain ⟨h2,e1,e2,e3,_,R2⟩:=R1.stY (i:=j) hj1 (s.y j - d);simp only [t0,t1,t4,t5,t6,ct,x1,x2,b1,b2,e1,hw2,P1.chk,P1.fa,P1.ld0,R1.chk,R1.fa,R1.ld2,hw,Nat.zero_add,List.prefix_refl,go_sem]
      refine ⟨hj1,f1.trans (e2.mono fun _ q=>.inl q),by rw [e3,len1],R2.congr' rfl rfl (fun i hi=>(nxt i (s.y j - d) (by rw [la,sg1];omega)).symm) fun _ _=>⟨rfl,rfl,rfl,rfl,rfl⟩⟩
    · rw [la,n2] at x2
      have hw2:IntKind.i64.wrap (s.y j+d)=s.y j+d:=w64 (by omega) (by omega)
      obtain ⟨h2,e1,e2,e3,_,R2⟩:=R1.stY (i:=j) hj1 (s.y j+d);simp only [t0,t1,t4,t5,t6,ct,x1,x2,b1,b2,e1,hw2,P1.chk,P1.fa,P1.ld0,R1.chk,R1.fa,R1.ld2,hw,Nat.zero_add,List.prefix_refl,go_sem]
      refine ⟨hj1,f1.trans (e2.mono fun _ q=>.inl q),by rw [e3,len1],R2.congr' rfl rfl (fun i hi=>(nxt i (s.y j+d) (by rw [la,sg2];omega)).symm) fun _ _=>⟨rfl,rfl,rfl,rfl,rfl⟩⟩
  have hjn:j=s.n:=by omega
  rw [hjn] at R1
  have R1' : Rn g hh b es (chZ s l d s.n) M k false V := R1.congr' rfl rfl (fun v hv => (if_pos (show v < s.n from hv)).symm) fun i hi => ⟨by
      show (if IsTop s i∧s.n≤i∧i < s.n then _ else s.z i)=s.z i
      rw [if_neg (by omega)],rfl,rfl,rfl,rfl⟩
  simp only [t0,t1,t4,t5,t6,R1.chk,R1.fa,ld0,Nat.zero_add,go_sem]
  clear hc hj hjn R1
  refine w_for (s.N - s.n) (fun j t' loc hh=>t' 0=p7 b 0∧t' 1=p3 (lo+3) 0∧t' 4=.int .i64 d∧t' 5=.int .i64 y∧t' 7=.int .i64 ((s.n+j:Nat):Int)∧Tn b (fun τ=>τ=.y∨τ=.n) g h g hh∧hh.length=h.length∧Rn g hh b es (chZ s l d (s.n+j)) M k false V) ⟨rfl,rfl,rfl,rfl,rfl,f1,len1,R1'⟩ ?_
  clear t0 t1 t4 t5 t6 f1 len1 R1' ld0 hnn
  clear t' loc hh j
  rintro j t' loc hh hj ⟨t0,t1,t4,t5,t7,f1,len1,R1⟩;have nln:=R1.nln;have hNN:((chZ s l d (s.n+j)).N:Int)=(s.N:Int):=rfl;rw [hNN] at nln;simp only [t0,t7,R1.chk,R1.fa,R1.ld3,nln,Nat.zero_add,go_sem]
  refine w_open (by simp only [go_sem];rfl) ?_ ?_<;>intro hc
  · have hj1:s.n+j < s.N:=by omega
    have hw:IntKind.i64.wrap (((s.n+j:Nat):Int)+1)=((s.n+(j+1):Nat):Int):=w64 (by omega) (by omega)
    have P1:=P.tn f1 hlo hgn;have ci:=k_l10IsTop (X:=X) R1 (i:=s.n+j) hj1;have hit:IsTop (chZ s l d (s.n+j)) (s.n+j)↔IsTop s (s.n+j):=Iff.rfl;obtain ⟨a,ha⟩:∃ a,a=s.n+j:=⟨_,rfl⟩;rw [← ha] at hj1 ci hit R1 t7 hw ⊢
    have han:s.n≤a:=by omega
    obtain ⟨x1,x2⟩:=P1.lel hj1;rw [D.lab a hj1] at x2;have n3:=R1.n3 (i:=a) hj1
    have hza:(chZ s l d a).z a=s.z a:=if_neg (by omega)
    rw [hza] at n3;obtain ⟨z1,z2⟩:=hs.z a hj1;have n0:((0:Nat):Int)=0:=rfl;have n1:((1:Nat):Int)=1:=rfl;have n2:((2:Nat):Int)=2:=rfl
    have same:sg (l.lab a)=0∨¬ IsTop s a→Rn g hh b es (chZ s l d (s.n+(j+1))) M k false V:=fun hq=>R1.congr' rfl rfl (fun _ _=>rfl) fun i hi=>⟨by
      show (if IsTop s i∧s.n≤i∧i < s.n+(j+1) then s.z i+2*(sg (l.lab i)*d) else s.z i)=if IsTop s i∧s.n≤i∧i < a then s.z i+2*(sg (l.lab i)*d) else s.z i
      by_cases c:i=a
      · rw [c,if_neg (show ¬ (IsTop s a∧s.n≤a∧a < a) by omega)]
        by_cases c2:IsTop s a∧s.n≤a∧a < s.n+(j+1)
        · rw [if_pos c2]
          rcases hq with q | q
          · rw [q];omega
          · exact absurd c2.1 q
        · rw [if_neg c2]
      · by_cases c2:IsTop s i∧s.n≤i∧i < a
        · rw [if_pos c2,if_pos ⟨c2.1,c2.2.1,by omega⟩]
        · rw [if_neg c2,if_neg (fun q=>c2 ⟨q.1,q.2.1,by omega⟩)],rfl,rfl,rfl,rfl⟩
    have turn:∀ {h2:Heap} (w:Int),IsTop s a→w=s.z a+2*(sg (l.lab a)*d)→Rn g h2 b es (setZ (chZ s l d a) a w) M k false V→Rn g h2 b es (chZ s l d (s.n+(j+1))) M k false V:=fun {h2} w ht hw' R2=>R2.congr' rfl rfl (fun _ _=>rfl) fun i hi=>⟨by
      show (if IsTop s i∧s.n≤i∧i < s.n+(j+1) then s.z i+2*(sg (l.lab i)*d) else s.z i)=if i=a then w else if IsTop s i∧s.n≤i∧i < a then s.z i+2*(sg (l.lab i)*d) else s.z i
      by_cases c:i=a
      · rw [if_pos c,c,if_pos ⟨ht,han,by omega⟩,hw']
      · rw [if_neg c]
        by_cases c2:IsTop s i∧s.n≤i∧i < a
        · rw [if_pos c2,if_pos ⟨c2.1,c2.2.1,by omega⟩]
        · rw [if_neg c2,if_neg (fun q=>c2 ⟨q.1,q.2.1,by omega⟩)],rfl,rfl,rfl,rfl⟩
    by_cases c1:IsTop s a
    rotate_left
    · rw [tP_f (fun q=>c1 (hit.1 q))] at ci
      simp only [t0,t1,t4,t5,t7,ci,hw,Nat.zero_add,List.prefix_refl,go_sem]
      exact ⟨by omega,f1,len1,same (.inr c1)⟩
    rw [tP_t (hit.2 c1)] at ci;have two:=F.two a
    rcases (show l.lab a=0∨l.lab a=1∨l.lab a=2 by omega) with la | la | la
    · rw [la,n0] at x2
      simp only [t0,t1,t4,t5,t7,ci,x1,x2,P1.chk,P1.fa,P1.ld0,hw,Nat.zero_add,List.prefix_refl,go_sem]
      exact ⟨by omega,f1,len1,same (.inl (by rw [la,sg0]))⟩
    · rw [la,n1] at x2
      have hw1:IntKind.i64.wrap (2*d)=2*d:=w64 (by omega) (by omega)
      have hw2:IntKind.i64.wrap (s.z a+2*d)=s.z a+2*d:=w64 (by omega) (by omega)
      obtain ⟨h2,e1,e2,e3,_,R2⟩:=R1.stZ (i:=a) hj1 (s.z a+2*d);have ni:=R1.nia (i:=a) hj1;have nf:=R1.nfa (i:=a) hj1;simp only [t0,t1,t4,t5,t7,ci,x1,x2,n3,e1,hw1,hw2,ni,nf,P1.chk,P1.fa,P1.ld0,R1.chk,R1.fa,R1.ld3,hw,Nat.zero_add,List.prefix_refl,go_sem]
      exact ⟨by omega,f1.trans (e2.mono fun _ q=>.inr q),by rw [e3,len1],turn _ c1 (by rw [la,sg1];omega) R2⟩
    · rw [la,n2] at x2
      have hw1:IntKind.i64.wrap (2*d)=2*d:=w64 (by omega) (by omega)
      have hw2:IntKind.i64.wrap (s.z a - 2*d)=s.z a - 2*d:=w64 (by omega) (by omega)
      obtain ⟨h2,e1,e2,e3,_,R2⟩:=R1.stZ (i:=a) hj1 (s.z a - 2*d);have ni:=R1.nia (i:=a) hj1;have nf:=R1.nfa (i:=a) hj1;simp only [t0,t1,t4,t5,t7,ci,x1,x2,n3,e1,hw1,hw2,ni,nf,P1.chk,P1.fa,P1.ld0,R1.chk,R1.fa,R1.ld3,hw,Nat.zero_add,List.prefix_refl,go_sem]
      exact ⟨by omega,f1.trans (e2.mono fun _ q=>.inr q),by rw [e3,len1],turn _ c1 (by rw [la,sg2];omega) R2⟩
  have hjN:s.n+j=s.N:=by omega
  rw [hjN] at R1
  have RC:Rn g hh b es (changeS s l d) M k false V:=R1.congr' rfl rfl (fun _ _=>rfl) fun i hi=>⟨by
    have hi':i < s.N:=hi;show (if IsTop s i∧s.n≤i then s.z i+2*(sg (l.lab i)*d) else s.z i)=if IsTop s i∧s.n≤i∧i < s.N then s.z i+2*(sg (l.lab i)*d) else s.z i
    by_cases c:IsTop s i∧s.n≤i
    · rw [if_pos c,if_pos ⟨c.1,c.2,hi'⟩]
    · rw [if_neg c,if_neg fun q=>c ⟨q.1,q.2.1⟩],rfl,rfl,rfl,rfl⟩
  clear R1 hj hc
  have GC:=G.chg F LD hf
  have hsC:=GC.sm (show s.N≤400 from hN)
  have mC:MtOk es (changeS s l d) M:=m.chg K;have bC:BsOk (changeS s l d) V.bs:=hbs.chg;have low1:∀ c,c+1 < b→hh[c]?=h[c]?:=f1.low R.ok R.bl
  by_cases cy:y=d
  · obtain ⟨h2,e1,e2,e3,R2⟩:=RC.st6 (T:=fun _=>False) true
    simp only [t0,t1,t4,t5,t7,cy,RC.chk,RC.fa,e1,Nat.zero_add,go_sem]
    rw [finish_room (by rw [e3,len1])]
    refine ⟨rfl,g,V,_,M,true,R2,mC,bC,fun c hc=>?_,Nat.le_of_eq (by rw [e3,len1]),.inl (by simp),.inl ⟨rfl,.change F S LD hf ⟨v0,v1,v2,by omega⟩⟩⟩
    rw [e2.low RC.ok RC.bl c hc];exact low1 c hc
  have P1:=P.tn f1 hlo hgn
  obtain ⟨r,cf,hr⟩:=k_l10First (X:=X) (L:=L) RC hsC (show s.n≤s.N from nN) P1.l.rows (.inr P.ln.1)
  have hny:¬ ∃ v,v < s.n∧l.lab (top s v)=1∧s.y v=d:=fun ⟨v,a1,a2,a3⟩=>by have:=hmin v a1 a2;omega
  rcases hr with ⟨rfl,hnf⟩ | ⟨B,rfl,hB1,hB2,hB3,hB4,hB5⟩
  · have hn1:¬ ((-1:Int)≥0):=by omega
    simp only [t0,t1,t4,t5,t7,cy,P1.chk,P1.fa,P1.ld0,cf,hn1,Nat.zero_add,List.prefix_refl,go_sem];rw [finish_room len1]
    have hz:∀ p,IsTop s p→s.n≤p→l.lab p=2→(changeS s l d).z p≠0:=fun p hp hn hl hz=>hnf p hn hp.1 ⟨hp,hz,.inr (by rw [D.lab p hp.1];exact hl)⟩
    refine ⟨rfl,g,V,_,M,false,RC,mC,bC,low1,Nat.le_of_eq len1.symm,?_,.inr ⟨rfl,.change F S LD hf hny hz⟩⟩
    have hdp:d≠0:=fun q=>by
      rcases LD.by_ with q1 | ⟨e,he,hne,hq⟩ | ⟨p,hp,hn,hl,hq⟩
      · exact hny q1
      · have jn:=cn_tops K he
        have hE:=K.ed e he;have tA:=K.vTop hE.1;have tB:=K.vTop hE.2.1;rcases hq with ⟨a1,a2,a3⟩ | ⟨a1 | a1,a3⟩
        · have:=S e _ _ he (show slk es s e=0 by omega) jn tA tB hne a1
          omega
        · have:=S e _ _ he (show slk es s e=0 by omega) jn tA tB hne a1.1
          omega
        · have:=S e _ _ he (show slk es s e=0 by omega) jn.symm tB tA (Ne.symm hne) a1.2
          omega
      · refine hz p hp hn hl ?_
        show (if IsTop s p∧s.n≤p then s.z p+2*(sg (l.lab p)*d) else s.z p)=0;rw [if_pos ⟨hp,hn⟩,hl,sg2];omega
    refine .inr (.inl ⟨rfl,v0,v1,?_⟩);show s.y v0 - sg (l.lab (top s v0))*d≠s.y v0;rw [v2,sg1];omega
  · have hp1:((B:Int)≥0):=by omega
    have hBT:IsTop s B:=hB3
    have hlB:l.lab B=2:=by
      rcases hB5 with q | q
      · have:=P.ln.1;rw [q] at this;have:=hBT.1;simp at *;omega
      · rw [← D.lab B hBT.1];exact q
    have hBr:IsRing (changeS s l d) B:=⟨hB1,hBT.1,hBT.2.2⟩;obtain ⟨a,h4,g4,V4,M4,c4,f4,R4,m4,a4,hh4,bs4,_⟩:=open_step (X:=X) bC RC GC.K.ok0 mC gk n9 hN hBr hBT.2.1;simp only [t0,t1,t4,t5,t7,cy,P1.chk,P1.fa,P1.ld0,cf,hp1,c4,Nat.zero_add,List.prefix_refl,go_sem]
    have df:Df s (openS (changeS s l d) B a) false false:=.inr (.inr ⟨rfl,B,hBT.1,by
      show (if B=B then true else s.gone B)≠s.gone B;rw [if_pos rfl,hBT.2.2]
      simp⟩)
    rw [fin_not (R.df R4 df)]
    refine ⟨rfl,g4,V4,_,M4,false,R4,m4,bs4.2,fun c hc=>?_,?_,df,.inr ⟨rfl,.open_ F S LD hf hBT hB1 hlB hB4 a4 hh4⟩⟩
    · rw [f4.low RC.ok RC.bl c hc]
      exact low1 c hc
    · exact Nat.le_trans (Nat.le_of_eq len1.symm) f4.len
end
end Go.Proofs.Ytafhipglhnfgnaa.Ab
set_option linter.unusedSimpArgs false
set_option linter.unusedVariables false
set_option linter.unnecessarySimpa false
set_option maxHeartbeats 4000000
namespace Go.Proofs.Ytafhipglhnfgnaa.Ab
open Go.RowKit
section
variable {es:List E} {s:Sv} {l:Lb} {xs ys:List Nat}
theorem way_drp:∀ {xs:List Nat} {j:Nat},IsWay l xs→j < xs.length→IsWay l (xs.drop j)
  | _,0,h,_=>h
  | [t],j+1,_,hj=>by simp at hj
  | t::o::xs,j+1,h,hj=>by
    have:=way_drp (xs:=o::xs) (j:=j) h.2 (by simpa using hj)
    simpa using this
theorem drop_last {xs:List Nat} {j:Nat} (hj:j < xs.length):(xs.drop j).getD ((xs.drop j).length - 1) 0=xs.getD (xs.length - 1) 0:=by
  rw [List.length_drop,List.getD_eq_getElem?_getD,List.getElem?_drop,← List.getD_eq_getElem?_getD]
  congr 1
  omega
theorem way_dis (wx:IsWay l xs) (wy:IsWay l ys) (hr:xs.getD (xs.length - 1) 0≠ys.getD (ys.length - 1) 0):∀ t,t∈xs→¬ t∈ys:=fun t h1 h2=>by
  obtain ⟨i,hi,rfl⟩:=mem_getD (d:=0) h1;obtain ⟨k,hk,e⟩:=mem_getD (d:=0) h2;have w1:=way_drp wx hi;have w2:=way_drp wy hk
  have e1:xs.drop i=xs.getD i 0::xs.drop (i+1):=by rw [List.drop_eq_getElem_cons hi];simp [List.getD,hi]
  have e2:ys.drop k=ys.getD k 0::ys.drop (k+1):=by rw [List.drop_eq_getElem_cons hk];simp [List.getD,hk]
  rw [e1] at w1;rw [e2,e] at w2;have:=way_one w1 w2;apply hr
  rw [← drop_last hi,← drop_last hk,e1,e2,e,this]
end
theorem Far.le {V:RV} {n m:Nat} (h:Far V n) (hm:m≤n):Far V m:=by
  obtain ⟨c,q,h1,h2⟩:=h
  exact ⟨c,q,by omega,h2⟩
section
variable {X:CallF} {g:Tags} {h:Heap} {b k:Nat} {es:List E} {s:Sv} {M:List Lk} {V:RV} {size Y Mx:Int}
set_option maxRecDepth 100000 in
theorem k_l10Round (hbs : BsOk s V.bs) (R : Rn g h b es s M k false V) (G : Gs es s Y Mx) (hN : s.N ≤ 400) (m : MtOk es s M) (gk : GOk size es) (he9 : es.length ≤ 1000) :
    ∃ h' g' V' s' M' dn',C T X n_spec_l10Round [p7 b 0] h=some (.tuple ⟨[]⟩,h')∧Rn g' h' b es s' M' k dn' V'∧MtOk es s' M'∧BsOk s' V'.bs∧(∀ c,c+1 < b→h'[c]?=h[c]?)∧h.length≤h'.length∧((dn'=true∧Last es s s')∨(dn'=false∧Round es s s')):=by
  suffices hx:∃ w h',C T X n_spec_l10Round [p7 b 0] h=some (w,h')∧w=.tuple ⟨[]⟩∧∃ g' V' s' M' dn',Rn g' h' b es s' M' k dn' V'∧MtOk es s' M'∧BsOk s' V'.bs∧(∀ c,c+1 < b→h'[c]?=h[c]?)∧h.length≤h'.length∧((dn'=true∧Last es s s')∨(dn'=false∧Round es s s')) by
    obtain ⟨w,h',c,rfl,g',V',s',M',dn',q⟩:=hx;exact ⟨h',g',V',s',M',dn',c,q⟩
  have K:=G.K;have hs:=G.sm hN;have hu:=K.upOk;have nN:=K.nN;obtain ⟨hh,l,rk,L,A,Q,r,cl,hp,hlen,F,D,P,hr⟩:=k_l10Label (X:=X) R K hs m gk he9;have R1:=R.up hp;have hbl:=R.bl
  have hg:∀ c τ,g c=some τ→c < h.length:=fun c τ q=>(R.ok c τ q).2
  have lw:∀ c,c+1 < b→hh[c]?=h[c]?:=fun c hc=>get_of_pre hp (by omega)
  refine C_ex t_spec_l10Round rfl ?_;unfold F_spec_l10Round;rcases hr with ⟨rfl,S⟩ | ⟨e,rfl,hat⟩
  · obtain ⟨h',g',V',s',M',dn',ca,R',m',b',low,len,df,q⟩:=k_l10Adjust (X:=X) hbs R1 G hN m gk P D F S he9 hbl hg
    have hn:((-1:Int) < 0):=by omega
    simp only [cl,hn,ca,Nat.zero_add,go_sem];rw [fin_not (R.df R' df)]
    exact ⟨rfl,g',V',s',M',dn',R',m',b',fun c hc=>(low c hc).trans (lw c hc),Nat.le_trans (pre_len hp) len,q⟩
  · have hat':=hat
    obtain ⟨he,ht,hne,la,lb⟩:=hat'
    have hn:¬ ((e:Int) < 0):=by omega
    obtain ⟨hE,hEB⟩:=K.ed e he;obtain ⟨ga,gb,_⟩:=gok_int gk he;have el:=R1.ev.el (f:=edgeR) e0 he
    have cta:=k_l10Top (X:=X) R1 hu (v:=vA es e) (by omega)
    have ctb:=k_l10Top (X:=X) R1 hu (v:=vB es e) (by omega)
    have aN:top s (vA es e) < s.N:=top_lt hu (by omega)
    have cN:top s (vB es e) < s.N:=top_lt hu (by omega)
    obtain ⟨xs,wx,hx0,qx⟩:=D.rt _ aN (show l.lab (top s (vA es e))≠0 by omega)
    obtain ⟨ys,wy,hy0,qy⟩:=D.rt _ cN (show l.lab (top s (vB es e))≠0 by omega)
    obtain ⟨x1,x2⟩:=P.qel aN;obtain ⟨y1,y2⟩:=P.qel cN
    have er:edgeR (es.getD e e0)=[.int .i64 (vA es e:Nat),.int .i64 (vB es e:Nat),.int .i64 (es.getD e e0).w1,.int .i64 (es.getD e e0).w2,.int .i64 (es.getD e e0).w3]:=by unfold edgeR;rw [ga,gb]
    rw [er] at el
    by_cases c:((Q.getD (top s (vA es e)) 0:Nat):Int)=((Q.getD (top s (vB es e)) 0:Nat):Int)
    · have hroot:xs.getD (xs.length - 1) 0=ys.getD (ys.length - 1) 0:=by rw [← qx,← qy];omega
      obtain ⟨i,kk,Mt,hf⟩:=meet_mk F K hat wx wy hx0 hy0 hroot;obtain ⟨h',g',V',M',cs,R',m',low,len,b',far⟩:=k_l10Shrink (X:=X) hbs R1 K hs m gk P D Mt hf he hx0.symm hy0.symm hbl hg;unfold edgeV at cs;rw [er] at cs;simp only [cl,hn,R1.chk,R1.fa,R1.ld1,el.1,el.2.1,el.2.2,cta,ctb,P.chk,P.fa,P.ld2,x1,x2,y1,y2,c,cs,Nat.zero_add,zeros,fillAt,List.prefix_refl,go_sem];rw [fin_keep hbl (R.diff R' (far.le (pre_len hp)))]
      exact ⟨rfl,g',V',_,M',false,R',m',b',fun c hc=>(low c hc).trans (lw c hc),Nat.le_trans (pre_len hp) len,.inr ⟨rfl,.fold Mt⟩⟩
    · have hroot:xs.getD (xs.length - 1) 0≠ys.getD (ys.length - 1) 0:=by rw [← qx,← qy];omega
      have jn:=cn_tops (es:=es) K he
      have Ag:Aug es s l rk e xs ys:=⟨F,wx,wy,by rw [hx0];exact la,by rw [hy0];exact lb,ht,by rw [hx0,hy0];exact jn,way_dis wx wy hroot⟩
      obtain ⟨h',g',V',s',M',cs,R',O,m',low,len,b',far⟩:=k_l10Augment (X:=X) hbs R1 K hs m gk P D Ag he hx0.symm hy0.symm hbl hg;unfold edgeV at cs;rw [er] at cs;simp only [cl,hn,R1.chk,R1.fa,R1.ld1,el.1,el.2.1,el.2.2,cta,ctb,P.chk,P.fa,P.ld2,x1,x2,y1,y2,c,cs,Nat.zero_add,zeros,fillAt,List.prefix_refl,go_sem];rw [fin_keep hbl (R.diff R' (far.le (pre_len hp)))]
      exact ⟨rfl,g',V',s',M',false,R',m',b',fun c hc=>(low c hc).trans (lw c hc),Nat.le_trans (pre_len hp) len,.inr ⟨rfl,.aug Ag O⟩⟩
end
end Go.Proofs.Ytafhipglhnfgnaa.Ab
set_option linter.unusedSimpArgs false
set_option linter.unusedVariables false
set_option linter.unnecessarySimpa false
set_option maxHeartbeats 4000000
namespace Go.Proofs.Ytafhipglhnfgnaa.Ab
open Go.RowKit
section
variable {es:List E} {s s' s1:Sv} {k n:Nat} {y:Int}
theorem rounds_snoc (h:Rounds es k s s1) (r:Round es s1 s'):Rounds es (k+1) s s':=by
  induction h with
  | zero s=>exact .succ r (.zero _)
  | succ h _ ih=>exact .succ h (ih r)
theorem opens_N (h:OpenZ es s s'):s'.N=s.N:=by
  induction h with
  | refl s=>rfl
  | step hB ht hz ha hh _ ih=>exact ih
theorem round_N (h:Round es s s'):s'.N≤s.N+1:=by
  cases h with
  | fold M=>exact Nat.le_refl _
  | aug A O=>rw [opens_N O];exact Nat.le_succ _
  | change F S D hf hy hz=>exact Nat.le_succ _
  | open_ F S D hf hB hn hl hz ha hh=>exact Nat.le_succ _
theorem rounds_N (h:Rounds es k s s'):s'.N≤s.N+k:=by
  induction h with
  | zero s=>exact Nat.le_refl _
  | succ h _ ih=>have:=round_N h;omega
theorem last_N (h:Last es s s'):s'.N=s.N∧s'.n=s.n:=by
  cases h with
  | none F h=>exact ⟨rfl,rfl⟩
  | change F S D hf hy=>exact ⟨rfl,rfl⟩
def startJ (n:Nat) (y:Int) (j:Nat):Sv where
  n:=n
  N:=j
  y:=fun v=>if v < j then y else 0
  up:=fun _=>none
  mem:=fun _=>[]
  lnk:=fun _=>[]
  mate:=fun _=>none
  base:=fun v=>v
  z:=fun _=>0
  gone:=fun _=>false
theorem start_mt:MtOk es (startS n y) []:=⟨fun x hx=>(by cases hx),fun t e _ h=>(by cases h),.nil,Nat.zero_le _⟩
theorem start_bs {bs:Nat→Nat} (h:∀ v,v < n→bs v=v):BsOk (startS n y) bs:=fun t i ht _ hw _=>h i (by
  have h1:t < n:=ht.1
  cases hw with
  | refl=>exact h1
  | step e _=>cases e)
end
section
variable {X:CallF} {h:Heap} {es:List E} {v:Value} {n:Nat}
set_option maxRecDepth 100000 in
theorem k_l10Solve (he : Rows h 5 v (edges es)) (gk : GOk (n : Int) es) (n9 : n ≤ 9) (hl : es.length ≤ 1000) :
    ∃ h' g V s M kk Y Mx,C T X n_spec_l10Solve [graphV n v] h=some (p7 (h.length+1) 0,h')∧h <+: h'∧Rn g h' (h.length+1) es s M kk true V∧MtOk es s M∧BsOk s V.bs∧Gs es s Y Mx∧Frz s∧s.n=n∧s.N≤400:=by
  suffices hx:∃ w h',C T X n_spec_l10Solve [graphV n v] h=some (w,h')∧w=p7 (h.length+1) 0∧∃ g V s M kk Y Mx,h <+: h'∧Rn g h' (h.length+1) es s M kk true V∧MtOk es s M∧BsOk s V.bs∧Gs es s Y Mx∧Frz s∧s.n=n∧s.N≤400 by
    obtain ⟨w,h',c,rfl,g,V,s,M,kk,Y,Mx,q⟩:=hx;exact ⟨h',g,V,s,M,kk,Y,Mx,c,q⟩
  refine C_ex t_spec_l10Solve rfl ?_;unfold F_spec_l10Solve graphV;obtain ⟨h1,hh1⟩:∃ h1:Heap,h1=h++[⟨zeros [.int .i64 0] n,1,y_int,true⟩]:=⟨_,rfl⟩
  have ln1:h1.length=h.length+1:=by rw [hh1];simp
  have hmk:mkW h 1 y_int [.int .i64 0] (.int .i64 (n:Nat))=some (slv h.length n,h1):=by rw [hh1];exact mk_at (by unfold lim;omega)
  obtain ⟨h0,hh0⟩:∃ h0:Heap,h0=h1++[⟨[.int .i64 (n:Nat),v,slv h.length n,nilV,nilV,.int .i64 0,.bool false],7,y_l10Run,true⟩]:=⟨_,rfl⟩
  have hbx:bxW h1 y_l10Run 7 (.agg ⟨[.int .i64 (n:Nat),v,slv h.length n,.slice none 0 0,.slice none 0 0,.int .i64 0,.bool false]⟩)=some (p7 (h.length+1) 0,h0):=by
    rw [hh0,← ln1];rfl
  have hsc:cellsOf (slv h.length n)=some [slv h.length n]:=rfl;obtain ⟨b,hb⟩:∃ b,b=h.length+1:=⟨_,rfl⟩;rw [← hb] at hbx ⊢
  have p0:h <+: h0:=by rw [hh0,hh1,List.append_assoc];exact List.prefix_append _ _
  have he0:=he.up p0
  have ln0:h0.length=h.length+2:=by rw [hh0];simp [ln1]
  obtain ⟨V0,hV0⟩:∃ V0:RV,V0=⟨v,slv h.length n,nilV,nilV,fun _=>nilV,fun _=>nilV,fun v=>v⟩:=⟨_,rfl⟩
  have R0:∀ y,Rn (fun c=>if c=h.length then some .y else none) h0 b es (startJ n y 0) [] 0 false V0:=fun y=>by
    have ok:TagOk b (fun c=>if c=h.length then some Tg.y else none) h0:=fun c τ q=>by
      have q':(if c=h.length then some Tg.y else none)=some τ:=q
      by_cases e:c=h.length
      · omega
      · rw [if_neg e] at q';cases q'
    refine ⟨ok,?_,?_,⟨fun r hr=>?_,.inr ⟨h.length,if_pos rfl,?_,?_⟩⟩,?_,?_,fun i hi=>?_,fun i hi=>?_⟩
    · rw [hb,hh0,hV0,← ln1]
      simp [runB,startJ]
    · have e:h0.take (b - 1)=h:=by rw [hb,hh0,hh1];simp [List.append_assoc]
      rw [e,hV0];exact he
    · simp [ints] at hr;obtain ⟨x,_,rfl⟩:=hr;rfl
    · rw [hV0]
      simp [ysOf,ints,startJ,slv]
    · rw [hh0,hh1]
      have:(ints (ysOf (startJ n y 0))).flatten=zeros [.int .i64 0] n:=by
        rw [zeros1]
        congr 2
        simp [ysOf,startJ,natI,List.map_const']
      rw [this];simp
    · rw [hV0];exact Has.nil
    · rw [hV0];exact Has.nil
    · exact absurd hi (Nat.not_lt_zero i)
    · exact absurd hi (Nat.not_lt_zero i)
  simp only [hmk,hsc,hbx,List.length_cons,List.length_nil,List.cons_append,List.nil_append,List.drop_succ_cons,List.drop_zero,Nat.zero_add,go_sem]
  refine w_for es.length (fun i t' loc hh=>hh=h0∧t' 3=p7 b 0∧loc 1=some [.int .i64 (n:Nat),v]∧t' 5=.int .i64 (i:Nat)∧∃ y:Int,t' 4=.int .i64 y∧0≤y∧y≤4515050∧∀ e,e < i→vW es e≤y) ⟨rfl,rfl,rfl,rfl,0,rfl,by omega,by omega,fun e he=>by omega⟩ ?_
  rintro i t' loc hh hi ⟨rfl,t3,l1,t5,y,t4,y0,y1,hy⟩;have eln:=he0.lnm;simp only [t3,t5,l1,eln,go_sem]
  refine w_open (by simp only [go_sem];rfl) ?_ ?_<;>intro hc
  · have hi1:i < es.length:=by omega
    have hw:IntKind.i64.wrap ((i:Int)+1)=((i+1:Nat):Int):=w64 (by omega) (by omega)
    have el:=he0.el (f:=edgeR) e0 hi1;have cs:=k_spec_Scalar (X:=X) (h:=hh) (e:=es.getD i e0) (eok_w (gok_mem gk (getD_mem (d:=e0) hi1)));have hsc2:scalar (es.getD i e0).w1 (es.getD i e0).w2 (es.getD i e0).w3=vW es i:=rfl;rw [hsc2] at cs;unfold edgeV edgeR at cs;unfold edgeR at el;obtain ⟨w0,w1⟩:=gok_w gk hi1
    by_cases c1:vW es i > y
    · simp only [t3,t4,t5,l1,el.1,el.2.1,el.2.2,cs,c1,hw,Nat.zero_add,List.prefix_refl,go_sem]
      refine ⟨hi1,_,rfl,w0,w1,fun e he=>?_⟩
      by_cases q:e=i
      · rw [q];exact Int.le_refl _
      · have:=hy e (by omega);omega
    · simp only [t3,t4,t5,l1,el.1,el.2.1,el.2.2,cs,c1,hw,Nat.zero_add,List.prefix_refl,go_sem]
      refine ⟨hi1,_,rfl,y0,y1,fun e he=>?_⟩
      by_cases q:e=i
      · rw [q];omega
      · exact hy e (by omega)
  have hie:i=es.length:=by omega
  rw [hie] at hy;simp only [t3,t4,t5,l1,go_sem]
  clear hc hie hi eln t3 t4 t5
  have R0':=R0 y
  have hVb:∀ i,V0.bs i=i:=fun i=>by rw [hV0]
  have vln0:hh.length=b+1:=by rw [ln0,hb]
  clear R0 hh0
  obtain ⟨g0,hg0⟩:∃ g0:Tags,g0=fun c=>if c=h.length then some Tg.y else none:=⟨_,rfl⟩
  rw [← hg0] at R0'
  refine w_for n (fun j t' loc h2=>t' 3=p7 b 0∧loc 1=some [.int .i64 (n:Nat),v]∧t' 4=.int .i64 y∧t' 6=.int .i64 (j:Nat)∧∃ g' V',Tn b (fun τ=>τ=.y∨τ=.n) g0 hh g' h2∧Rn g' h2 b es (startJ n y j) [] 0 false V'∧∀ i,V'.bs i=i) ⟨rfl,by rw [← l1];rfl,rfl,rfl,g0,V0,Tn.refl R0'.ok,R0',hVb⟩ ?_
  clear l1
  clear t' loc i
  rintro j t' loc h2 hj ⟨t3,l1,t4,t6,g',V',f,R,hvb⟩;simp only [t6,l1,go_sem]
  refine w_open (by simp only [go_sem];rfl) ?_ ?_<;>intro hc
  · have hj1:j < n:=by omega
    have hw:IntKind.i64.wrap ((j:Int)+1)=((j+1:Nat):Int):=w64 (by omega) (by omega)
    obtain ⟨b1,_⟩:=R.yia (v:=j) hj1;obtain ⟨h3,e1,e2,e3,_,R1⟩:=R.stY (i:=j) hj1 y;have hr:Has g' h3 (.rg (setY (startJ n y j) j y).N) 1 y_int nilV (ints (natI [])):=Has.nil;have hl:Has g' h3 (.lk (setY (startJ n y j) j y).N) 2 y_l10Link nilV (([]:List Lk).map lkR):=Has.nil
    have hjl:j < lim:=by unfold lim;omega
    obtain ⟨nv,h4,h5,g5,w1,w2,w3,w4,f5,R5⟩:=R1.pushN (u:=j) hjl hr hl (ls:=[]) ⟨rfl,fun j hj=>by cases hj⟩
    unfold ndR at w1
    have R6:Rn g5 h5 b es (startJ n y (j+1)) [] 0 false (V'.more j nv nilV nilV j):=R5.congr' rfl rfl (fun i hi=>by
      show (if i < j+1 then y else 0)=if i=j then y else if i < j then y else 0
      by_cases q:i=j
      · rw [if_pos q,if_pos (by omega)]
      · rw [if_neg q]
        by_cases q2:i < j
        · rw [if_pos q2,if_pos (by omega)]
        · rw [if_neg q2,if_neg (by omega)]) fun i hi=>⟨by show (0:Int)=if i=j then 0 else 0;split<;>rfl,by show none=if i∈([]:List Nat).take 0 then some j else if i=j then none else none;simp,by show false=if i=j then false else false;split<;>rfl,by show []=if i=j then [] else [];split<;>rfl,by show []=if i=j then [] else [];split<;>rfl⟩
    simp only [t3,t4,t6,l1,b1,e1,R.chk,R.fa,R.ld2,R1.chk,R1.fa,R1.ld3,w1,rb_chk w2,rb_fa w2,w3,w4,hw,Nat.zero_add,zeros,fillAt,List.prefix_refl,List.cons_append,List.nil_append,go_sem]
    refine ⟨hj1,g5,_,(f.trans (e2.mono fun _ q=>.inl q)).trans (f5.mono fun _ q=>.inr q),R6,fun i=>?_⟩
    show (if i=j then j else V'.bs i)=i
    by_cases q:i=j
    · rw [if_pos q,q]
    · rw [if_neg q];exact hvb i
  have hjn:j=n:=by omega
  rw [hjn] at R
  have RS:Rn g' h2 b es (startS n y) [] 0 false V':=R.congr' rfl rfl (fun i hi=>by
    have hi':i < n:=hi;show y=if i < n then y else 0
    rw [if_pos hi']) fun i hi=>⟨rfl,rfl,rfl,rfl,rfl⟩
  clear hjn R hc hj
  simp only [t3,go_sem]
  have low2:∀ c,c+1 < b→h2[c]?=h[c]?:=fun c hc=>by
    rw [f.low R0'.ok R0'.bl c hc]
    exact get_of_pre p0 (by omega)
  have len2:hh.length≤h2.length:=f.len;have hed:=gok_ed gk rfl;have I0:=start_inv (es:=es) n9 hed hy y0
  have G0:Gs es (startS n y) y y:=⟨I0.K,I0.L,start_bd,fun p _=>rfl,n9,y1⟩
  refine w_meas 331 (fun m t' loc hx=>t' 3=p7 b 0∧∃ g' V' s M kk dn,Rn g' hx b es s M kk dn V'∧MtOk es s M∧BsOk s V'.bs∧(∃ Y,Gs es s Y y)∧(∀ c,c+1 < b→hx[c]?=h[c]?)∧h.length≤hx.length∧s.n=n∧s.N≤400∧kk≤400∧((dn=false∧Rounds es kk (startS n y) s∧m+kk=331)∨(dn=true∧Frz s))) ⟨rfl,g',V',_,_,_,_,RS,start_mt,start_bs fun v _=>hvb v,⟨y,G0⟩,low2,by omega,rfl,by show n≤400;omega,by omega,.inl ⟨rfl,.zero _,rfl⟩⟩ ?_
  clear t3 t4 t6 l1 f RS hvb low2 len2
  clear t' loc h2 g' V' j
  rintro m t' loc hx ⟨t3,g',V',s,M,kk,dn,R,mt,bs,⟨Y,G⟩,low,len,hsn,hN,hkk,hq⟩
  have ck:(kk:Int) < 20000:=by omega
  rcases hq with ⟨rfl,hr,hm⟩ | ⟨rfl,hfr⟩
  rotate_left
  · simp only [t3,R.chk,R.fa,R.ld5,R.ld6,ck,Nat.zero_add,go_sem]
    rw [finish_deep (by rfl)]
    exact ⟨rfl,rfl,g',V',s,M,kk,Y,y,pre_of_get len fun c hc=>low c (by omega),R,mt,bs,G,hfr,hsn,hN⟩
  have hk:=run_short n9 hed hy y0 hr;have rN:=rounds_N hr;have rN':s.N≤n+kk:=rN
  obtain ⟨h3,e1,e2,e3,R3⟩:=R.st5 (T:=fun _=>False) (kk+1)
  have hw:IntKind.i64.wrap ((kk:Int)+1)=((kk+1:Nat):Int):=w64 (by omega) (by omega)
  obtain ⟨h4,g4,V4,s4,M4,dn4,c4,R4,m4,b4,low4,len4,q4⟩:=k_l10Round (X:=X) bs R3 G hN mt gk hl;simp only [t3,R.chk,R.fa,R.ld5,R.ld6,ck,e1,hw,c4,Nat.zero_add,go_sem]
  have low':∀ c,c+1 < b→h4[c]?=h[c]?:=fun c hc=>by rw [low4 c hc,e2.low R.ok R.bl c hc];exact low c hc
  have len':h.length≤h4.length:=Nat.le_trans len (Nat.le_trans e2.len len4);rcases q4 with ⟨rfl,hL⟩ | ⟨rfl,hR⟩
  · obtain ⟨Y',G',F'⟩:=G.last hL
    obtain ⟨n1,n2⟩:=last_N hL
    exact ⟨0,by omega,g4,V4,s4,M4,kk+1,true,R4,m4,b4,⟨Y',G'⟩,low',len',n2.trans hsn,by rw [n1];exact hN,by omega,.inr ⟨rfl,F'⟩⟩
  · obtain ⟨Y',G'⟩:=G.rnd hR
    have hn4:s4.n=s.n:=by
      obtain ⟨_,_,_,q,_⟩:=round_less (b:=14) ⟨G.K,G.L,G.n9,fun s' l' rk' H F S=>mu14 (folds_ok H G.K).1 (by rw [folds_n H G.K];exact G.n9)⟩ hR
      exact q
    have:=round_N hR
    exact ⟨m - 1,by omega,g4,V4,s4,M4,kk+1,false,R4,m4,b4,⟨Y',G'⟩,low',len',hn4.trans hsn,by omega,by omega,.inl ⟨rfl,rounds_snoc hr hR,by omega⟩⟩
end
end Go.Proofs.Ytafhipglhnfgnaa.Ab
set_option linter.unusedSimpArgs false
set_option linter.unusedVariables false
set_option linter.unnecessarySimpa false
set_option maxHeartbeats 4000000
namespace Go.Proofs.Ytafhipglhnfgnaa.Ab
open Go.RowKit
def aheadB:List Int→List Int→Bool
  | [],[]=>false
  | [],_::_=>true
  | _::_,[]=>false
  | x::xs,y::ys=>if x=y then aheadB xs ys else decide (x < y)
theorem ahead_cons {x y:Int} {xs ys:List Int}:aheadB (x::xs) (y::ys)=if x=y then aheadB xs ys else decide (x < y):=by rw [aheadB]
section
variable {X:CallF} {h:Heap} {va vb:Value} {a b:List Int}
theorem ahead_step:∀ {a b:List Int} {i:Nat},i < a.length→i < b.length→a.getD i 0=b.getD i 0→aheadB (a.drop i) (b.drop i)=aheadB (a.drop (i+1)) (b.drop (i+1)):=fun {a b i} h1 h2 h3=>by
  rw [List.drop_eq_getElem_cons h1,List.drop_eq_getElem_cons h2]
  have e1:a.getD i 0=a[i]:=by simp [List.getD,h1]
  have e2:b.getD i 0=b[i]:=by simp [List.getD,h2]
  rw [ahead_cons,← e1,← e2,if_pos h3]
theorem ahead_ne {i:Nat} (h1:i < a.length) (h2:i < b.length) (h3:¬ a.getD i 0=b.getD i 0):aheadB (a.drop i) (b.drop i)=decide (a.getD i 0 < b.getD i 0):=by
  rw [List.drop_eq_getElem_cons h1,List.drop_eq_getElem_cons h2]
  have e1:a.getD i 0=a[i]:=by simp [List.getD,h1]
  have e2:b.getD i 0=b[i]:=by simp [List.getD,h2]
  rw [ahead_cons,← e1,← e2,if_neg h3]
theorem ahead_end {i:Nat} (h1:i≤a.length) (h2:i≤b.length) (h:¬ (i < a.length∧i < b.length)):aheadB (a.drop i) (b.drop i)=decide (a.length < b.length):=by
  by_cases c:i < a.length
  · have hb:b.drop i=[]:=List.drop_eq_nil_of_le (by omega)
    rw [hb,List.drop_eq_getElem_cons c];unfold aheadB
    rw [decide_eq_false (by omega)]
  · have ha:a.drop i=[]:=List.drop_eq_nil_of_le (by omega)
    rw [ha]
    by_cases c2:i < b.length
    · rw [List.drop_eq_getElem_cons c2]
      unfold aheadB
      rw [decide_eq_true (by omega)]
    · have hb:b.drop i=[]:=List.drop_eq_nil_of_le (by omega)
      rw [hb];unfold aheadB
      rw [decide_eq_false (by omega)]
theorem k_l10Ahead (ra:Rows h 1 va (ints a)) (rb:Rows h 1 vb (ints b)) (hl:a.length≤100) (hl2:b.length≤100):C T X n_spec_l10Ahead [va,vb] h=some (.bool (aheadB a b),h):=by
  refine C_go t_spec_l10Ahead rfl ?_;unfold F_spec_l10Ahead;simp only [go_sem]
  refine w_for (min a.length b.length) (fun i t loc h'=>h'=h∧t 0=va∧t 1=vb∧t 5=.int .i64 (i:Nat)∧aheadB a b=aheadB (a.drop i) (b.drop i)) ⟨rfl,rfl,rfl,rfl,by simp⟩ ?_
  rintro i t loc h' hi ⟨rfl,t0,t1,t5,he⟩
  by_cases c1:(i:Int) < (a.length:Int)
  · by_cases c2:(i:Int) < (b.length:Int)
    · have hi1:i < a.length:=by omega
      have hi2:i < b.length:=by omega
      have hw:IntKind.i64.wrap ((i:Int)+1)=((i+1:Nat):Int):=w64 (by omega) (by omega)
      have ea:=int_el ra hi1;have eb:=int_el rb hi2
      by_cases c3:a.getD i 0=b.getD i 0
      · simp only [t0,t1,t5,ints_ln ra,ints_ln rb,c1,c2,ea.1,ea.2,eb.1,eb.2,c3,hw,go_sem]
        exact ⟨by omega,by rw [he,ahead_step hi1 hi2 c3]⟩
      · simp only [t0,t1,t5,ints_ln ra,ints_ln rb,c1,c2,ea.1,ea.2,eb.1,eb.2,c3,hw,go_sem]
        rw [he,ahead_ne hi1 hi2 c3]
    · simp only [t0,t1,t5,ints_ln ra,ints_ln rb,c1,c2,go_sem]
      rw [he,ahead_end (by omega) (by omega) (by omega)]
      congr 1
      simp
  · simp only [t0,t1,t5,ints_ln ra,ints_ln rb,c1,go_sem]
    rw [he,ahead_end (by omega) (by omega) (by omega)]
    congr 1
    simp
end
noncomputable def placeG (s:Sv) (ps:List Nat) (p:Nat):Nat→Nat
  | 0=>0
  | k+1=>if aheadB (memL s p) (memL s (ps.getD k 0))=true then placeG s ps p k else k+1
noncomputable def insP (s:Sv) (ps:List Nat) (p:Nat):List Nat:=ps.take (placeG s ps p ps.length)++p::ps.drop (placeG s ps p ps.length)
open Classical in
noncomputable def gTo (s:Sv) (i:Nat):List Nat:=((List.range i).filter fun p=>decide (IsRing s p∧0 < s.z p)).foldl (insP s) []
section
variable {s:Sv} {ps:List Nat} {p i:Nat}
theorem insP_perm:(insP s ps p).Perm (p::ps):=by
  unfold insP;have:=List.perm_middle (a:=p) (l₁:=ps.take (placeG s ps p ps.length)) (l₂:=ps.drop (placeG s ps p ps.length));rw [List.take_append_drop] at this;exact this
theorem fold_perm:∀ {qs ps:List Nat},(qs.foldl (insP s) ps).Perm (qs++ps)
  | [],ps=>List.Perm.refl _
  | q::qs,ps=>by
    rw [List.foldl_cons];refine (fold_perm (qs:=qs)).trans ?_;refine (List.Perm.append_left qs insP_perm).trans ?_;exact List.perm_middle
theorem gTo_perm:(gTo s s.N).Perm (zRings s):=by
  unfold gTo zRings
  have:=fold_perm (s:=s) (qs:=(List.range s.N).filter fun p=>open Classical in decide (IsRing s p∧0 < s.z p)) (ps:=[])
  rw [List.append_nil] at this;exact this
theorem gTo_lt:∀ q∈gTo s i,q < i:=fun q hq=>by
  unfold gTo at hq;have:=(fold_perm (s:=s) (ps:=[])).mem_iff.1 hq;rw [List.append_nil] at this;exact List.mem_range.1 (List.mem_filter.1 this).1
theorem gTo_len:(gTo s i).length≤i:=by
  unfold gTo;rw [(fold_perm (s:=s) (ps:=[])).length_eq,List.append_nil]
  exact Nat.le_trans (List.length_filter_le _ _) (by rw [List.length_range];exact Nat.le_refl _)
open Classical in
theorem gTo_yes (h:IsRing s i∧0 < s.z i):gTo s (i+1)=insP s (gTo s i) i:=by
  unfold gTo;rw [List.range_succ,List.filter_append,List.foldl_append]
  have:[i].filter (fun p=>decide (IsRing s p∧0 < s.z p))=[i]:=by simp [h]
  rw [this];rfl
open Classical in
theorem gTo_no (h:¬ (IsRing s i∧0 < s.z i)):gTo s (i+1)=gTo s i:=by
  unfold gTo;rw [List.range_succ,List.filter_append]
  have:[i].filter (fun p=>decide (IsRing s p∧0 < s.z p))=[]:=by simp only [List.filter_cons,List.filter_nil];rw [decide_eq_false h];rfl
  rw [this,List.append_nil]
theorem gTo_low:∀ {i:Nat},i≤s.n→gTo s i=[]
  | 0,_=>rfl
  | i+1,h=>by
    rw [gTo_no fun q=>by have:=q.1.1;omega,gTo_low (by omega)]
end
structure Gm (h:Heap) (lo:Nat) (s:Sv) (v:Value) (ps:List Nat) (mv:Nat→Value):Prop where
  out:Own h lo h.length 2 y_Group v (ps.map fun p=>[mv p,.int .i64 (s.z p)])
  ins:∀ p∈ps,Own h lo h.length 1 y_int (mv p) (ints (memL s p))
theorem Gm.up {h h':Heap} {lo:Nat} {s:Sv} {v:Value} {ps:List Nat} {mv:Nat→Value} (g:Gm h lo s v ps mv) (hp:h <+: h'):Gm h' lo s v ps mv:=⟨(g.out.up hp).wide (Nat.le_refl _) (pre_len hp),fun p hq=>((g.ins p hq).up hp).wide (Nat.le_refl _) (pre_len hp)⟩
def OG (h:Heap) (lo:Nat) (v:Value) (gs:List Gp):Prop:=∃ vs,Own h lo h.length 2 y_Group v (gRows vs gs)∧∀ i,i < gs.length→Own h lo h.length 1 y_int (vs.getD i nilV) (ints (gs.getD i g0).ms)
theorem OG.rows {h:Heap} {lo:Nat} {v:Value} {gs:List Gp} (o:OG h lo v gs):RowsG h v gs:=by
  obtain ⟨vs,h1,h2⟩:=o
  exact ⟨vs,h1.rows,fun i hi=>(h2 i hi).rows⟩
theorem Gm.og {h:Heap} {lo:Nat} {s:Sv} {v:Value} {ps:List Nat} {mv:Nat→Value} (g:Gm h lo s v ps mv):OG h lo v (ps.map (grpOf s)):=by
  have hv:∀ i,i < ps.length→(ps.map mv).getD i nilV=mv (ps.getD i 0):=fun i hi=>by simp [List.getD,hi]
  have hg:∀ i,i < ps.length→(ps.map (grpOf s)).getD i g0=grpOf s (ps.getD i 0):=fun i hi=>by simp [List.getD,hi]
  refine ⟨ps.map mv,?_,fun i hi=>?_⟩
  · have e:gRows (ps.map mv) (ps.map (grpOf s))=ps.map fun p=>[mv p,.int .i64 (s.z p)]:=by
      apply List.ext_getElem
      · simp
      · intro i h1 h2
        have hi:i < ps.length:=by simpa using h2
        simp only [List.getElem_map,List.getElem_range];unfold gRow;rw [hv i hi,hg i hi];simp [grpOf,List.getD,hi]
    rw [e];exact g.out
  · rw [List.length_map] at hi
    rw [hv i hi,hg i hi];exact g.ins _ (getD_mem (d:=0) hi)
end Go.Proofs.Ytafhipglhnfgnaa.Ab
set_option linter.unusedSimpArgs false
set_option linter.unusedVariables false
set_option linter.unnecessarySimpa false
set_option maxHeartbeats 4000000
namespace Go.Proofs.Ytafhipglhnfgnaa.Ab
open Go.RowKit
open Classical in
noncomputable def memTo (s:Sv) (p u:Nat):List Int:=((List.range u).filter fun v=>decide (Wi s v p)).map fun v:Nat=>(v:Int)
theorem memTo_n {s:Sv} {p:Nat}:memTo s p s.n=memL s p:=rfl
open Classical in
theorem memTo_yes {s:Sv} {p u:Nat} (h:Wi s u p):memTo s p (u+1)=memTo s p u++[(u:Int)]:=by
  unfold memTo;rw [List.range_succ,List.filter_append,List.map_append];simp [h]
open Classical in
theorem memTo_no {s:Sv} {p u:Nat} (h:¬ Wi s u p):memTo s p (u+1)=memTo s p u:=by
  unfold memTo;rw [List.range_succ,List.filter_append,List.map_append];simp [h]
theorem memTo_len {s:Sv} {p u:Nat}:(memTo s p u).length≤u:=by
  unfold memTo;rw [List.length_map]
  exact Nat.le_trans (List.length_filter_le _ _) (by rw [List.length_range];exact Nat.le_refl _)
section
variable {X:CallF} {g:Tags} {h:Heap} {b k:Nat} {es:List E} {s:Sv} {M:List Lk} {dn:Bool} {V:RV}
set_option maxRecDepth 100000 in
open Classical in
theorem k_l10Groups (R : Rn g h b es s M k dn V) (K : Ok es s) (hs : Sm s) :
    ∃ v h' mv,C T X n_spec_l10Groups [p7 b 0] h=some (v,h')∧h <+: h'∧cellsOf v=some [v]∧Gm h' h.length s v (gTo s s.N) mv:=by
  suffices hx:∃ w h',C T X n_spec_l10Groups [p7 b 0] h=some (w,h')∧∃ mv,h <+: h'∧cellsOf w=some [w]∧Gm h' h.length s w (gTo s s.N) mv by
    obtain ⟨w,h',c,mv,q⟩:=hx;exact ⟨w,h',mv,c,q⟩
  have hu:=K.upOk;have nN:=K.nN;have h9:=hs.N;have n9:=hs.n;refine C_ex t_spec_l10Groups rfl ?_;unfold F_spec_l10Groups;have R0:=R.up (List.prefix_append h [⟨[],2,y_Group,true⟩]);simp only [R0.chk,R0.fa,R0.ld0,Nat.zero_add,zeros,fillAt,go_sem]
  refine w_for (s.N - s.n) (fun j t' loc hh=>t' 0=p7 b 0∧t' 4=.int .i64 ((s.n+j:Nat):Int)∧h <+: hh∧∃ v mv c q r,t' 3=v∧v=.slice (some c) q r∧Gm hh h.length s v (gTo s (s.n+j)) mv) ⟨rfl,rfl,List.prefix_append _ _,.slice (some ⟨h.length,0,none⟩) 0 0,fun _=>nilV,_,_,_,rfl,rfl,?_⟩ ?_
  · rw [show s.n+0=s.n from rfl,gTo_low (Nat.le_refl _)]
    exact ⟨Acc.new.own,fun p hp=>by cases hp⟩
  rintro j t' loc hh hj ⟨t0,t4,hp,v,mv,cp,qn,rn,t3,hv,G⟩;have R':=R.up hp;simp only [t0,t4,R'.chk,R'.fa,R'.ld3,R'.nln,Nat.zero_add,go_sem]
  refine w_open (by simp only [go_sem];rfl) ?_ ?_<;>intro hc
  · have hj1:s.n+j < s.N:=by omega
    have hw:IntKind.i64.wrap (((s.n+j:Nat):Int)+1)=((s.n+(j+1):Nat):Int):=w64 (by omega) (by omega)
    obtain ⟨i,hi⟩:∃ i,i=s.n+j:=⟨_,rfl⟩
    have hi':s.n+(j+1)=i+1:=by omega
    rw [hi'] at hw;rw [← hi] at hj1 hw t4 G hc ⊢;have n5:=R'.n5 hj1;have n3:=R'.n3 hj1
    have no:¬ (IsRing s i∧0 < s.z i)→Gm hh h.length s v (gTo s (s.n+(j+1))) mv:=fun q=>by rw [hi',gTo_no q];exact G
    cases hg:s.gone i with
    | true =>
      rw [hg] at n5;simp only [t0,t3,t4,R'.chk,R'.fa,R'.ld3,R'.nia hj1,R'.nfa hj1,n5,hw,Nat.zero_add,go_sem]
      exact ⟨by omega,by rw [hi'],hp,v,mv,cp,qn,rn,rfl,hv,no fun q=>by rw [q.1.2.2] at hg;cases hg⟩
    | false =>
      rw [hg] at n5
      by_cases c1:s.z i≤0
      · simp only [t0,t3,t4,R'.chk,R'.fa,R'.ld3,R'.nia hj1,R'.nfa hj1,n5,n3,c1,hw,Nat.zero_add,go_sem]
        exact ⟨by omega,by rw [hi'],hp,v,mv,cp,qn,rn,rfl,hv,no fun q=>by omega⟩
      have hR:IsRing s i∧0 < s.z i:=⟨⟨by omega,hj1,hg⟩,by omega⟩
      simp only [t0,t3,t4,R'.chk,R'.fa,R'.ld3,R'.nia hj1,R'.nfa hj1,n5,n3,c1,hw,Nat.zero_add,go_sem];obtain ⟨ps,hps⟩:∃ ps,ps=gTo s i:=⟨_,rfl⟩;rw [← hps] at G
      have psl:∀ q∈ps,q < i:=fun q hq=>gTo_lt q (by rw [← hps];exact hq)
      have pslen:ps.length≤i:=by rw [hps];exact gTo_len
      have hlen0:=pre_len hp
      refine w_for s.n (fun u t' loc h2=>t' 0=p7 b 0∧t' 3=v∧t' 4=.int .i64 (i:Nat)∧t' 6=.int .i64 (u:Nat)∧hh <+: h2∧∃ mvv,loc 5=some [mvv,.int .i64 (s.z i)]∧Own h2 hh.length h2.length 1 y_int mvv (ints (memTo s i u))) ⟨rfl,rfl,rfl,rfl,List.prefix_refl _,nilV,rfl,Own.nil⟩ ?_
      clear t0 t3 t4 hc n5 n3 c1
      clear t' loc
      rintro u t' loc h2 hu2 ⟨t0,t3,t4,t6,hp2,mvv,l5,o⟩;have R2:=R'.up hp2;simp only [t0,t6,R2.chk,R2.fa,R2.ld0,Nat.zero_add,go_sem]
      refine w_open (by simp only [go_sem];rfl) ?_ ?_<;>intro hc
      · have hu1:u < s.n:=by omega
        have hw:IntKind.i64.wrap ((u:Int)+1)=((u+1:Nat):Int):=w64 (by omega) (by omega)
        have cw:=k_l10Within (X:=X) (t:=i) R2 hu (v:=u) (by omega)
        by_cases c2:Wi s u i
        · rw [tP_t c2] at cw
          obtain ⟨v3,h3,e3,q1,q2,o3⟩:=o.push1 (pre_len hp2) [.int .i64 (u:Nat)] rfl (by rw [ints_len];have:=memTo_len (s:=s) (p:=i) (u:=u);unfold lim;omega)
          rw [Nat.max_eq_right q1] at o3;simp only [t0,t3,t4,t6,l5,cw,e3,o3.cells,hw,Nat.zero_add,zeros,fillAt,List.prefix_refl,List.cons_append,List.nil_append,go_sem];refine ⟨hu1,pre_push hp2 (Nat.le_refl _) q1 q2,v3,rfl,?_⟩;rw [memTo_yes c2];simpa [ints] using o3
        · rw [tP_f c2] at cw
          simp only [t0,t3,t4,t6,l5,cw,hw,Nat.zero_add,zeros,fillAt,List.prefix_refl,go_sem]
          exact ⟨hu1,hp2,mvv,rfl,by rw [memTo_no c2];exact o⟩
      have hun:u=s.n:=by omega
      rw [hun,memTo_n] at o
      clear hun hu2 hc
      have G2:=G.up hp2;have gln:lnV h2 v=some (.int .i64 (ps.length:Nat)):=G2.out.rows.lnm;simp only [t0,t3,t4,t6,l5,gln,go_sem]
      have mlen:∀ p,(memL s p).length≤100:=fun p=>by have:=memTo_len (s:=s) (p:=p) (u:=s.n);rw [memTo_n] at this;omega
      have tail:∀ m:Nat,m≤ps.length→placeG s ps i ps.length=m→∃ v1 v8 h4 v9 h5 v10 v11 h6,slLV 2 v none (some (.int .i64 (m:Nat))) (h2++([⟨[],2,y_Group,true⟩]:Heap))=some v1∧appW (h2++([⟨[],2,y_Group,true⟩]:Heap)) 2 y_Group (.slice (some ⟨h2.length,0,none⟩) 0 0) v1=some (v8,h4)∧appLW h4 2 y_Group 1 v8 (some [mvv,.int .i64 (s.z i)])=some (v9,h5)∧slLV 2 v (some (.int .i64 (m:Nat))) none h5=some v10∧appW h5 2 y_Group v9 v10=some (v11,h6)∧h <+: h6∧(∃ c q r,v11=.slice (some c) q r)∧∃ mv',Gm h6 h.length s v11 (gTo s (s.n+(j+1))) mv':=fun m hm hpl=>by
        have p3:h2 <+: h2++([⟨[],2,y_Group,true⟩]:Heap):=List.prefix_append _ _;have o0:Own (h2++([⟨[],2,y_Group,true⟩]:Heap)) h2.length (h2++([⟨[],2,y_Group,true⟩]:Heap)).length 2 y_Group (.slice (some ⟨h2.length,0,none⟩) 0 0) []:=Acc.new.own;have G3:=G2.up p3
        have hrl:(ps.map fun p=>[mv p,Value.int .i64 (s.z p)]).length=ps.length:=List.length_map ..
        obtain ⟨v1,e1,r1⟩:=G3.out.rows.sub (i:=0) (k:=m) (Nat.zero_le _) (by rw [hrl];exact hm) (by omega) (lo:=none) (hi:=some (.int .i64 (m:Nat))) rfl rfl
        rw [List.drop_zero,Nat.sub_zero] at r1
        obtain ⟨v8,h4,e2,q1,q2,o4⟩:=o0.app (pre_len p3) r1 (by rw [List.length_take,hrl];unfold lim;simp;omega)
        have p4:h2 <+: h4:=pre_push p3 (Nat.le_refl _) q1 q2;rw [Nat.max_eq_right q1,List.nil_append] at o4
        obtain ⟨v9,h5,e3,q3,q4,o5⟩:=o4.push1 (pre_len p4) [mvv,.int .i64 (s.z i)] rfl (by rw [List.length_take,hrl];unfold lim;omega)
        have p5:h2 <+: h5:=pre_push p4 (Nat.le_refl _) q3 q4;rw [Nat.max_eq_right q3] at o5;have l25:=pre_len hp2
        obtain ⟨v10,e4,r4⟩:=(G2.up p5).out.rows.sub (i:=m) (k:=ps.length) hm (by rw [hrl];exact Nat.le_refl _) (by omega) (lo:=some (.int .i64 (m:Nat))) (hi:=none) rfl (by rw [hrl];rfl)
        obtain ⟨v11,h6,e5,q5,q6,o6⟩:=o5.app (pre_len p5) r4 (by simp only [List.length_append,List.length_take,List.length_drop,List.length_cons,List.length_nil,hrl];unfold lim;omega)
        have p6:h2 <+: h6:=pre_push p5 (Nat.le_refl _) q5 q6;rw [Nat.max_eq_right q5] at o6
        refine ⟨v1,v8,h4,v9,h5,v10,v11,h6,e1,e2,e3,e4,e5,(hp.trans hp2).trans p6,?_,fun q=>if q=i then mvv else mv q,?_⟩
        · rcases o6.is with ⟨_,q⟩ | ⟨c,_,_,l3,_⟩
          · simp at q
          · exact ⟨_,_,_,l3⟩
        · rw [hi',gTo_yes hR,← hps]
          have hrow:∀ q∈ps,(fun p=>[mv p,Value.int .i64 (s.z p)]) q=(fun p=>[(fun q=>if q=i then mvv else mv q) p,Value.int .i64 (s.z p)]) q:=fun q hq=>by
            have:=psl q hq;simp only
            rw [if_neg (by omega)]
          refine ⟨?_,fun q hq=>?_⟩
          · have:=o6.wide (lo':=h.length) (by omega) (Nat.le_refl _)
            unfold insP;rw [hpl,List.map_append,List.map_cons];rw [← List.map_take,← List.map_drop,List.append_assoc] at this
            have t1:(ps.drop m).take (ps.length - m)=ps.drop m:=List.take_of_length_le (by rw [List.length_drop];exact Nat.le_refl _)
            rw [← List.map_take,t1] at this
            rw [List.map_congr_left fun q hq=>hrow q (List.mem_of_mem_take hq),List.map_congr_left (l:=ps.drop m) fun q hq=>hrow q (List.mem_of_mem_drop hq)] at this
            simp only [if_true];simpa using this
          · have hq':=insP_perm.mem_iff.1 hq
            rcases List.mem_cons.1 hq' with e | hq'
            · rw [e]
              show Own h6 h.length h6.length 1 y_int (if i=i then mvv else mv i) _;rw [if_pos rfl];exact (o.up p6).wide hlen0 (pre_len p6)
            · have:=psl q hq'
              show Own h6 h.length h6.length 1 y_int (if q=i then mvv else mv q) _
              rw [if_neg (by omega)]
              exact ((G2.ins q hq').up p6).wide (Nat.le_refl _) (pre_len p6)
      refine w_meas ps.length (fun m t' loc hx=>hx=h2∧t' 0=p7 b 0∧t' 3=v∧t' 4=.int .i64 (i:Nat)∧loc 5=some [mvv,.int .i64 (s.z i)]∧t' 7=.int .i64 (m:Nat)∧m≤ps.length∧placeG s ps i m=placeG s ps i ps.length) ⟨rfl,rfl,rfl,rfl,by rw [← l5];rfl,rfl,Nat.le_refl _,rfl⟩ ?_
      clear t0 t3 t4 t6 l5
      clear t' loc u
      rintro m t' loc hx ⟨ehx,t0,t3,t4,l5,t7,hm,hpl⟩;rw [ehx]
      clear ehx hx
      cases m with
      | zero =>
        have n0:¬ (((0:Nat):Int) > 0):=by omega
        obtain ⟨v1,v8,h4,v9,h5,v10,v11,h6,e1,e2,e3,e4,e5,e6,⟨c',q',r',e7⟩,mv',e8⟩:=tail 0 (Nat.zero_le _) (by rw [← hpl];rfl)
        simp only [t0,t3,t4,t7,l5,n0,zeros,fillAt,List.cons_append,List.nil_append,e1,e2,e3,e4,e5,hw,go_sem]
        exact ⟨by omega,by rw [hi'],e6,v11,mv',c',q',r',rfl,e7,e8⟩
      | succ q =>
        have hq:q < ps.length:=by omega
        have n0:(((q+1:Nat):Int) > 0):=by omega
        have hw2:IntKind.i64.wrap (((q+1:Nat):Int) - 1)=(q:Nat):=by rw [w64 (by omega) (by omega)];omega
        have el:=G2.out.rows.el (f:=fun p=>[mv p,Value.int .i64 (s.z p)]) 0 hq
        have c0:=G2.out.rows.cell (f:=fun p=>[mv p,Value.int .i64 (s.z p)]) 0 hq (o:=0) (by omega)
        have c0':ldC h2 (elemP v 2 q 0) 1=some [mv (ps.getD q 0)]:=c0;have rb:=(G2.ins _ (getD_mem (d:=0) hq)).rows;have ca:=k_l10Ahead (X:=X) o.rows rb (mlen _) (mlen _)
        cases hb:aheadB (memL s i) (memL s (ps.getD q 0)) with
        | true =>
          rw [hb] at ca;simp only [t0,t3,t4,t7,l5,n0,hw2,el.1,el.2.1,c0',ca,Nat.zero_add,go_sem]
          refine ⟨q,by omega,by omega,by omega,?_⟩
          rw [← hpl];show _=if aheadB (memL s i) (memL s (ps.getD q 0))=true then placeG s ps i q else q+1;rw [if_pos hb]
        | false =>
          rw [hb] at ca
          obtain ⟨v1,v8,h4,v9,h5,v10,v11,h6,e1,e2,e3,e4,e5,e6,⟨c',q',r',e7⟩,mv',e8⟩:=tail (q+1) hm (by
            rw [← hpl];show (if aheadB (memL s i) (memL s (ps.getD q 0))=true then placeG s ps i q else q+1)=q+1
            rw [if_neg (by rw [hb];simp)])
          simp only [t0,t3,t4,t7,l5,n0,hw2,el.1,el.2.1,c0',ca,zeros,fillAt,List.cons_append,List.nil_append,e1,e2,e3,e4,e5,hw,Nat.zero_add,go_sem]
          exact ⟨by omega,by rw [hi'],e6,v11,mv',c',q',r',rfl,e7,e8⟩
  · have hjN:s.n+j=s.N:=by omega
    rw [hjN] at G;simp only [t0,t3,t4,go_sem]
    rw [finish_deep (by rw [hv];rfl)]
    exact ⟨by rw [hv];rfl,mv,hp,by rw [hv];rfl,G⟩
end
end Go.Proofs.Ytafhipglhnfgnaa.Ab
set_option linter.unusedSimpArgs false
set_option linter.unusedVariables false
set_option linter.unnecessarySimpa false
set_option maxHeartbeats 4000000
namespace Go.Proofs.Ytafhipglhnfgnaa.Ab
open Go.RowKit
inductive Op (es:List E) (s:Sv):Sv→Prop
  | refl:Op es s s
  | snoc {s1:Sv} {B a:Nat} (h:Op es s s1) (hB:IsRing s1 B) (ht:s1.up B=none) (ha:a < (s1.mem B).length) (hh:Hold es s1 B ((s1.mem B).getD a 0)):Op es s (openS s1 B a)
section
variable {es:List E} {T:Nat→Prop} {s s' s0 s1:Sv} {B a p v:Nat} {M:List Lk} {x:Lk} {c:Cp} {size:Int}
theorem Op.all {s':Sv} (h:Op es s s'):∀ {t},OpenAll es s' t→OpenAll es s t:=by
  induction h with
  | refl=>exact id
  | snoc h hB ht ha hh ih=>exact fun o=>ih (.step hB ht ha hh o)
theorem Op.nN {s':Sv} (h:Op es s s'):s'.n=s.n∧s'.N=s.N:=by
  induction h with
  | refl=>exact ⟨rfl,rfl⟩
  | snoc h hB ht ha hh ih=>exact ih
theorem Op.ok {s':Sv} (h:Op es s s') (K:Ok0 es T s):Ok0 es T s':=by
  induction h with
  | refl=>exact K
  | snoc h hB ht ha hh ih=>exact open_ok0 ih hB ht ha hh
theorem rings_open (hB:IsRing s B):(ringsL (openS s B a)).length < (ringsL s).length:=by
  have hnd:(B::ringsL (openS s B a)).Nodup:=List.nodup_cons.2 ⟨fun q=>(ring_open.1 (ringsL_mem.1 q)).2 rfl,ringsL_nd⟩
  have:=nsub_len hnd (b:=ringsL s) fun p hp=>by
    rcases List.mem_cons.1 hp with e | hp
    · rw [e];exact ringsL_mem.2 hB
    · exact ringsL_mem.2 (ring_open.1 (ringsL_mem.1 hp)).1
  rw [List.length_cons] at this;omega
theorem top_ring (K:Ok0 es T s) (hp:IsRing s p):IsRing s (top s p)∧s.up (top s p)=none:=by
  have hu:=K.upOk;have h1:=top_in hu (s:=s) (v:=p);refine ⟨?_,top_up hu⟩;rcases h1.last with e | ⟨m,e,_⟩
  · rw [← e];exact hp
  · exact (K.up _ _ e).2.1
structure Ps (s0 s1:Sv) (i:Nat):Prop where
  le:(ringsL s1).length≤(ringsL s0).length
  up:∀ B,IsRing s0 B→s0.up B=none→(i≤B→IsRing s1 B∧s1.up B=none)∧(B < i→(ringsL s1).length < (ringsL s0).length)
theorem Ps.start {n:Nat} (h:∀ p,IsRing s0 p→n≤p):Ps s0 s0 n:=⟨Nat.le_refl _,fun B h1 h2=>⟨fun _=>⟨h1,h2⟩,fun q=>by have:=h B h1;omega⟩⟩
theorem Ps.skip {i:Nat} (P:Ps s0 s1 i) (h:¬ IsTop s1 i) (hn:s1.n≤i):Ps s0 s1 (i+1):=by
  refine ⟨P.le,fun B h1 h2=>⟨fun q=>(P.up B h1 h2).1 (by omega),fun q=>?_⟩⟩
  by_cases c:B=i
  · subst c
    obtain ⟨r1,r2⟩:=(P.up B h1 h2).1 (Nat.le_refl _);exact absurd ⟨r1.2.1,r2,r1.2.2⟩ h
  · exact (P.up B h1 h2).2 (by omega)
theorem Ps.open_ {i:Nat} (P:Ps s0 s1 i) (hB:IsRing s1 i):Ps s0 (openS s1 i a) (i+1):=by
  have hr:=rings_open (a:=a) hB;have hle:=P.le
  refine ⟨by omega,fun B h1 h2=>⟨fun q=>?_,fun q=>by omega⟩⟩
  obtain ⟨r1,r2⟩:=(P.up B h1 h2).1 (by omega)
  refine ⟨ring_open.2 ⟨r1,by omega⟩,?_⟩
  show (if B∈s1.mem i then none else s1.up B)=none;split
  · rfl
  · exact r2
theorem Ps.end_ (P:Ps s0 s1 s0.N) (K:Ok0 es T s0):(ringsL s1).length≤(ringsL s0).length - 1:=by
  have hle:=P.le
  by_cases c:(ringsL s0).length=0
  · omega
  · obtain ⟨p,hp⟩:=List.exists_mem_of_length_pos (l:=ringsL s0) (by omega)
    obtain ⟨r1,r2⟩:=top_ring K (ringsL_mem.1 hp);have:=(P.up _ r1 r2).2 r1.2.1;omega
def clP (v:Nat) (x:Lk):Option Cp:=if x.f=v∧v < x.t then some ⟨(v:Int),(x.t:Int)⟩ else if x.t=v∧v < x.f then some ⟨(v:Int),(x.f:Int)⟩ else none
theorem fm_one {α β:Type} {f:α→Option β}:∀ {L:List α} {x:α},L.Pairwise (fun a b=>f a=none∨f b=none)→x∈L→f x≠none→L.filterMap f=(f x).toList
  | a::L,x,h,hx,hf=>by
    obtain ⟨h1,h2⟩:=List.pairwise_cons.1 h
    by_cases c:f a=none
    · rw [List.filterMap_cons_none c]
      rcases List.mem_cons.1 hx with e | hx
      · rw [e] at hf;exact absurd c hf
      · exact fm_one h2 hx hf
    · have hno:∀ b∈L,f b=none:=fun b hb=>(h1 b hb).resolve_left c
      have e:x=a:=by
        rcases List.mem_cons.1 hx with e | hx
        · exact e
        · exact absurd (hno x hx) hf
      rw [e]
      cases hfa:f a with
      | none=>exact absurd hfa c
      | some y =>
        rw [List.filterMap_cons_some hfa,List.filterMap_eq_nil_iff.2 hno];rfl
theorem cpl_links (K:Ok0 es T s) (hr:∀ p,¬ IsRing s p) (m:MtOk es s M) (gk:GOk size es):(List.range s.n).flatMap (fun v=>M.filterMap (clP v))=cplL es s.n s.mate:=by
  have hu:=K.upOk
  have tv:∀ {v},top s v=v:=fun {v}=>top_self hu (by
    cases h:s.up v with
    | none=>rfl
    | some p=>exact absurd (K.up _ _ h).2.1 (hr p))
  have at_:∀ v,v < s.n→M.filterMap (clP v)=(cpAt es s.mate v).toList:=fun v hv=>by
    have one:∀ x∈M,∀ c,clP v x=some c→∃ e,IsE es e x∧s.mate v=some e∧cpAt es s.mate v=some c:=fun x hx c hc=>by
      obtain ⟨e,q1,q2,q3,_⟩:=m.of x hx;rw [tv] at q2 q3;have lt:=(gok_int gk q1.1).2.2
      have hcc:∀ w,vA es e=v→vB es e=w→s.mate v=some e→cpAt es s.mate v=some ⟨(v:Int),(w:Int)⟩:=fun w h1 h2 h3=>by
        unfold cpAt;rw [h3];simp only;rw [if_pos h1,h2]
      unfold clP at hc;split at hc
      · next h =>
        cases hc;rw [h.1] at q2;refine ⟨e,q1,q2,?_⟩;rcases q1.2 with ⟨p1,p2⟩ | ⟨p1,p2⟩
        · exact hcc _ (by omega) (by omega) q2
        · omega
      · split at hc
        · next h =>
          cases hc;rw [h.1] at q3;refine ⟨e,q1,q3,?_⟩;rcases q1.2 with ⟨p1,p2⟩ | ⟨p1,p2⟩
          · omega
          · exact hcc _ (by omega) (by omega) q3
        · cases hc
    have hpw:M.Pairwise fun a b=>clP v a=none∨clP v b=none:=by
      refine List.Pairwise.imp_of_mem ?_ m.nd;intro x y hx hy hxy
      cases h1:clP v x with
      | none=>exact .inl rfl
      | some c =>
        cases h2:clP v y with
        | none=>exact .inr rfl
        | some d =>
          exfalso;obtain ⟨e,a1,a2,_⟩:=one x hx c h1;obtain ⟨f,b1,b2,_⟩:=one y hy d h2;rw [a2] at b2;cases b2;exact hxy e a1 b1
    cases hc:cpAt es s.mate v with
    | none =>
      rw [List.filterMap_eq_nil_iff.2 fun x hx=>?_]
      · rfl
      · cases h1:clP v x with
        | none=>rfl
        | some c=>obtain ⟨_,_,_,q⟩:=one x hx c h1;rw [hc] at q;cases q
    | some c =>
      obtain ⟨e,e1,e2,e3⟩:=cpAt_some hc
      have hvT:IsTop s v:=⟨Nat.lt_of_lt_of_le hv K.nN,by
        cases h:s.up v with
        | none=>rfl
        | some p=>exact absurd (K.up _ _ h).2.1 (hr p),by
        cases h:s.gone v with
        | false=>rfl
        | true=>have:=(K.gone v h).1;omega⟩
      obtain ⟨x,hx,h1⟩:=m.all v e hvT e1;have lt:=(gok_int gk h1.1).2.2
      have hxc:clP v x=some c:=by
        unfold clP;rw [e3];rcases h1.2 with ⟨p1,p2⟩ | ⟨p1,p2⟩
        · rw [if_pos (by omega),p2]
        · rw [if_neg (by omega),if_pos (by omega),p1]
      rw [fm_one hpw hx (by rw [hxc];simp),hxc]
  unfold cplL
  have key:∀ L:List Nat,(∀ v∈L,v < s.n)→L.flatMap (fun v=>M.filterMap (clP v))=L.filterMap (cpAt es s.mate):=fun L=>by
    induction L with
    | nil=>intro _;rfl
    | cons v L ih =>
      intro h
      rw [List.flatMap_cons,ih fun u hu=>h u (List.mem_cons_of_mem _ hu),at_ v (h v List.mem_cons_self),List.filterMap_cons]
      cases cpAt es s.mate v<;>rfl
  exact key _ fun v hv=>List.mem_range.1 hv
end
end Go.Proofs.Ytafhipglhnfgnaa.Ab
set_option linter.unusedSimpArgs false
set_option linter.unusedVariables false
set_option linter.unnecessarySimpa false
set_option maxHeartbeats 4000000
namespace Go.Proofs.Ytafhipglhnfgnaa.Ab
open Go.RowKit
structure Nw (es:List E) (s:Sv) (b kk lo:Nat) (h3 hh:Heap) (g:Tags) (V:RV) (s1:Sv) (M:List Lk):Prop where
  R:Rn g hh b es s1 M kk true V
  K:Ok0 es (Tight es s) s1
  m:MtOk es s1 M
  bs:BsOk s1 V.bs
  op:Op es s s1
  un:Un lo h3.length h3 hh g
  low:∀ c,c+1 < b→hh[c]?=h3[c]?
def cpTo (M:List Lk) (u i:Nat):List Cp:=(List.range u).flatMap (fun v=>M.filterMap (clP v))++(M.take i).filterMap (clP u)
theorem cpTo_len {M:List Lk}:∀ {u i:Nat},(cpTo M u i).length≤(u+1)*M.length
  | u,i=>by
    unfold cpTo;rw [List.length_append]
    have h1:((M.take i).filterMap (clP u)).length≤M.length:=Nat.le_trans (List.length_filterMap_le _ _) (by rw [List.length_take];omega)
    have h2:∀ u,((List.range u).flatMap (fun v=>M.filterMap (clP v))).length≤u*M.length:=fun u=>by
      induction u with
      | zero=>simp
      | succ u ih =>
        rw [List.range_succ,List.flatMap_append,List.length_append,List.flatMap_singleton,Nat.add_mul];have:=List.length_filterMap_le (clP u) M;omega
    have:=h2 u;rw [Nat.add_mul];omega
theorem cpTo_next {M:List Lk} {u:Nat}:cpTo M u M.length=cpTo M (u+1) 0:=by
  unfold cpTo;rw [List.take_length,List.range_succ,List.flatMap_append,List.flatMap_singleton];simp
theorem cpTo_yes {M:List Lk} {u i:Nat} {c:Cp} (hi:i < M.length) (h:clP u (M.getD i l0)=some c):cpTo M u (i+1)=cpTo M u i++[c]:=by
  unfold cpTo;rw [take_getD (d:=l0) hi,List.filterMap_append,← List.append_assoc]
  congr 1
  rw [List.filterMap_cons_some h];rfl
theorem cpTo_no {M:List Lk} {u i:Nat} (hi:i < M.length) (h:clP u (M.getD i l0)=none):cpTo M u (i+1)=cpTo M u i:=by
  unfold cpTo;rw [take_getD (d:=l0) hi,List.filterMap_append,List.filterMap_cons_none h];simp
section
variable {X:CallF} {h:Heap} {es:List E} {v:Value} {n:Nat}
set_option maxRecDepth 100000 in
open Classical in
theorem k_spec_Solve_own (he : Rows h 5 v (edges es)) (gk : GOk (n : Int) es) (n9 : n ≤ 9) (hl : es.length ≤ 1000) :
    ∃ h' mv yv gv m ys gs,C T X n_spec_Solve [graphV n v] h=some (.tuple ⟨[mv,proofV yv gv,.bool true]⟩,h')∧h <+: h'∧(∃ p q,h.length≤p∧p≤q∧q≤h'.length∧Own h' p q 1 y_int yv (ints ys)∧OG h' q gv gs∧Own h' q h'.length 2 y_Couple mv (cps m))∧CertOk (n:Int) es m ys gs:=by
  suffices hx:∃ w h',C T X n_spec_Solve [graphV n v] h=some (w,h')∧∃ mv yv gv m ys gs,w=.tuple ⟨[mv,proofV yv gv,.bool true]⟩∧h <+: h'∧(∃ p q,h.length≤p∧p≤q∧q≤h'.length∧Own h' p q 1 y_int yv (ints ys)∧OG h' q gv gs∧Own h' q h'.length 2 y_Couple mv (cps m))∧CertOk (n:Int) es m ys gs by
    obtain ⟨w,h',c,mv,yv,gv,m,ys,gs,rfl,q⟩:=hx;exact ⟨h',mv,yv,gv,m,ys,gs,c,q⟩
  have cg:=k_spec_GraphOk (X:=X) (size:=(n:Int)) he (by unfold lim;omega)
  rw [decide_eq_true gk] at cg;obtain ⟨h1,g,V,s,M,kk,Y,Mx,cs,p1,R,mt,bs,G,fr,hsn,hN⟩:=k_l10Solve (X:=X) he gk n9 hl;obtain ⟨b,hb⟩:∃ b,b=h.length+1:=⟨_,rfl⟩;rw [← hb] at cs R;have K:=G.K;have hs:=G.sm hN;have nN:=K.nN;have hbl:=R.bl;have py:h1 <+: h1++([⟨[],1,y_int,true⟩]:Heap):=List.prefix_append _ _;have oy0:Own (h1++([⟨[],1,y_int,true⟩]:Heap)) h1.length (h1++([⟨[],1,y_int,true⟩]:Heap)).length 1 y_int (.slice (some ⟨h1.length,0,none⟩) 0 0) []:=Acc.new.own;have Ry:=R.up py
  have yl:(ysOf s).length=s.n:=by unfold ysOf;simp
  obtain ⟨yv,h2,ey,q1,q2,oy⟩:=oy0.app (pre_len py) Ry.y.rows (by rw [ints_len,yl];unfold lim;simp;omega)
  have p2:h1 <+: h2:=pre_push py (Nat.le_refl _) q1 q2;rw [Nat.max_eq_right q1,List.nil_append] at oy;obtain ⟨gv,h3,mv0,cgr,p3,gvc,Gm0⟩:=k_l10Groups (X:=X) (R.up p2) K hs;have R3:=(R.up p2).up p3;refine C_ex t_spec_Solve rfl ?_;unfold F_spec_Solve;unfold graphV at cg cs ⊢;simp only [cg,cs,ey,cgr,Ry.chk,Ry.fa,Ry.ld2,oy.cells,gvc,zeros,fillAt,List.prefix_refl,List.cons_append,List.nil_append,Nat.zero_add,go_sem];have hblo:b < h1.length:=hbl
  have N0:Nw es s b kk h1.length h3 h3 g V s M:=⟨R3,K.ok0,mt,bs,.refl,⟨fun _ _ _=>rfl,fun c c1 _=>by
    cases q:g c with
    | none=>rfl
    | some τ=>have:=(R.ok c τ q).2;omega,Nat.le_refl _⟩,fun _ _=>rfl⟩
  have rl0:(ringsL s).length≤s.N - 0:=by
    have:=nsub_len (a:=ringsL s) (b:=List.range s.N) ringsL_nd fun p hp=>List.mem_range.2 (ringsL_mem.1 hp).2.1
    rw [List.length_range] at this;exact this
  refine w_for s.N (fun k2 t' loc hh=>t' 5=p7 b 0∧loc 1=some [.int .i64 (n:Nat),v]∧loc 6=some [yv,gv]∧loc 3=some [nilV,nilV]∧t' 7=.int .i64 (k2:Nat)∧∃ g' V' s1 M1,Nw es s b kk h1.length h3 hh g' V' s1 M1∧(ringsL s1).length≤s.N - k2) ⟨rfl,rfl,rfl,rfl,rfl,g,V,s,M,N0,rl0⟩ ?_
  rintro k2 t' loc hh hk2 ⟨t5,l1,l6,l3,t7,g',V',s0,M0,Nw0,rl⟩;have hNN:s0.N=s.N:=Nw0.op.nN.2;have hnn:s0.n=s.n:=Nw0.op.nN.1;have nln:=Nw0.R.nln;rw [hNN] at nln;have ld0:=Nw0.R.ld0;rw [hnn] at ld0;simp only [t5,t7,Nw0.R.chk,Nw0.R.fa,Nw0.R.ld3,nln,Nat.zero_add,go_sem]
  refine w_open (by simp only [go_sem];rfl) ?_ ?_<;>intro hc
  · have hk21:k2 < s.N:=by omega
    have hw:IntKind.i64.wrap ((k2:Int)+1)=((k2+1:Nat):Int):=w64 (by omega) (by omega)
    simp only [t5,t7,l1,l6,l3,Nw0.R.chk,Nw0.R.fa,ld0,Nat.zero_add,go_sem]
    have P0:Ps s0 s0 s.n:=Ps.start fun p hp=>by rw [← hnn];exact hp.1
    refine w_for (s.N - s.n) (fun j t' loc hh=>t' 5=p7 b 0∧loc 1=some [.int .i64 (n:Nat),v]∧loc 6=some [yv,gv]∧loc 3=some [nilV,nilV]∧t' 7=.int .i64 (k2:Nat)∧t' 8=.int .i64 ((s.n+j:Nat):Int)∧∃ g' V' s1 M1,Nw es s b kk h1.length h3 hh g' V' s1 M1∧Ps s0 s1 (s.n+j)) ⟨rfl,by rw [← l1];rfl,by rw [← l6];rfl,by rw [← l3];rfl,rfl,rfl,g',V',s0,M0,Nw0,P0⟩ ?_
    have K00:=Nw0.K
    clear Nw0 P0 t5 l1 l6 l3 t7 nln ld0 hc
    clear t' loc hh g' V' M0
    rintro j t' loc hh hj ⟨t5,l1,l6,l3,t7,t8,g',V',s1,M1,Nw1,P1⟩;have hNN1:s1.N=s.N:=Nw1.op.nN.2;have hnn1:s1.n=s.n:=Nw1.op.nN.1;have nln:=Nw1.R.nln;rw [hNN1] at nln;simp only [t5,t8,Nw1.R.chk,Nw1.R.fa,Nw1.R.ld3,nln,Nat.zero_add,go_sem]
    refine w_open (by simp only [go_sem];rfl) ?_ ?_<;>intro hc
    · have hj1:s.n+j < s.N:=by omega
      have hw':IntKind.i64.wrap (((s.n+j:Nat):Int)+1)=((s.n+(j+1):Nat):Int):=w64 (by omega) (by omega)
      have ci:=k_l10IsTop (X:=X) Nw1.R (i:=s.n+j) (by omega)
      by_cases c1:IsTop s1 (s.n+j)
      · rw [tP_t c1] at ci
        have hB:IsRing s1 (s.n+j):=⟨by omega,c1.1,c1.2.2⟩
        obtain ⟨a,h4,g4,V4,M4,c4,f4,R4,m4,a4,hh4,bs4,_⟩:=open_step (X:=X) Nw1.bs Nw1.R Nw1.K Nw1.m gk (by omega) (by omega) hB c1.2.1
        simp only [t5,t7,t8,l1,l6,l3,ci,c4,hw',Nat.zero_add,go_sem]
        refine ⟨by omega,g4,V4,_,M4,⟨R4,open_ok0 Nw1.K hB c1.2.1 a4 hh4,m4,bs4.2,.snoc Nw1.op hB c1.2.1 a4 hh4,Nw1.un.tn f4 hblo,fun c hc=>?_⟩,P1.open_ hB⟩
        rw [f4.low Nw1.R.ok Nw1.R.bl c hc];exact Nw1.low c hc
      · rw [tP_f c1] at ci
        simp only [t5,t7,t8,l1,l6,l3,ci,hw',Nat.zero_add,go_sem]
        exact ⟨by omega,g',V',s1,M1,Nw1,P1.skip c1 (by omega)⟩
    · have hjN:s.n+j=s.N:=by omega
      rw [hjN,← hNN] at P1;have:=P1.end_ K00;simp only [t5,t7,t8,l1,l6,l3,hw,go_sem]
      exact ⟨hk21,g',V',s1,M1,Nw1,by omega⟩
  have hkN:k2=s.N:=by omega
  have hr:∀ p,¬ IsRing s0 p:=fun p hp=>by
    have:=List.length_pos_of_mem (ringsL_mem.2 hp);omega
  have OA:OpenAll es s s0:=Nw0.op.all (.done _ hr)
  have CE:=cert_end gk (by rw [hsn]) K G.L G.B (by have:=G.m;omega) fr OA gTo_perm
  have CL:=cpl_links Nw0.K hr Nw0.m gk;rw [hnn] at CL;simp only [t5,t7,l1,l6,l3,zeros,fillAt,go_sem];have RF:=Nw0.R;have hM0:=mt_in Nw0.K Nw0.m;have hMl:=Nw0.m.le
  have CL0:cpTo M0 s.n 0=cplL es s.n s0.mate:=by
    rw [← CL];unfold cpTo;simp
  clear hc t5 t7 l1 l6 l3 nln ld0
  refine w_for n (fun u t' loc hx=>t' 5=p7 b 0∧loc 1=some [.int .i64 (n:Nat),v]∧loc 6=some [yv,gv]∧loc 3=some [nilV,nilV]∧t' 10=.int .i64 (u:Nat)∧hh <+: hx∧∃ cv cp q r,t' 9=cv∧cv=.slice (some cp) q r∧Own hx hh.length hx.length 2 y_Couple cv (cps (cpTo M0 u 0))) ⟨rfl,rfl,rfl,rfl,rfl,List.prefix_append _ _,.slice (some ⟨hh.length,0,none⟩) 0 0,_,_,_,rfl,rfl,Acc.new.own⟩ ?_
  clear t' loc
  rintro u t' loc hx hu ⟨t5,l1,l6,l3,t10,hpx,cv,cp,q,r,t9,hcv,o⟩;simp only [t10,l1,go_sem]
  refine w_open (by simp only [go_sem];rfl) ?_ ?_<;>intro hc
  · have hu1:u < n:=by omega
    have hw:IntKind.i64.wrap ((u:Int)+1)=((u+1:Nat):Int):=w64 (by omega) (by omega)
    simp only [t5,t9,t10,l1,l6,l3,go_sem]
    refine w_for M0.length (fun i t' loc hx=>t' 5=p7 b 0∧loc 1=some [.int .i64 (n:Nat),v]∧loc 6=some [yv,gv]∧loc 3=some [nilV,nilV]∧t' 10=.int .i64 (u:Nat)∧t' 11=.int .i64 (i:Nat)∧hh <+: hx∧∃ cv cp q r,t' 9=cv∧cv=.slice (some cp) q r∧Own hx hh.length hx.length 2 y_Couple cv (cps (cpTo M0 u i))) ⟨rfl,by rw [← l1];rfl,by rw [← l6];rfl,by rw [← l3];rfl,rfl,rfl,hpx,cv,cp,q,r,rfl,hcv,o⟩ ?_
    clear t5 l1 l6 l3 t10 hpx t9 hcv o hc
    clear t' loc hx cv cp q r
    rintro i t' loc hx hi ⟨t5,l1,l6,l3,t10,t11,hpx,cv,cp,q,r,t9,hcv,o⟩;have R':=RF.up hpx;simp only [t5,t11,R'.chk,R'.fa,R'.ld4,R'.mln,Nat.zero_add,go_sem]
    refine w_open (by simp only [go_sem];rfl) ?_ ?_<;>intro hc
    · have hi1:i < M0.length:=by omega
      have hwi:IntKind.i64.wrap ((i:Int)+1)=((i+1:Nat):Int):=w64 (by omega) (by omega)
      obtain ⟨m1,m2,m3⟩:=R'.mia hi1;obtain ⟨x,hxd⟩:∃ x,x=M0.getD i l0:=⟨_,rfl⟩;have hno:=cpTo_no (u:=u) hi1
      have hyes:=fun c=>cpTo_yes (u:=u) (c:=c) hi1
      rw [← hxd] at m3 hno hyes;unfold lkR at m3
      have hlen:(cps (cpTo M0 u i)).length < lim:=by
        rw [List.length_map];have h1:=cpTo_len (M:=M0) (u:=u) (i:=i)
        have h2:(u+1)*M0.length≤9*400:=Nat.mul_le_mul (by omega) hMl
        unfold lim;omega
      have pushed:∀ w:Nat,clP u x=some ⟨(u:Int),(w:Int)⟩→∃ v2 h2,appLW hx 2 y_Couple 1 cv (some [.int .i64 (u:Nat),.int .i64 (w:Nat)])=some (v2,h2)∧hh <+: h2∧∃ cp q r,v2=.slice (some cp) q r∧Own h2 hh.length h2.length 2 y_Couple v2 (cps (cpTo M0 u (i+1))):=fun w hw=>by
        obtain ⟨v2,h2',c3,p1',p2',o2⟩:=o.push1 (pre_len hpx) [.int .i64 (u:Nat),.int .i64 (w:Nat)] rfl hlen;rw [Nat.max_eq_right p1'] at o2
        have o3:Own h2' hh.length h2'.length 2 y_Couple v2 (cps (cpTo M0 u (i+1))):=by
          rw [hyes _ hw];simpa [cps,cpR] using o2
        refine ⟨v2,h2',c3,pre_push hpx (Nat.le_refl _) p1' p2',?_⟩;rcases o2.is with ⟨_,q⟩ | ⟨c,_,_,l3,_⟩
        · simp at q
        · exact ⟨_,_,_,l3,o3⟩
      by_cases d1:(x.f:Int)=(u:Int)
      · by_cases d2:(x.t:Int) > (u:Int)
        · obtain ⟨v2,h2',c3,p3',cp',q',r',e1,o2⟩:=pushed x.t (by unfold clP;rw [if_pos ⟨by omega,by omega⟩])
          have d3:¬ (x.t:Int)=(u:Int):=by omega
          have R2:=RF.up p3';simp only [t5,t9,t10,t11,l1,l6,l3,R'.chk,R'.fa,R'.ld4,m1,m2,m3,d1,d2,d3,c3,hwi,Nat.zero_add,zeros,fillAt,List.prefix_refl,List.cons_append,List.nil_append,go_sem];exact ⟨hi1,p3',v2,cp',q',r',rfl,e1,o2⟩
        · have hn:clP u x=none:=by unfold clP;rw [if_neg (by omega),if_neg (by omega)]
          by_cases d3:(x.t:Int)=(u:Int)
          · have d4:¬ (u:Int) > (u:Int):=by omega
            simp only [t5,t9,t10,t11,l1,l6,l3,R'.chk,R'.fa,R'.ld4,m1,m2,m3,d1,d2,d3,d4,hwi,Nat.zero_add,zeros,fillAt,List.prefix_refl,List.cons_append,List.nil_append,go_sem]
            exact ⟨hi1,hpx,cv,cp,q,r,rfl,hcv,by rw [hno hn];exact o⟩
          · simp only [t5,t9,t10,t11,l1,l6,l3,R'.chk,R'.fa,R'.ld4,m1,m2,m3,d1,d2,d3,hwi,Nat.zero_add,zeros,fillAt,List.prefix_refl,List.cons_append,List.nil_append,go_sem]
            exact ⟨hi1,hpx,cv,cp,q,r,rfl,hcv,by rw [hno hn];exact o⟩
      · by_cases d3:(x.t:Int)=(u:Int)
        · by_cases d4:(x.f:Int) > (u:Int)
          · obtain ⟨v2,h2',c3,p3',cp',q',r',e1,o2⟩:=pushed x.f (by unfold clP;rw [if_neg (by omega),if_pos ⟨by omega,by omega⟩])
            simp only [t5,t9,t10,t11,l1,l6,l3,R'.chk,R'.fa,R'.ld4,m1,m2,m3,d1,d3,d4,c3,hwi,Nat.zero_add,zeros,fillAt,List.prefix_refl,List.cons_append,List.nil_append,go_sem];exact ⟨hi1,p3',v2,cp',q',r',rfl,e1,o2⟩
          · have hn:clP u x=none:=by unfold clP;rw [if_neg (by omega),if_neg (by omega)]
            simp only [t5,t9,t10,t11,l1,l6,l3,R'.chk,R'.fa,R'.ld4,m1,m2,m3,d1,d3,d4,hwi,Nat.zero_add,zeros,fillAt,List.prefix_refl,List.cons_append,List.nil_append,go_sem]
            exact ⟨hi1,hpx,cv,cp,q,r,rfl,hcv,by rw [hno hn];exact o⟩
        · have hn:clP u x=none:=by unfold clP;rw [if_neg (by omega),if_neg (by omega)]
          simp only [t5,t9,t10,t11,l1,l6,l3,R'.chk,R'.fa,R'.ld4,m1,m2,m3,d1,d3,hwi,Nat.zero_add,zeros,fillAt,List.prefix_refl,List.cons_append,List.nil_append,go_sem]
          exact ⟨hi1,hpx,cv,cp,q,r,rfl,hcv,by rw [hno hn];exact o⟩
    · have hiM:i=M0.length:=by omega
      rw [hiM,cpTo_next] at o;simp only [t5,t9,t10,t11,l1,l6,l3,hw,go_sem];exact ⟨hu1,hpx,cv,cp,q,r,rfl,hcv,o⟩
  · have hun:u=s.n:=by omega
    rw [hun,CL0] at o;simp only [t5,t9,t10,l1,l6,l3,go_sem]
    rw [finish_deep (by rw [hcv];rfl)]
    have oy3:=((oy.up p3).un Nw0.un (Nat.le_refl _) (pre_len p3)).up hpx;have len3:=pre_len p2
    have GF:Gm hx h2.length s gv (gTo s s.N) mv0:=⟨((Gm0.out.un Nw0.un len3 (Nat.le_refl _)).up hpx).wide (Nat.le_refl _) (Nat.le_trans Nw0.un.len (pre_len hpx)),fun p hp=>(((Gm0.ins p hp).un Nw0.un len3 (Nat.le_refl _)).up hpx).wide (Nat.le_refl _) (Nat.le_trans Nw0.un.len (pre_len hpx))⟩
    refine ⟨by rw [hcv];rfl,cv,yv,gv,_,_,_,rfl,?_,⟨h1.length,h2.length,pre_len p1,pre_len p2,Nat.le_trans (pre_len p3) (Nat.le_trans Nw0.un.len (pre_len hpx)),oy3,GF.og,o.wide (Nat.le_trans (pre_len p3) Nw0.un.len) (Nat.le_refl _)⟩,CE⟩
    refine pre_of_get (Nat.le_trans (pre_len ((p1.trans p2).trans p3)) (Nat.le_trans Nw0.un.len (pre_len hpx))) fun c hc=>?_
    have hch:=RF.bl
    rw [get_of_pre hpx (by omega),Nw0.low c (by omega),get_of_pre ((p1.trans p2).trans p3) hc]
theorem k_spec_Solve (he : Rows h 5 v (edges es)) (gk : GOk (n : Int) es) (n9 : n ≤ 9) (hl : es.length ≤ 1000) :
    ∃ h' mv yv gv m ys gs,C T X n_spec_Solve [graphV n v] h=some (.tuple ⟨[mv,proofV yv gv,.bool true]⟩,h')∧h <+: h'∧Rows h' 2 mv (cps m)∧Rows h' 1 yv (ints ys)∧RowsG h' gv gs∧CertOk (n:Int) es m ys gs:=by
  obtain ⟨h',mv,yv,gv,m,ys,gs,c,p,⟨_,_,_,_,_,o1,o2,o3⟩,q⟩:=k_spec_Solve_own (X:=X) he gk n9 hl;exact ⟨h',mv,yv,gv,m,ys,gs,c,p,o3.rows,o1.rows,o2.rows,q⟩
end
end Go.Proofs.Ytafhipglhnfgnaa.Ab
set_option linter.unusedSimpArgs false
set_option linter.unusedVariables false
set_option linter.unnecessarySimpa false
set_option maxHeartbeats 4000000
namespace Go.Proofs.Ytafhipglhnfgnaa.Ab
open Go.RowKit
def byt (s:ByteArray) (i:Nat):Nat:=(s.data.toList.getD i 0).toNat
def segN (s:ByteArray) (a b:Nat):List Int:=((s.data.toList.drop a).take (b - a)).map fun x=>(x.toNat:Int)
theorem segN_nil {s:ByteArray} {a:Nat}:segN s a a=[]:=by simp [segN]
def varL (n:Nat):List Int:=if 127 < n then ((n%128+128:Nat):Int)::varL (n / 128) else [(n:Int)]
termination_by n
decreasing_by omega
def rvGo (s:ByteArray) (at0:Nat):Nat→Nat→Nat→Nat→Option (Nat × Nat)
  | 0,_,_,_=>none
  | f+1,i,n,u=>if i < s.size then
      (if byt s i < 128 then (if (byt s i=0∧at0 < i)∨1000000000 < n+byt s i%128*u then none else some (n+byt s i%128*u,i+1))
      else rvGo s at0 f (i+1) (n+byt s i%128*u) (u*128))
    else none
def rdVar (s:ByteArray) (a:Nat):Option (Nat × Nat):=rvGo s a 5 a 0 1
end Go.Proofs.Ytafhipglhnfgnaa.Ab
set_option linter.unusedSimpArgs false
set_option linter.unusedVariables false
set_option linter.unnecessarySimpa false
set_option maxHeartbeats 4000000
namespace Go.Proofs.Ytafhipglhnfgnaa.Ab
open Go.RowKit
def rvAt (s:ByteArray) (a:Int):Option (Nat × Nat):=if 0≤a∧a≤s.size then rdVar s a.toNat else none
section
variable {X:CallF} {h:Heap} {s:ByteArray} {a:Int}
end
end Go.Proofs.Ytafhipglhnfgnaa.Ab
set_option linter.unusedSimpArgs false
set_option linter.unusedVariables false
set_option linter.unnecessarySimpa false
set_option maxHeartbeats 4000000
namespace Go.Proofs.Ytafhipglhnfgnaa.Ab
open Go.RowKit
def pk (b k:Nat):Value:=.pointer (some ⟨b,k,some 3⟩)
def rdB (ty:TypeId) (s:ByteArray) (p:Nat × Bool):Blk:=⟨[.string s,.int .i64 (p.1:Nat),.bool p.2],3,ty,true⟩
def numStep (s:ByteArray) (p:Nat × Bool):Int × (Nat × Bool):=match p.2 with
  | true=>(0,(p.1,true))
  | false=>match rvAt s p.1 with
    | some (n,k)=>(n,(k,false))
    | none=>(0,(p.1,true))
section
variable {X:CallF} {h:Heap} {b:Nat} {ty:TypeId} {s:ByteArray} {p:Nat × Bool}
def sS (s:ByteArray) (p:Nat × Bool):Nat→Nat × Bool
  | 0=>p
  | i+1=>(numStep s (sS s p i)).2
def sV (s:ByteArray) (p:Nat × Bool) (i:Nat):Int:=(numStep s (sS s p i)).1
end
end Go.Proofs.Ytafhipglhnfgnaa.Ab
set_option linter.unusedSimpArgs false
set_option linter.unusedVariables false
set_option linter.unnecessarySimpa false
set_option maxHeartbeats 4000000
namespace Go.Proofs.Ytafhipglhnfgnaa.Ab
open Go.RowKit
theorem ints_set {l:List Int} {i:Nat} {n:Int}:(ints l).set i [.int .i64 n]=ints (l.set i n):=by simp [ints,List.map_set]
theorem Own.sti {h : Heap} {lo hi : Nat} {ty : TypeId} {v : Value} {l : List Int} (o : Own h lo hi 1 ty v (ints l)) {i : Nat} (hi' : i < l.length) (n : Int) :
    ∃ h',stC h (elemP v 1 i 0) [.int .i64 n]=some h'∧Same lo hi h h'∧Own h' lo hi 1 ty v (ints (l.set i n)):=by
  obtain ⟨h',h1,h2,h3⟩:=o.st (i:=i) (by rw [ints_len];exact hi') (k:=0) (vs:=[.int .i64 n]) (Nat.le_refl _)
  refine ⟨h',h1,h2,?_⟩
  have hil:i < (ints l).length:=by rw [ints_len];exact hi'
  have:putAt ((ints l)[i]'hil) 0 [.int .i64 n]=[.int .i64 n]:=by rw [ints_get];rfl
  rw [this,ints_set] at h3;exact h3
section
variable {X:CallF} {h:Heap} {ev ov:Value} {es:List E} {out:List Int} {size:Int}
end
end Go.Proofs.Ytafhipglhnfgnaa.Ab
