/- Joined: K101, K102, K103, K104, K105, K106. No conditions. -/
import Derived.Test.YtafhipglhnfgnaaM16
import Derived.Test.YtafhipglhnfgnaaM11
set_option linter.unusedSimpArgs false
set_option linter.unusedVariables false
set_option linter.unnecessarySimpa false
set_option maxHeartbeats 4000000
namespace Go.Proofs.Ytafhipglhnfgnaa.Ab
open Go.RowKit
structure Un (lo hi:Nat) (h3 hh:Heap) (g:Tags):Prop where
  same:∀ c,lo≤c→c < hi→hh[c]?=h3[c]?
  tag:∀ c,lo≤c→c < hi→g c=none
  len:hi≤hh.length
section
variable {g g':Tags} {h h' h3 hh:Heap} {b lo hi N sz:Nat} {T:Tg→Prop} {ty:TypeId} {v:Value} {rws:List (List Value)} {L Q:List Nat} {A:List Lk} {es:List E} {s s':Sv} {m:Nat→Option Nat}
theorem Un.tn (u:Un lo hi h3 hh g) (f:Tn b T g hh g' h') (hb:b < lo):Un lo hi h3 h' g':=by
  refine ⟨fun c h1 h2=>?_,fun c h1 h2=>?_,Nat.le_trans u.len f.len⟩
  · have:=u.len
    rw [f.blk c (by omega) (by omega) fun τ q=>by rw [u.tag c h1 h2] at q;cases q]
    exact u.same c h1 h2
  · cases q:g' c with
    | none=>rfl
    | some τ =>
      have:=f.new c τ (by have:=u.len;omega) q
      rw [u.tag c h1 h2] at this;cases this
theorem Own.un {lo' hi':Nat} (o:Own h3 lo' hi' sz ty v rws) (u:Un lo hi h3 hh g) (h1:lo≤lo') (h2:hi'≤hi):Own hh lo' hi' sz ty v rws:=by
  refine ⟨o.len,?_⟩;rcases o.is with q | ⟨c,l1,l2,l3,l4⟩
  · exact .inl q
  · exact .inr ⟨c,l1,l2,l3,by rw [u.same c (by omega) (by omega)];exact l4⟩
theorem Tp.un (P:Tp h3 lo N L A Q) (u:Un lo hi h3 hh g) (h2:lo+4≤hi):Tp hh lo N L A Q :=
  ⟨by rw [u.same _ (by omega) (by omega)];exact P.blk,P.l.un u (by omega) (by omega),P.a.un u (by omega) (by omega),P.q.un u (by omega) (by omega),P.ln⟩
theorem Tn.low (f:Tn b T g h g' h') (ok:TagOk b g h) (hb:b < h.length):∀ c,c+1 < b→h'[c]?=h[c]?:=fun c hc=>f.blk c (by omega) (by omega) fun τ q=>by have:=(ok c τ q).1;omega
theorem Sm.mate (hs:Sm s):Sm (mateS s m):=⟨hs.n,hs.N,hs.y,hs.z⟩
theorem Sm.opn {B a:Nat} (hs:Sm s):Sm (openS s B a):=⟨hs.n,hs.N,hs.y,hs.z⟩
theorem opens_snoc {s1:Sv} {B a:Nat} (h:OpenZ es s s1) (hB:IsRing s1 B) (ht:s1.up B=none) (hz:s1.z B=0) (ha:a < (s1.mem B).length) (hh:Hold es s1 B ((s1.mem B).getD a 0)):OpenZ es s (openS s1 B a):=by
  induction h with
  | refl s=>exact .step hB ht hz ha hh (.refl _)
  | step hB' ht' hz' ha' hh' _ ih=>exact .step hB' ht' hz' ha' hh' (ih hB ht hz ha hh)
end
def wsTo (xs ys:List Nat) (j:Nat):List Nat:=([xs,ys].take j).flatten
section
variable {X:CallF} {g:Tags} {h:Heap} {b k lo i:Nat} {es:List E} {s:Sv} {l:Lb} {rk:Nat→Nat} {M:List Lk} {dn:Bool} {V:RV} {size:Int} {L Q:List Nat} {A:List Lk} {xs ys:List Nat}
theorem woL_nil:M.filter (woL s [])=M:=List.filter_eq_self.2 fun _ _=>rfl
set_option maxRecDepth 100000 in
theorem k_l10Augment (hbs : BsOk s V.bs) (R : Rn g h b es s M k dn V) (K : Ok es s) (hs : Sm s) (m : MtOk es s M) (gk : GOk size es) (P : Tp h lo s.N L A Q) (D : Tl es s l L A Q) (G : Aug es s l rk i xs ys) (hi : i < es.length) (hx0 : top s (vA es i) = xs.getD 0 0) (hy0 : top s (vB es i) = ys.getD 0 0) (hlo : b < lo) (hg : ∀ c τ, g c = some τ → c < lo) :
    ∃ h' g' V' s' M',C T X n_spec_l10Augment [p7 b 0,p3 (lo+3) 0,edgeV (es.getD i e0)] h=some (.tuple ⟨[]⟩,h')∧Rn g' h' b es s' M' k dn V'∧OpenZ es (mateS s (augF s l i xs ys)) s'∧MtOk es s' M'∧(∀ c,c+1 < b→h'[c]?=h[c]?)∧h.length≤h'.length∧BsOk s' V'.bs∧Far V' h.length:=by
  suffices hx:∃ w h',C T X n_spec_l10Augment [p7 b 0,p3 (lo+3) 0,edgeV (es.getD i e0)] h=some (w,h')∧w=.tuple ⟨[]⟩∧∃ g' V' s' M',Rn g' h' b es s' M' k dn V'∧OpenZ es (mateS s (augF s l i xs ys)) s'∧MtOk es s' M'∧(∀ c,c+1 < b→h'[c]?=h[c]?)∧h.length≤h'.length∧BsOk s' V'.bs∧Far V' h.length by
    obtain ⟨w,h',c,rfl,g',V',s',M',q⟩:=hx;exact ⟨h',g',V',s',M',c,q⟩
  have hu:=K.upOk;have nN:=K.nN;have h9:=hs.N;obtain ⟨hE,hEB⟩:=K.ed i hi;obtain ⟨ga,gb,_⟩:=gok_int gk hi;obtain ⟨q,hq⟩:∃ q,q=es.getD i e0:=⟨_,rfl⟩;rw [← hq] at ga gb ⊢
  have lxs:=way_len G.F G.wx (by rw [G.x0];omega)
  have lys:=way_len G.F G.wy (by rw [G.y0];omega)
  obtain ⟨vx,h1,cx,p1,ox⟩:=k_l10Way (X:=X) R K hs P D G.F G.wx (by rw [G.x0];omega)
  obtain ⟨vy,h2,cy,p2,oy⟩:=k_l10Way (X:=X) (R.up p1) K hs (P.up p1) D G.F G.wy (by rw [G.y0];omega)
  have cta:=k_l10Top (X:=X) R hu (v:=vA es i) (by omega)
  have ctb:=k_l10Top (X:=X) (R.up p1) hu (v:=vB es i) (by omega)
  rw [hx0] at cta;rw [hy0] at ctb;obtain ⟨h3,hh3⟩:∃ h3:Heap,h3=h2++[⟨[vx,vy],1,y_ints,true⟩]:=⟨_,rfl⟩;have l1:=pre_len p1;have l2:=pre_len p2
  have l3:h3.length=h2.length+1:=by rw [hh3];simp
  have p3':h2 <+: h3:=by rw [hh3];exact List.prefix_append _ _
  have ph3:h <+: h3:=(p1.trans p2).trans p3';have hlo4:=lt_of_get P.blk;refine C_ex t_spec_l10Augment rfl ?_;unfold F_spec_l10Augment edgeV edgeR;simp only [ga,gb,cta,cx,ctb,cy,ox.cells,oy.cells,← hh3,zeros,fillAt,List.prefix_refl,List.cons_append,List.nil_append,go_sem];obtain ⟨wv,hwv⟩:∃ wv:Value,wv=.slice (some ⟨h2.length,0,none⟩) 2 2:=⟨_,rfl⟩;obtain ⟨cE,hcE⟩:∃ cE:List Value,cE=[.int .i64 (vA es i:Int),.int .i64 (vB es i:Int),.int .i64 q.w1,.int .i64 q.w2,.int .i64 q.w3]:=⟨_,rfl⟩;have R3:=R.up ph3
  have u0:Un lo h3.length h3 h3 g:=⟨fun _ _ _=>rfl,fun c h1 _=>by
    cases q:g c with
    | none=>rfl
    | some τ=>have:=hg c τ q;omega,Nat.le_refl _⟩
  have P3:=P.up ph3
  have ow:Own h3 h2.length (h2.length+1) 1 y_ints wv ([vx,vy].map fun v=>[v]):=by
    rw [hwv,hh3]
    exact ⟨fun r hr=>by obtain ⟨x,_,rfl⟩:=List.mem_map.1 hr;rfl,.inr ⟨h2.length,Nat.le_refl _,Nat.lt_succ_self _,rfl,by simp⟩⟩
  have orow:∀ j,j < 2→∃ a c,lo≤a∧c≤h3.length∧Own h3 a c 1 y_int ([vx,vy].getD j nilV) (ints (natI ([xs,ys].getD j []))):=fun j hj=>by
    rcases (show j=0∨j=1 by omega) with rfl | rfl
    · exact ⟨h.length,h1.length,by omega,by omega,(ox.up p2).up p3'⟩
    · exact ⟨h1.length,h2.length,by omega,by omega,oy.up p3'⟩
  have wlen:∀ j,j < 2→([xs,ys].getD j []).length≤400:=fun j hj=>by
    rcases (show j=0∨j=1 by omega) with rfl | rfl
    · exact Nat.le_trans lxs h9
    · exact Nat.le_trans lys h9
  have rd:∀ {hh:Heap} {gg:Tags},Un lo h3.length h3 hh gg→∀ j,j < 2→iaV hh 1 wv (.int .i64 (j:Nat))=some (elemP wv 1 j 0)∧ldC hh (elemP wv 1 j 0) 1=some [[vx,vy].getD j nilV]∧Rows hh 1 ([vx,vy].getD j nilV) (ints (natI ([xs,ys].getD j []))):=fun u j hj=>by
    have o2:=ow.un u (by omega) (by omega)
    have el:=o2.rows.el (f:=fun v:Value=>[v]) nilV (i:=j) (by simpa using hj)
    obtain ⟨a,c,a1,a2,a3⟩:=orow j hj;exact ⟨el.1,el.2.2,(a3.un u a1 a2).rows⟩
  have hMs:∀ {zs:List Nat},(∀ x∈M.filter (woL s zs),x.f < s.N∧x.t < s.N)∧(M.filter (woL s zs)).length≤400:=fun {zs}=>⟨fun x hx=>mt_in K.ok0 m x (List.mem_filter.1 hx).1,Nat.le_trans (List.length_filter_le _ _) m.le⟩
  refine w_for 2 (fun j t' loc hh=>t' 0=p7 b 0∧t' 1=p3 (lo+3) 0∧t' 6=wv∧loc 5=some cE∧t' 7=.int .i64 (j:Nat)∧∃ g' V',Un lo h3.length h3 hh g'∧Tn b (·=.m) g h3 g' hh∧V'.bs=V.bs∧Rn g' hh b es s (M.filter (woL s (wsTo xs ys j))) k dn V'∧(j=0∨Far V' h.length)) ⟨rfl,rfl,by rw [hwv];rfl,by rw [hcE];rfl,rfl,g,V,u0,Tn.refl R3.ok,rfl,by simpa [woL_nil,wsTo] using R3,.inl rfl⟩ ?_
  rintro j t' loc hh hj ⟨t0,t1,t6,l5,t7,g',V',u,f,eb,R',far⟩;simp only [t7,go_sem]
  refine w_open (by simp only [go_sem];rfl) ?_ ?_<;>intro hc
  · have hj2:j < 2:=by omega
    have hw:IntKind.i64.wrap ((j:Int)+1)=((j+1:Nat):Int):=w64 (by omega) (by omega)
    have hwj:=wlen j hj2
    have hpos:0 < ([xs,ys].getD j []).length:=by
      rcases (show j=0∨j=1 by omega) with rfl | rfl
      · exact way_pos G.wx
      · exact way_pos G.wy
    have hfl:wsTo xs ys (j+1)=wsTo xs ys j++[xs,ys].getD j []:=by
      rcases (show j=0∨j=1 by omega) with rfl | rfl<;>simp [wsTo]
    obtain ⟨zs,hzs⟩:∃ zs,zs=wsTo xs ys j:=⟨_,rfl⟩;obtain ⟨ws,hws⟩:∃ ws,ws=[xs,ys].getD j []:=⟨_,rfl⟩;rw [← hzs] at R' hfl;rw [← hws] at hwj hpos hfl;simp only [t0,t1,t6,t7,l5,go_sem]
    refine w_for ws.length (fun jj t' loc hh=>t' 0=p7 b 0∧t' 1=p3 (lo+3) 0∧t' 6=wv∧loc 5=some cE∧t' 7=.int .i64 (j:Nat)∧t' 8=.int .i64 (jj:Nat)∧∃ g' V',Un lo h3.length h3 hh g'∧Tn b (·=.m) g h3 g' hh∧V'.bs=V.bs∧Rn g' hh b es s (M.filter (woL s (zs++ws.take jj))) k dn V'∧(jj=0∨Far V' h.length)) ⟨rfl,rfl,rfl,by rw [← l5];rfl,rfl,rfl,g',V',u,f,eb,by simpa using R',.inl rfl⟩ ?_
    clear t0 t1 t6 l5 t7 u f eb R' far hc
    clear t' loc hh g' V'
    rintro jj t' loc hh hjj ⟨t0,t1,t6,l5,t7,t8,g',V',u,f,eb,R',far⟩;obtain ⟨a1,a2,a3⟩:=rd u j hj2;rw [← hws] at a3;have aln:=nat_ln a3;simp only [t6,t7,t8,a1,a2,aln,go_sem]
    refine w_open (by simp only [t6,t7,t8,a1,a2,aln,go_sem];rfl) ?_ ?_<;>intro hc
    · have hjj1:jj < ws.length:=by omega
      have hw':IntKind.i64.wrap ((jj:Int)+1)=((jj+1:Nat):Int):=w64 (by omega) (by omega)
      obtain ⟨b1,b2⟩:=nat_el a3 hjj1;obtain ⟨h4,g4,v4,c4,f4,R4,far4⟩:=k_l10Without (X:=X) (t:=ws.getD jj 0) R' hu hMs.1 hMs.2;simp only [t0,t1,t6,t7,t8,l5,a1,a2,b1,b2,c4,hw',go_sem];refine ⟨hjj1,g4,{ V' with mv:=v4 },u.tn f4 hlo,f.trans f4,eb,?_,?_⟩
      · rw [take_getD (d:=0) hjj1,← List.append_assoc,← woL_next]
        exact R4
      · obtain ⟨c,n,q1,q2⟩:=far4
        have:=u.len
        exact ⟨c,n,by omega,q2⟩
    · have hjj2:jj=ws.length:=by omega
      subst hjj2;rw [List.take_length] at R';simp only [t0,t1,t6,t7,t8,l5,hw,go_sem]
      refine ⟨hj2,g',V',u,f,eb,?_,far.resolve_left (by omega)⟩
      rw [hfl];exact R'
  have hj2:j=2:=by omega
  subst hj2
  have far2:Far V' h.length:=far.resolve_left (by omega)
  have hfl:wsTo xs ys 2=xs++ys:=by simp [wsTo]
  rw [hfl] at R'
  clear far hc hj
  obtain ⟨M2,hM2⟩:∃ M2,M2=M.filter (woL s (xs++ys)):=⟨_,rfl⟩;rw [← hM2] at R'
  have hM2l:M2.length≤400:=by rw [hM2];exact hMs.2
  obtain ⟨v4,h4,h5,g5,e1,e2,e3,f5,R5,far5⟩:=R'.pushM ⟨vA es i,vB es i⟩ (by unfold lim;omega)
  have e4:cellsOf v4=some [v4]:=R5.m.rows.cells;unfold lkR at e1;have u5:=u.tn f5 hlo;have F5:=f.trans f5;have far5':Far { V' with mv:=v4 } h.length:=far5 _ far2;simp only [t0,t1,t6,l5,hcE,R'.chk,R'.fa,R'.ld4,e1,rb_chk e2,rb_fa e2,e3,e4,Nat.zero_add,zeros,fillAt,List.prefix_refl,go_sem]
  clear t0 t1 t6 l5 t7 u f R' far2 e1 e2 e3 e4 far5 f5
  refine w_for 2 (fun j t' loc hh=>t' 0=p7 b 0∧t' 1=p3 (lo+3) 0∧t' 6=wv∧t' 9=.int .i64 (j:Nat)∧∃ g' V',Un lo h3.length h3 hh g'∧Tn b (·=.m) g h3 g' hh∧V'.bs=V.bs∧Rn g' hh b es s (M2++⟨vA es i,vB es i⟩::(oddL l (wsTo xs ys j)).map fun t=>A.getD t l0) k dn V'∧Far V' h.length) ⟨rfl,rfl,rfl,rfl,g5,_,u5,F5,eb,by simpa [oddL,wsTo] using R5,far5'⟩ ?_
  clear u5 F5 R5 far5' eb
  clear hh g' V'
  rintro j t' loc hh hj ⟨t0,t1,t6,t9,g',V',u,f,eb,R',far⟩;simp only [t9,go_sem]
  refine w_open (by simp only [go_sem];rfl) ?_ ?_<;>intro hc
  · have hj2:j < 2:=by omega
    have hw:IntKind.i64.wrap ((j:Int)+1)=((j+1:Nat):Int):=w64 (by omega) (by omega)
    have hwj:=wlen j hj2
    have hfl:wsTo xs ys (j+1)=wsTo xs ys j++[xs,ys].getD j []:=by
      rcases (show j=0∨j=1 by omega) with rfl | rfl<;>simp [wsTo]
    have hin:∀ t∈[xs,ys].getD j [],IsTop s t:=fun t ht=>by
      rcases (show j=0∨j=1 by omega) with rfl | rfl
      · exact G.F.top t (way_lb G.F G.wx (by rw [G.x0];omega) t ht).1
      · exact G.F.top t (way_lb G.F G.wy (by rw [G.y0];omega) t ht).1
    have hzl:(wsTo xs ys j).length≤400:=by
      rcases (show j=0∨j=1 by omega) with rfl | rfl
      · simp [wsTo]
      · simp [wsTo];omega
    obtain ⟨zs,hzs⟩:∃ zs,zs=wsTo xs ys j:=⟨_,rfl⟩;obtain ⟨ws,hws⟩:∃ ws,ws=[xs,ys].getD j []:=⟨_,rfl⟩;rw [← hzs] at R' hfl hzl;rw [← hws] at hwj hfl hin;simp only [t0,t1,t6,t9,go_sem]
    refine w_for ws.length (fun jj t' loc hh=>t' 0=p7 b 0∧t' 1=p3 (lo+3) 0∧t' 6=wv∧t' 9=.int .i64 (j:Nat)∧t' 10=.int .i64 (jj:Nat)∧∃ g' V',Un lo h3.length h3 hh g'∧Tn b (·=.m) g h3 g' hh∧V'.bs=V.bs∧Rn g' hh b es s (M2++⟨vA es i,vB es i⟩::(oddL l (zs++ws.take jj)).map fun t=>A.getD t l0) k dn V'∧Far V' h.length) ⟨rfl,rfl,rfl,rfl,rfl,g',V',u,f,eb,by simpa using R',far⟩ ?_
    clear t0 t1 t6 t9 u f eb R' far hc
    clear t' loc hh g' V'
    rintro jj t' loc hh hjj ⟨t0,t1,t6,t9,t10,g',V',u,f,eb,R',far⟩;obtain ⟨a1,a2,a3⟩:=rd u j hj2;rw [← hws] at a3;have aln:=nat_ln a3;simp only [t6,t9,t10,a1,a2,aln,go_sem]
    refine w_open (by simp only [t6,t9,t10,a1,a2,aln,go_sem];rfl) ?_ ?_<;>intro hc
    · have hjj1:jj < ws.length:=by omega
      have hw':IntKind.i64.wrap ((jj:Int)+1)=((jj+1:Nat):Int):=w64 (by omega) (by omega)
      obtain ⟨b1,b2⟩:=nat_el a3 hjj1;have hTt:=hin (ws.getD jj 0) (getD_mem (d:=0) hjj1);have htk:ws.take (jj+1)=ws.take jj++[ws.getD jj 0]:=take_getD (d:=0) hjj1;obtain ⟨t,ht⟩:∃ t,t=ws.getD jj 0:=⟨_,rfl⟩;rw [← ht] at b2 hTt htk
      have P':=P3.un u (by omega)
      obtain ⟨d1,d2⟩:=P'.lel hTt.1;rw [D.lab t hTt.1] at d2
      by_cases c2:l.lab t=2
      · have n2:((2:Nat):Int)=2:=rfl
        rw [c2,n2] at d2;obtain ⟨q1,q2,q3⟩:=P'.ael hTt.1
        have hlen:(M2++⟨vA es i,vB es i⟩::(oddL l (zs++ws.take jj)).map fun t=>A.getD t l0).length < lim:=by
          have:=List.length_filter_le (fun t=>decide (l.lab t=2)) (zs++ws.take jj)
          have h8:(zs++ws.take jj).length≤800:=by rw [List.length_append,List.length_take];omega
          rw [List.length_append,List.length_cons,List.length_map];unfold oddL lim;omega
        obtain ⟨v4,h4,h5,g5,e1,e2,e3,f5,R5,far5⟩:=R'.pushM (A.getD t l0) hlen;have e4:cellsOf v4=some [v4]:=R5.m.rows.cells;unfold lkR at e1 q3;simp only [t0,t1,t6,t9,t10,a1,a2,b1,b2,P'.chk,P'.fa,P'.ld0,P'.ld1,d1,d2,q1,q3,R'.chk,R'.fa,R'.ld4,e1,rb_chk e2,rb_fa e2,e3,e4,hw',Nat.zero_add,zeros,fillAt,List.prefix_refl,go_sem];refine ⟨hjj1,g5,{ V' with mv:=v4 },u.tn f5 hlo,f.trans f5,eb,?_,far5 _ far⟩
        have:oddL l (zs++ws.take (jj+1))=oddL l (zs++ws.take jj)++[t]:=by
          unfold oddL;rw [htk,← List.append_assoc,List.filter_append (zs++ws.take jj)];simp [c2]
        rw [this,List.map_append,List.map_singleton];rw [List.append_assoc,List.cons_append] at R5;exact R5
      · have n2:¬ ((l.lab t:Nat):Int)=2:=by omega
        simp only [t0,t1,t6,t9,t10,a1,a2,b1,b2,P'.chk,P'.fa,P'.ld0,d1,d2,n2,hw',Nat.zero_add,zeros,fillAt,List.prefix_refl,go_sem];refine ⟨hjj1,g',V',u,f,eb,?_,far⟩
        have:oddL l (zs++ws.take (jj+1))=oddL l (zs++ws.take jj):=by
          unfold oddL;rw [htk,← List.append_assoc,List.filter_append (zs++ws.take jj)];simp [c2]
        rw [this];exact R'
    · have hjj2:jj=ws.length:=by omega
      subst hjj2;rw [List.take_length] at R';simp only [t0,t1,t6,t9,t10,hw,go_sem];refine ⟨hj2,g',V',u,f,eb,?_,far⟩;rw [hfl];exact R'
  have hj2:j=2:=by omega
  subst hj2
  have hfl:wsTo xs ys 2=xs++ys:=by simp [wsTo]
  rw [hfl] at R'
  have hod:oddL l (xs++ys)=oddL l xs++oddL l ys:=by unfold oddL;rw [List.filter_append]
  rw [hod,hM2] at R';have mA:=mt_aug G K D m gk hs.n (x:=⟨vA es i,vB es i⟩) ⟨hi,.inl ⟨rfl,rfl⟩⟩ ⟨hx0,hy0⟩;have KA:=aug_ok G K;have sA:Sm (mateS s (augF s l i xs ys)):=hs.mate
  have RA:Rn g' hh b es (mateS s (augF s l i xs ys)) _ k dn V':=R'.congr (s':=mateS s (augF s l i xs ys)) rfl rfl (fun _ _=>rfl) fun _ _=>⟨rfl,rfl,rfl,rfl,rfl,rfl⟩
  have bA:BsOk (mateS s (augF s l i xs ys)) V'.bs:=fun t j ht hm hw hv=>by
    rw [eb];exact hbs t j ht (aug_free G K hm).1 (wi_mate.1 hw) (wi_mate.1 hv)
  have low:∀ c,c+1 < b→hh[c]?=h[c]?:=fun c hc=>by
    rw [f.low R3.ok R3.bl c hc]
    exact get_of_pre ph3 (by have:=R.bl;omega)
  have hlen:h.length≤hh.length:=by have:=f.len;omega
  clear hj hc
  have first:∀ {hh:Heap} {g1:Tags} {s1:Sv} {M1:List Lk} {V1:RV},Rn g1 hh b es s1 M1 k dn V1→Sm s1→s1.n≤s1.N→∃ r:Int,C T X n_spec_l10First [p7 b 0,.slice (some ⟨hh.length,0,none⟩) 0 0] (hh++[⟨[],1,y_int,true⟩])=some (.int .i64 r,hh++[⟨[],1,y_int,true⟩])∧(r=-1∨∃ B:Nat,r=B∧IsRing s1 B∧s1.up B=none∧s1.z B=0):=fun R1 hs1 nN1=>by
    obtain ⟨r,c,q⟩:=k_l10First (X:=X) (L:=[]) (R1.up (List.prefix_append _ _)) hs1 nN1 (Acc.new (sz:=1) (ty:=y_int)).own.rows (.inl rfl);refine ⟨r,c,?_⟩;rcases q with q | ⟨B,q1,q2,q3,q4,q5,_⟩
    · exact .inl q.1
    · exact .inr ⟨B,q1,⟨q2,q3,q4.2.2⟩,q4.2.1,q5⟩
  obtain ⟨r,cf,hr⟩:=first RA sA nN;simp only [t0,t1,t6,t9,cf,zeros,fillAt,List.prefix_append,go_sem]
  refine w_meas (ringsL (mateS s (augF s l i xs ys))).length (fun mm t' loc hh=>t' 0=p7 b 0∧∃ (s1:Sv) (M1:List Lk) (g1:Tags) (V1:RV) (r:Int),t' 11=.int .i64 r∧OpenZ es (mateS s (augF s l i xs ys)) s1∧Ok es s1∧Sm s1∧MtOk es s1 M1∧Rn g1 hh b es s1 M1 k dn V1∧BsOk s1 V1.bs∧Far V1 h.length∧(∀ c,c+1 < b→hh[c]?=h[c]?)∧h.length≤hh.length∧mm=(ringsL s1).length∧(r=-1∨∃ B:Nat,r=B∧IsRing s1 B∧s1.up B=none∧s1.z B=0))
    ⟨rfl,_,_,_,_,r,rfl,.refl _,KA,sA,mA,RA.up (List.prefix_append _ _),bA,far,fun c hc=>by rw [List.getElem?_append_left (by have:=RA.bl;omega)];exact low c hc,by simp;omega,rfl,hr⟩ ?_
  clear t0 t1 t6 t9 u f eb bA R' far RA low hlen hr cf mA
  rintro mm t' loc hh ⟨t0,s1,M1,g1,V1,r,t11,O,K1,hs1,m1,R1,bs1,far1,low1,len1,hmm,hr⟩;rcases hr with rfl | ⟨B,rfl,hB,hb,hz⟩
  · have hn:¬ ((-1:Int)≥0):=by omega
    simp only [t0,t11,hn,go_sem];rw [fin_keep R.bl (R.diff R1 far1)];exact ⟨rfl,g1,V1,s1,M1,R1,O,m1,low1,len1,bs1,far1⟩
  · have hp:((B:Int)≥0):=by omega
    obtain ⟨a,h4,g4,V4,M4,c4,f4,R4,m4,a4,hh4,bs4,far4⟩:=open_step (X:=X) bs1 R1 K1.ok0 m1 gk hs1.n hs1.N hB hb;have K4:=open_ok K1 hB hb hz a4 hh4
    obtain ⟨r',cf,hr'⟩:=first R4 hs1.opn (show s1.n≤s1.N from K1.nN)
    have cnt:=(open_count K1 hB hb a4).2.2;simp only [t0,t11,hp,c4,cf,zeros,fillAt,List.prefix_append,go_sem]
    refine ⟨(ringsL (openS s1 B a)).length,by omega,openS s1 B a,M4,g4,V4,r',rfl,opens_snoc O hB hb hz a4 hh4,K4,hs1.opn,m4,R4.up (List.prefix_append _ _),bs4.2,far4 _ far1,fun c hc=>?_,?_,rfl,hr'⟩
    · rw [List.getElem?_append_left (by have:=R4.bl;omega),f4.low R1.ok R1.bl c hc]
      exact low1 c hc
    · have:=f4.len
      simp;omega
end
end Go.Proofs.Ytafhipglhnfgnaa.Ab
set_option linter.unusedSimpArgs false
set_option linter.unusedVariables false
set_option linter.unnecessarySimpa false
set_option maxHeartbeats 4000000
namespace Go.Proofs.Ytafhipglhnfgnaa.Ab
open Go.RowKit
section
variable {es:List E} {s:Sv} {l:Lb} {rk:Nat→Nat} {e f j t u i k v:Nat} {xs ys ms ls:List Nat} {M:List Lk} {L Q:List Nat} {A:List Lk} {size:Int} {x y:Lk}
theorem meet_mk (F : Fo es s l rk) (K : Ok es s) (at_ : MeetAt es s l e) (wx : IsWay l xs) (wy : IsWay l ys) (hx0 : xs.getD 0 0 = top s (vA es e)) (hy0 : ys.getD 0 0 = top s (vB es e)) (hr : xs.getD (xs.length - 1) 0 = ys.getD (ys.length - 1) 0) :
    ∃ i k,Meet es s l rk e xs ys i k∧∀ q,q < k→ys.getD q 0≠xs.getD i 0:=by
  obtain ⟨a1,a2,a3,a4,a5⟩:=at_;have hxp:0 < xs.length:=way_pos wx;have hyp:0 < ys.length:=way_pos wy
  have ex:∃ i,i < xs.length∧xs.getD i 0∈ys:=⟨xs.length - 1,by omega,by rw [hr];exact getD_mem0 (by omega)⟩
  have fst:∀ n,(∃ i,i < n∧i < xs.length∧xs.getD i 0∈ys)→∃ i,i < xs.length∧xs.getD i 0∈ys∧∀ j,j < i→¬ xs.getD j 0∈ys:=fun n=>by
    induction n with
    | zero=>rintro ⟨i,h,_⟩;omega
    | succ n ih =>
      rintro ⟨i,h1,h2,h3⟩
      by_cases c:∃ i,i < n∧i < xs.length∧xs.getD i 0∈ys
      · exact ih c
      · have:i=n:=by
          rcases Nat.lt_or_ge i n with q | q
          · exact absurd ⟨i,q,h2,h3⟩ c
          · omega
        subst this
        exact ⟨i,h2,h3,fun j hj hm=>c ⟨j,hj,by omega,hm⟩⟩
  obtain ⟨i0,i1,i2⟩:=ex;obtain ⟨i,b1,b2,b3⟩:=fst (i0+1) ⟨i0,Nat.lt_succ_self _,i1,i2⟩;have hk:=List.idxOf_lt_length_iff.2 b2
  have hg:ys.getD (ys.idxOf (xs.getD i 0)) 0=xs.getD i 0:=by
    rw [List.getD_eq_getElem?_getD (l:=ys),List.getElem?_eq_getElem hk,Option.getD_some,List.getElem_idxOf hk]
  refine ⟨i,ys.idxOf (xs.getD i 0),⟨F,wx,wy,by rw [hx0];exact a4,by rw [hy0];exact a5,by rw [hx0,hy0];exact a3,a2,by rw [hx0,hy0];exact cn_tops K a1,b1,hk,hg.symm,b3⟩,fun q hq he=>?_⟩
  have:=way_inj F wy (by rw [hy0];exact a5) (by omega) hk (he.trans hg.symm)
  omega
theorem top_newv (K:Ok es s) (R:RingOk es s ms ls j) (hv:v < s.N) (hg:s.gone v=false):top (addR s ms ls j) v=if top s v∈ms then s.N else top s v:=by
  have K':=add_ok K R;have h1:=top_new K R (K.topTop hv hg);rw [← h1];exact top_eq K'.upOk ((wi_add K R hv).2 (.inl (top_in K.upOk)))
def outP (s:Sv) (ms:List Nat) (x:Lk):Bool:=decide (¬ (top s x.f∈ms∧top s x.t∈ms))
theorem mt_add (K:Ok es s) (R:RingOk es s ms ls j) (m:MtOk es s M) (gk:GOk size es):MtOk es (addR s ms ls j) (M.filter (outP s ms)):=by
  obtain ⟨n1,n2⟩:=mate_add R;have K':=add_ok K R
  have tv:∀ {v},v < s.n→top (addR s ms ls j) v=if top s v∈ms then s.N else top s v:=fun h=>top_newv K R (Nat.lt_of_lt_of_le h K.nN) (K.ngone h)
  have one:∀ {a c f},IsTop s a→IsTop s c→a≠c→s.mate a=some f→s.mate c=some f→a∈ms→¬ c∈ms→a=j:=fun {a c f} ha hc hne h1 h2 h3 h4=>by
    by_cases q:a=j
    · exact q
    · exact absurd (R.mates a f c h3 q h1 hc h2) h4
  refine ⟨fun x hx=>?_,fun t e ht he=>?_,m.nd.filter _,Nat.le_trans (List.length_filter_le _ _) m.le⟩
  · obtain ⟨hx1,hx2⟩:=List.mem_filter.1 hx
    obtain ⟨e,q1,q2,q3,q4,q5,q6⟩:=m.of x hx1;have hx2':¬ (top s x.f∈ms∧top s x.t∈ms):=of_decide_eq_true hx2;obtain ⟨f1,t1⟩:=ends_lt K q1;rw [tv f1,tv t1]
    by_cases c1:top s x.f∈ms
    · have c2:¬ top s x.t∈ms:=fun q=>hx2' ⟨c1,q⟩
      rw [if_pos c1,if_neg c2];have hj:=one q5 q6 q4 q2 q3 c1 c2
      have hne:top s x.t≠s.N:=by have:=q6.1;omega
      exact ⟨e,q1,by rw [n1,← hj];exact q2,by rw [n2 _ hne c2];exact q3,fun q=>hne q.symm,(top_add K R).2 (.inl rfl),(top_add K R).2 (.inr ⟨q6,c2⟩)⟩
    · have hne1:top s x.f≠s.N:=by have:=q5.1;omega
      by_cases c2:top s x.t∈ms
      · rw [if_neg c1,if_pos c2]
        have hj:=one q6 q5 (Ne.symm q4) q3 q2 c2 c1
        exact ⟨e,q1,by rw [n2 _ hne1 c1];exact q2,by rw [n1,← hj];exact q3,hne1,(top_add K R).2 (.inr ⟨q5,c1⟩),(top_add K R).2 (.inl rfl)⟩
      · have hne:top s x.t≠s.N:=by have:=q6.1;omega
        rw [if_neg c1,if_neg c2]
        exact ⟨e,q1,by rw [n2 _ hne1 c1];exact q2,by rw [n2 _ hne c2];exact q3,q4,(top_add K R).2 (.inr ⟨q5,c1⟩),(top_add K R).2 (.inr ⟨q6,c2⟩)⟩
  · rcases (top_add K R).1 ht with q | ⟨q,hq⟩
    · subst q
      rw [n1] at he;have hjT:=R.top j R.jm;obtain ⟨x,hx,h1⟩:=m.all j e hjT he;obtain ⟨e',q1,q2,q3,q4,q5,q6⟩:=m.of x hx;have:=isE_uniq gk h1 q1;subst this;refine ⟨x,List.mem_filter.2 ⟨hx,?_⟩,h1⟩;unfold outP;rw [decide_eq_true_eq];rintro ⟨w1,w2⟩
      by_cases c:top s x.f=j
      · exact R.out e _ he q6 (fun q=>q4 (c.trans q.symm)) q3 w2
      · exact R.out e _ he q5 c q2 w1
    · have hne:t≠s.N:=by have:=q.1;omega
      rw [n2 _ hne hq] at he;obtain ⟨x,hx,h1⟩:=m.all t e q he;obtain ⟨e',q1,q2,q3,q4,q5,q6⟩:=m.of x hx;have:=isE_uniq gk h1 q1;subst this;refine ⟨x,List.mem_filter.2 ⟨hx,?_⟩,h1⟩;unfold outP;rw [decide_eq_true_eq];rintro ⟨w1,w2⟩;rcases K.mate2 q5 q6 q q2 q3 he (Ne.symm q4) with c | c
      · rw [← c] at w1;exact hq w1
      · rw [← c] at w2;exact hq w2
theorem BsOk.add {bs:Nat→Nat} (hbs:BsOk s bs) (K:Ok es s) (R:RingOk es s ms ls j) (m:MtOk es s M):BsOk (addR s ms ls j) (fun t=>if t=s.N then baseR s bs M j else bs t):=by
  obtain ⟨n1,n2⟩:=mate_add R;have K':=add_ok K R;have hu:=K.upOk;have hu':=K'.upOk;have hjT:=R.top j R.jm;intro t i ht hm hw hv
  have b0:∀ q,q < s.N→(addR s ms ls j).base q=s.base q:=fun q hq=>by
    show (if q=s.N then s.base j else s.base q)=_
    rw [if_neg (by omega)]
  have bN:(addR s ms ls j).base s.N=s.base j:=by
    show (if s.N=s.N then s.base j else s.base s.N)=_;rw [if_pos rfl]
  show (if i=s.N then baseR s bs M j else bs i)=_;have hbjT:=K.base j hjT.1 hjT.2.2;rcases (top_add K R).1 ht with q | ⟨q,hq⟩
  · subst q
    rw [n1] at hm;rw [bN] at hv;have hbj:bs j=s.base j:=hbs j j hjT hm (.refl _) hbjT.2
    by_cases c:i=s.N
    · rw [if_pos c,c,bN,← hbj]
      unfold baseR
      cases hmL:mateL s j M with
      | none=>rfl
      | some x =>
        obtain ⟨_,e,_,h2,_⟩:=mateL_some K m hmL;rw [hm] at h2;cases h2
    · have hi:i < s.N:=by have:=hw.le hu';omega
      rw [if_neg c,b0 i hi];obtain ⟨p,hp,hip⟩:=(wi_addR K R hi).1 hw
      have hvi:=(wi_add_old K R (by have:=K.nN;omega) hi).1 hv
      have e1:=top_of hu (hvi.trans hip) (R.top p hp).2.1;have e2:=top_of hu hbjT.2 hjT.2.1;have hpj:p=j:=e1.symm.trans e2;rw [hpj] at hip;exact hbs j i hjT hm hip hvi
  · have hne:t≠s.N:=by have:=q.1;omega
    rw [n2 _ hne hq] at hm
    have hi:i < s.N:=by have:=hw.le hu';have:=q.1;omega
    rw [b0 t q.1] at hv
    rw [if_neg (by omega),b0 i hi]
    have hbt:=K.base t q.1 q.2.2
    exact hbs t i q hm ((wi_add_old K R hi q.1).1 hw) ((wi_add_old K R (by have:=K.nN;omega) hi).1 hv)
def Ls (es:List E) (a:List Nat) (X:List Lk):Prop:=X.length=a.length∧∀ j,j < X.length→IsE es (a.getD j 0) (X.getD j l0)
theorem Ls.app {a c:List Nat} {X Y:List Lk} (h:Ls es a X) (h2:Ls es c Y):Ls es (a++c) (X++Y):=by
  refine ⟨by rw [List.length_append,List.length_append,h.1,h2.1],fun j hj=>?_⟩
  rw [List.length_append] at hj
  by_cases q:j < X.length
  · have e1:(a++c).getD j 0=a.getD j 0:=getD_appL (by rw [← h.1];exact q)
    have e2:(X++Y).getD j l0=X.getD j l0:=by rw [List.getD_eq_getElem?_getD,List.getElem?_append_left q,← List.getD_eq_getElem?_getD]
    rw [e1,e2];exact h.2 j q
  · have e1:(a++c).getD j 0=c.getD (j - a.length) 0:=getD_appR (by rw [← h.1];omega)
    have e2:(X++Y).getD j l0=Y.getD (j - X.length) l0:=by rw [List.getD_eq_getElem?_getD,List.getElem?_append_right (by omega),← List.getD_eq_getElem?_getD]
    rw [e1,e2,h.1]
    exact h2.2 _ (by rw [← h.1];omega)
theorem Ls.cons {a:List Nat} {X:List Lk} (h1:IsE es e x) (h:Ls es a X):Ls es (e::a) (x::X):=by
  refine ⟨by rw [List.length_cons,List.length_cons,h.1],fun j hj=>?_⟩
  cases j with
  | zero=>exact h1
  | succ j =>
    rw [List.getD_cons_succ,List.getD_cons_succ]
    exact h.2 j (by simpa using hj)
theorem Ls.map {f:Nat→Nat} {g:Nat→Lk}:∀ {zs:List Nat},(∀ t∈zs,IsE es (f t) (g t))→Ls es (zs.map f) (zs.map g)
  | [],_=>⟨rfl,fun j hj=>by simp at hj⟩
  | t::zs,h=>.cons (h t List.mem_cons_self) (Ls.map fun u hu=>h u (List.mem_cons_of_mem _ hu))
def newL (es:List E) (e:Nat) (A:List Lk) (xs ys:List Nat) (i k:Nat):List Lk:=(xs.take i).reverse.map (fun t=>A.getD t l0)++⟨vA es e,vB es e⟩::(ys.take k).map fun t=>(A.getD t l0).rev
theorem Meet.newLs (M:Meet es s l rk e xs ys i k) (D:Tl es s l L A Q) (he:e < es.length):Ls es (ringL l e xs ys i k) (newL es e A xs ys i k):=by
  have way:∀ {zs:List Nat} {n},IsWay l zs→l.lab (zs.getD 0 0)=1→n < zs.length→∀ t∈zs.take n,IsE es ((l.byE t).getD 0) (A.getD t l0):=fun {zs n} wz z0 hn t ht=>by
    obtain ⟨j,hj,rfl⟩:=mem_getD (d:=0) ht;rw [List.length_take] at hj
    rw [getD_take (by omega)]
    have hn':=way_next (j:=j) wz (by omega)
    have hl:=way_lab M.F wz z0 j (by omega)
    obtain ⟨e',e1,e2,_⟩:=D.ah _ _ (M.F.top (zs.getD j 0) (by omega)).1 hn'
    rw [e1];exact e2
  unfold ringL newL
  refine (Ls.map fun t ht=>?_).app (.cons ⟨he,.inl ⟨rfl,rfl⟩⟩ (Ls.map fun t ht=>?_))
  · exact way M.wx M.x0 M.hi t (List.mem_reverse.1 ht)
  · exact (way M.wy M.y0 M.hk t ht).rev
end
end Go.Proofs.Ytafhipglhnfgnaa.Ab
set_option linter.unusedSimpArgs false
set_option linter.unusedVariables false
set_option linter.unnecessarySimpa false
set_option maxHeartbeats 4000000
namespace Go.Proofs.Ytafhipglhnfgnaa.Ab
open Go.RowKit
section
variable {X:CallF} {h:Heap} {a:Value} {l:List Int} {n:Int} {k:Nat}
theorem k_spec_l08Place (ha:Rows h 1 a (ints l)) (hl:l.length≤lim) (hk:k < l.length) (hg:l.getD k 0=n) (hf:∀ q,q < k→l.getD q 0≠n):C T X n_spec_l08Place [a,.int .i64 n] h=some (.int .i64 (k:Nat),h):=by
  unfold lim at hl;refine C_go t_spec_l08Place rfl ?_;unfold F_spec_l08Place;simp only [go_sem]
  refine w_for k (fun i t loc h'=>h'=h∧t 0=a∧t 1=.int .i64 n∧t 5=.int .i64 i) ⟨rfl,rfl,rfl,rfl⟩ ?_
  rintro i t loc h' hi ⟨rfl,t0,t1,t5⟩;simp only [t0,t5,ints_ln ha,go_sem]
  refine w_open (by simp only [go_sem];rfl) ?_ ?_<;>intro hc
  · have hi1:i < l.length:=by omega
    have hw:IntKind.i64.wrap ((i:Int)+1)=((i+1:Nat):Int):=w64 (by omega) (by omega)
    have hel:=int_el ha hi1
    by_cases e:i=k
    · subst e
      simp only [t0,t1,t5,hel.1,hel.2,hg,go_sem]
    · have hne:=hf i (by omega)
      simp only [t0,t1,t5,hel.1,hel.2,hne,hw,go_sem];omega
  · exfalso
    omega
end
theorem natI_mem {t:Nat} {l:List Nat}:((t:Int)∈natI l)↔t∈l:=by
  unfold natI;rw [List.mem_map];constructor
  · rintro ⟨u,hu,e⟩
    have:u=t:=by omega
    rwa [← this]
  · exact fun h=>⟨t,h,rfl⟩
theorem natI_add {l:List Nat} {t:Nat}:ints (natI (l++[t]))=ints (natI l)++[[.int .i64 (t:Nat)]]:=by simp [ints,natI]
def addN (s:Sv) (ms ls:List Nat) (c:Nat):Sv where
  n:=s.n
  N:=s.N+1
  y:=s.y
  up:=fun v=>if v∈ms.take c then some s.N else if v=s.N then none else s.up v
  mem:=fun p=>if p=s.N then ms else s.mem p
  lnk:=fun p=>if p=s.N then ls else s.lnk p
  mate:=s.mate
  base:=s.base
  z:=fun p=>if p=s.N then 0 else s.z p
  gone:=fun p=>if p=s.N then false else s.gone p
def RV.more (V:RV) (N:Nat) (nv rv lv:Value) (u:Nat):RV:=⟨V.ev,V.yv,nv,V.mv,fun i=>if i=N then rv else V.rv i,fun i=>if i=N then lv else V.lv i,fun i=>if i=N then u else V.bs i⟩
section
variable {g g':Tags} {h h':Heap} {b k u:Nat} {T:Tg→Prop} {es:List E} {s:Sv} {M L:List Lk} {dn:Bool} {V:RV} {rv lv:Value} {ms ls:List Nat}
theorem Rn.tnF (R:Rn g h b es s M k dn V) (f:Tn b T g h g' h') (hb:h'[b]?=h[b]?) (hT:∀ τ,T τ→τ=.rg s.N∨τ=.lk s.N):Rn g' h' b es s M k dn V:=by
  have n1:∀ {τ},τ≠Tg.rg s.N→τ≠.lk s.N→¬ T τ:=fun h1 h2 q=>(hT _ q).elim h1 h2
  refine ⟨f.ok,by rw [hb];exact R.blk,by rw [f.take R.ok R.bl];exact R.e,R.y.tn R.ok f (n1 (by simp) (by simp)),R.nd.tn R.ok f (n1 (by simp) (by simp)),R.m.tn R.ok f (n1 (by simp) (by simp)),fun i hi=>(R.rg i hi).tn R.ok f (n1 (by simp;omega) (by simp)),fun i hi=>?_⟩
  obtain ⟨L,h1,h2⟩:=R.lk i hi
  exact ⟨L,h1.tn R.ok f (n1 (by simp) (by simp;omega)),h2⟩
theorem Rn.pushN (R : Rn g h b es s M k dn V) (hN : s.N < lim) (hr : Has g h (.rg s.N) 1 y_int rv (ints (natI ms))) (hl : Has g h (.lk s.N) 2 y_l10Link lv (L.map lkR)) (hL : Ls es ls L) :
    ∃ nv' h1 h2 g',appLW h 6 y_l10Node 1 V.nv (some (ndR ⟨rv,lv,(u:Nat),0,-1,false⟩))=some (nv',h1)∧h1[b]?=some (runB s V k dn)∧stC h1 (p7 b 3) [nv']=some h2∧cellsOf nv'=some [nv']∧Tn b (·=.n) g h g' h2∧Rn g' h2 b es (addN s ms ls 0) M k dn (V.more s.N nv' rv lv u):=by
  obtain ⟨nv',h1,g',e1,e2,e3,e4,_⟩:=R.nd.push R.ok R.bl (cs:=ndR ⟨rv,lv,(u:Nat),0,-1,false⟩) rfl (by rw [List.length_map,nds_len];exact hN)
  have hb':h1[b]?=some (runB s V k dn):=by rw [e3];exact R.blk
  have f2:Tn b (fun _=>False) g' h1 g' (h1.set b (runB (addN s ms ls 0) (V.more s.N nv' rv lv u) k dn)):=Tn.set e2.ok
  have hbl:=lt_of_get hb'
  have f3:Tn b (·=.n) g h g' (h1.set b (runB (addN s ms ls 0) (V.more s.N nv' rv lv u) k dn)):=e2.trans (f2.mono fun _ q=>q.elim)
  have hn:(ndsOf (addN s ms ls 0) (V.more s.N nv' rv lv u)).map ndR=(ndsOf s V).map ndR++[ndR ⟨rv,lv,(u:Nat),0,-1,false⟩]:=by
    have e0:ndsOf (addN s ms ls 0) (V.more s.N nv' rv lv u)=ndsOf s V++[⟨rv,lv,(u:Nat),0,-1,false⟩]:=by
      unfold ndsOf;show (List.range (s.N+1)).map _=_;rw [List.range_succ,List.map_append,List.map_singleton]
      congr 1
      · refine List.map_congr_left fun v hv=>?_
        have:v≠s.N:=by have:=List.mem_range.1 hv;omega
        simp [mkNd,addN,RV.more,this]
      · simp [mkNd,addN,RV.more,upI]
    rw [e0,List.map_append,List.map_singleton]
  have rgN:∀ i,i < s.N+1→Has g' (h1.set b (runB (addN s ms ls 0) (V.more s.N nv' rv lv u) k dn)) (.rg i) 1 y_int (if i=s.N then rv else V.rv i) (ints (natI (if i=s.N then ms else s.mem i))):=fun i hi=>by
    by_cases c:i=s.N
    · rw [if_pos c,if_pos c,c];exact hr.tn R.ok f3 (by simp)
    · rw [if_neg c,if_neg c];exact (R.rg i (by omega)).tn R.ok f3 (by simp)
  refine ⟨nv',h1,_,g',e1,hb',by simp [stC,p7,hb',runB,putAt,addN,RV.more],e4.rows.cells,f3,⟨f3.ok,List.getElem?_set_self hbl,by rw [f3.take R.ok R.bl];exact R.e,R.y.tn R.ok f3 (by simp),?_,R.m.tn R.ok f3 (by simp),rgN,fun i hi=>?_⟩⟩
  · rw [hn]
    exact e4.tn e2.ok f2 id
  · show ∃ L:List Lk,Has _ _ _ _ _ (if i=s.N then lv else V.lv i) _∧LnkOk es _ i L
    unfold LnkOk;show ∃ L:List Lk,Has _ _ _ _ _ (if i=s.N then lv else V.lv i) _∧(L.length=(if i=s.N then ls else s.lnk i).length∧∀ j,j < L.length→IsE es ((if i=s.N then ls else s.lnk i).getD j 0) (L.getD j l0))
    by_cases c:i=s.N
    · rw [if_pos c,if_pos c,c];exact ⟨L,hl.tn R.ok f3 (by simp),hL⟩
    · rw [if_neg c,if_neg c]
      have hi':i < s.N+1:=hi
      obtain ⟨L',q1,q2⟩:=R.lk i (by omega)
      exact ⟨L',q1.tn R.ok f3 (by simp),q2⟩
end
end Go.Proofs.Ytafhipglhnfgnaa.Ab
set_option linter.unusedSimpArgs false
set_option linter.unusedVariables false
set_option linter.unnecessarySimpa false
set_option maxHeartbeats 4000000
namespace Go.Proofs.Ytafhipglhnfgnaa.Ab
open Go.RowKit
section
variable {X:CallF} {g:Tags} {h:Heap} {b k lo e i kk:Nat} {es:List E} {s:Sv} {l:Lb} {rk:Nat→Nat} {M:List Lk} {dn:Bool} {V:RV} {size:Int} {L Q:List Nat} {A:List Lk} {xs ys:List Nat}
set_option maxRecDepth 100000 in
theorem k_l10Shrink (hbs : BsOk s V.bs) (R : Rn g h b es s M k dn V) (K : Ok es s) (hs : Sm s) (m : MtOk es s M) (gk : GOk size es) (P : Tp h lo s.N L A Q) (D : Tl es s l L A Q) (Mt : Meet es s l rk e xs ys i kk) (hf : ∀ q, q < kk → ys.getD q 0 ≠ xs.getD i 0) (he : e < es.length) (hx0 : top s (vA es e) = xs.getD 0 0) (hy0 : top s (vB es e) = ys.getD 0 0) (hlo : b < lo) (hg : ∀ c τ, g c = some τ → c < lo) :
    ∃ h' g' V' M',C T X n_spec_l10Shrink [p7 b 0,p3 (lo+3) 0,edgeV (es.getD e e0)] h=some (.tuple ⟨[]⟩,h')∧Rn g' h' b es (addR s (ringM xs ys i kk) (ringL l e xs ys i kk) (xs.getD i 0)) M' k dn V'∧MtOk es (addR s (ringM xs ys i kk) (ringL l e xs ys i kk) (xs.getD i 0)) M'∧(∀ c,c+1 < b→h'[c]?=h[c]?)∧h.length≤h'.length∧BsOk (addR s (ringM xs ys i kk) (ringL l e xs ys i kk) (xs.getD i 0)) V'.bs∧Far V' h.length:=by
  suffices hx:∃ w h',C T X n_spec_l10Shrink [p7 b 0,p3 (lo+3) 0,edgeV (es.getD e e0)] h=some (w,h')∧w=.tuple ⟨[]⟩∧∃ g' V' M',Rn g' h' b es (addR s (ringM xs ys i kk) (ringL l e xs ys i kk) (xs.getD i 0)) M' k dn V'∧MtOk es (addR s (ringM xs ys i kk) (ringL l e xs ys i kk) (xs.getD i 0)) M'∧(∀ c,c+1 < b→h'[c]?=h[c]?)∧h.length≤h'.length∧BsOk (addR s (ringM xs ys i kk) (ringL l e xs ys i kk) (xs.getD i 0)) V'.bs∧Far V' h.length by
    obtain ⟨w,h',c,rfl,g',V',M',q⟩:=hx;exact ⟨h',g',V',M',c,q⟩
  have hu:=K.upOk;have nN:=K.nN;have h9:=hs.N;have hi:=Mt.hi;have hk:=Mt.hk;have Rg:=Mt.ring K;have nLs:=Mt.newLs D he;have mt':=mt_add K Rg m gk;have bs':=hbs.add K Rg m;obtain ⟨hE,hEB,_⟩:=K.ed e he;obtain ⟨ga,gb,_⟩:=gok_int gk he;obtain ⟨q,hq⟩:∃ q,q=es.getD e e0:=⟨_,rfl⟩;rw [← hq] at ga gb ⊢
  have lxs:=way_len Mt.F Mt.wx (by rw [Mt.x0];omega)
  have lys:=way_len Mt.F Mt.wy (by rw [Mt.y0];omega)
  have tops:∀ {zs:List Nat},IsWay l zs→l.lab (zs.getD 0 0)=1→∀ j,j < zs.length→zs.getD j 0 < s.N:=fun wz z0 j hj=>(Mt.F.top _ (by rw [way_lab Mt.F wz z0 j hj];omega)).1
  obtain ⟨vx,h1,cx,p1,ox⟩:=k_l10Way (X:=X) R K hs P D Mt.F Mt.wx (by rw [Mt.x0];omega)
  obtain ⟨vy,h2,cy,p2,oy⟩:=k_l10Way (X:=X) (R.up p1) K hs (P.up p1) D Mt.F Mt.wy (by rw [Mt.y0];omega)
  have cta:=k_l10Top (X:=X) R hu (v:=vA es e) (by omega)
  have ctb:=k_l10Top (X:=X) (R.up p1) hu (v:=vB es e) (by omega)
  rw [hx0] at cta;rw [hy0] at ctb;have l1:=pre_len p1;have l2:=pre_len p2;have ph2:h <+: h2:=p1.trans p2;have hlo4:=lt_of_get P.blk;have R2:=R.up ph2;have P2:=P.up ph2;have ox2:=ox.up p2
  have u0:Un lo h2.length h2 h2 g:=⟨fun _ _ _=>rfl,fun c h1 _=>by
    cases q:g c with
    | none=>rfl
    | some τ=>have:=hg c τ q;omega,Nat.le_refl _⟩
  have rdx:∀ {gg:Tags} {hh:Heap},Un lo h2.length h2 hh gg→Rows hh 1 vx (ints (natI xs)):=fun u=>(ox2.un u (by omega) (by omega)).rows
  have rdy:∀ {gg:Tags} {hh:Heap},Un lo h2.length h2 hh gg→Rows hh 1 vy (ints (natI ys)):=fun u=>(oy.un u (by omega) (by omega)).rows
  have inx:∀ {c},c < xs.length→C T X n_spec_l03In [vy,.int .i64 (xs.getD c 0:Nat)] h2=some (.bool (decide (xs.getD c 0∈ys)),h2):=fun {c} hc=>by
    have:=k_spec_l03In (X:=X) (n:=(xs.getD c 0:Nat)) oy.rows (by rw [natI_len];unfold lim;omega)
    rw [this]
    congr 3
    simp only [natI_mem]
  refine C_ex t_spec_l10Shrink rfl ?_;unfold F_spec_l10Shrink edgeV edgeR;simp only [ga,gb,cta,cx,ctb,cy,zeros,fillAt,List.prefix_refl,List.cons_append,List.nil_append,go_sem];obtain ⟨cE,hcE⟩:∃ cE:List Value,cE=[.int .i64 (vA es e:Int),.int .i64 (vB es e:Int),.int .i64 q.w1,.int .i64 q.w2,.int .i64 q.w3]:=⟨_,rfl⟩
  refine w_for i (fun c t' loc hh=>hh=h2∧t' 0=p7 b 0∧t' 1=p3 (lo+3) 0∧t' 6=vx∧t' 7=vy∧loc 5=some cE∧t' 8=.int .i64 (c:Nat)) ⟨rfl,rfl,rfl,rfl,rfl,by rw [hcE];rfl,rfl⟩ ?_
  rintro c t' loc hh hc ⟨ehh,t0,t1,t6,t7,l5,t8⟩;rw [ehh]
  clear ehh hh
  by_cases c1:c < i
  · have hn:¬ xs.getD c 0∈ys:=Mt.first c c1
    have ci:=inx (c:=c) (by omega)
    rw [decide_eq_false hn] at ci
    obtain ⟨a1,a2⟩:=nat_el (rdx u0) (i:=c) (by omega)
    have hw:IntKind.i64.wrap ((c:Int)+1)=((c+1:Nat):Int):=w64 (by omega) (by omega)
    simp only [t0,t1,t6,t7,t8,l5,a1,a2,ci,hw,go_sem];exact c1
  have hci:i=c:=by omega
  subst hci
  have hin:xs.getD i 0∈ys:=by rw [Mt.joint];exact getD_mem0 hk
  have ci:=inx (c:=i) hi;rw [decide_eq_true hin] at ci;obtain ⟨a1,a2⟩:=nat_el (rdx u0) (i:=i) hi
  have cp:=k_spec_l08Place (X:=X) (k:=kk) (n:=(xs.getD i 0:Nat)) oy.rows (by rw [natI_len];unfold lim;omega) (by rw [natI_len];exact hk) (by rw [natI_get hk,Mt.joint]) (fun q hq=>by rw [natI_get (by omega)];have:=hf q hq;omega)
  obtain ⟨j0,hj0⟩:∃ j0,j0=xs.getD i 0:=⟨_,rfl⟩;rw [← hj0] at a2 ci cp;obtain ⟨hA,hhA⟩:∃ hA:Heap,hA=h2++[⟨[.int .i64 (j0:Nat)],1,y_int,true⟩]:=⟨_,rfl⟩;obtain ⟨h3,hh3⟩:∃ h3:Heap,h3=hA++[⟨[],2,y_l10Link,true⟩]:=⟨_,rfl⟩
  have pA:h2 <+: hA:=by rw [hhA];exact List.prefix_append _ _
  have p3':hA <+: h3:=by rw [hh3];exact List.prefix_append _ _
  have lA:hA.length=h2.length+1:=by rw [hhA];simp
  have l3:h3.length=h2.length+2:=by rw [hh3];simp [lA]
  have fA:Tn b (fun τ=>τ=.rg s.N∨τ=.lk s.N) g h2 (claim g h2 hA (.rg s.N)) hA:=(tn_claim R2.ok R2.bl pA).mono fun _ q=>.inl q
  have f3:Tn b (fun τ=>τ=.rg s.N∨τ=.lk s.N) (claim g h2 hA (.rg s.N)) hA (claim (claim g h2 hA (.rg s.N)) hA h3 (.lk s.N)) h3:=(tn_claim fA.ok (by have:=R2.bl;omega) p3').mono fun _ q=>.inr q
  have Hr:Has (claim (claim g h2 hA (.rg s.N)) hA h3 (.lk s.N)) h3 (.rg s.N) 1 y_int (.slice (some ⟨h2.length,0,none⟩) 1 1) (ints (natI [j0])):=by
    have o:Own hA h2.length hA.length 1 y_int (.slice (some ⟨h2.length,0,none⟩) 1 1) (ints (natI [j0])):=by
      rw [lA,hhA]
      exact Own.made (rws:=ints (natI [j0])) (fun r hr=>by simp [ints,natI] at hr;rw [hr];rfl)
    exact (has_claim o).tn fA.ok (tn_claim fA.ok (by have:=R2.bl;omega) p3') (by simp)
  have Hl:Has (claim (claim g h2 hA (.rg s.N)) hA h3 (.lk s.N)) h3 (.lk s.N) 2 y_l10Link (.slice (some ⟨hA.length,0,none⟩) 0 0) (([]:List Lk).map lkR):=by
    have o:Own h3 hA.length h3.length 2 y_l10Link (.slice (some ⟨hA.length,0,none⟩) 0 0) []:=by
      rw [hh3];exact Acc.new.own
    exact has_claim o
  have F3:=fA.trans f3;have hb3:h3[b]?=h2[b]?:=get_of_pre (pA.trans p3') R2.bl;obtain ⟨rx,hrx⟩:∃ rx,rx=(xs.take i).reverse:=⟨_,rfl⟩
  have rxl:rx.length=i:=by rw [hrx,List.length_reverse,List.length_take];omega
  have rxg:∀ d,d < i→rx.getD d 0=xs.getD (i - 1 - d) 0:=fun d hd=>by
    rw [hrx,getD_rev (by rw [List.length_take];omega),List.length_take,Nat.min_eq_left (by omega),getD_take (by omega)]
  have hw0:IntKind.i64.wrap ((i:Int) - 1)=(i:Int) - 1:=w64 (by omega) (by omega)
  simp only [t0,t1,t6,t7,t8,l5,hw0,a1,a2,ci,cp,hj0.symm,← hhA,← hh3,zeros,fillAt,List.prefix_refl,List.cons_append,List.nil_append,go_sem];have u3:Un lo h2.length h2 h3 (claim (claim g h2 hA (.rg s.N)) hA h3 (.lk s.N)):=u0.tn F3 hlo
  have R0:∀ {gg:Tags} {hh:Heap},Tn b (fun τ=>τ=.rg s.N∨τ=.lk s.N) g h2 gg hh→hh[b]?=h2[b]?→Rn gg hh b es s M k dn V:=fun f hb=>R2.tnF f hb fun _ q=>q
  refine w_for i (fun d t' loc hh=>t' 0=p7 b 0∧t' 1=p3 (lo+3) 0∧t' 6=vx∧t' 7=vy∧t' 8=.int .i64 (i:Nat)∧t' 9=.int .i64 (kk:Nat)∧loc 5=some cE∧t' 12=.int .i64 ((i:Int) - 1 - (d:Nat))∧∃ g' rv lv,t' 10=rv∧t' 11=lv∧Tn b (fun τ=>τ=.rg s.N∨τ=.lk s.N) g h2 g' hh∧hh[b]?=h2[b]?∧Has g' hh (.rg s.N) 1 y_int rv (ints (natI (j0::rx.take d)))∧Has g' hh (.lk s.N) 2 y_l10Link lv (((rx.take d).map fun t=>A.getD t l0).map lkR)) ⟨rfl,rfl,rfl,rfl,rfl,rfl,by rw [← l5];rfl,by show Value.int .i64 ((i:Int) - 1)=_;simp,_,_,_,rfl,rfl,F3,hb3,Hr,Hl⟩ ?_
  clear t0 t1 t6 t7 t8 l5 hc
  clear t' loc
  rintro d t' loc hh hd ⟨t0,t1,t6,t7,t8,t9,l5,t12,g',rv,lv,t10,t11,F,hb,Hr',Hl'⟩;have R':=R0 F hb
  by_cases d1:d < i
  · have hm:(i:Int) - 1 - (d:Nat)=((i - 1 - d:Nat):Int):=by omega
    have hw':IntKind.i64.wrap (((i - 1 - d:Nat):Int) - 1)=(i:Int) - 1 - ((d+1:Nat):Int):=by rw [w64 (by omega) (by omega)];omega
    have hge:(((i - 1 - d:Nat):Int)≥0):=by omega
    rw [hm] at t12;obtain ⟨x,hx⟩:∃ x,x=rx.getD d 0:=⟨_,rfl⟩
    have hxx:xs.getD (i - 1 - d) 0=x:=by rw [hx,rxg d d1]
    have hxN:x < s.N:=by rw [← hxx];exact tops Mt.wx Mt.x0 _ (by omega)
    have u:=u0.tn F hlo
    obtain ⟨b1,b2⟩:=nat_el (rdx u) (i:=i - 1 - d) (by omega)
    rw [hxx] at b2
    obtain ⟨rv4,h4,g4,c4,F4,hb4,Hr4,_⟩:=Hr'.push (cs:=[.int .i64 (x:Nat)]) F.ok R'.bl rfl (by rw [ints_len,natI_len,List.length_cons,List.length_take];unfold lim;omega)
    have F4':=F.trans (F4.mono (U:=fun τ=>τ=.rg s.N∨τ=.lk s.N) fun _ q=>.inl q)
    have u4:=u0.tn F4' hlo
    have Hl4:=Hl'.tn F.ok F4 (by simp)
    obtain ⟨b3,b4⟩:=nat_el (rdx u4) (i:=i - 1 - d) (by omega)
    rw [hxx] at b4
    have P4:=P2.un u4 (by omega)
    obtain ⟨q1,q2,q3⟩:=P4.ael hxN
    obtain ⟨lv5,h5,g5,c5,F5,hb5,Hl5,_⟩:=Hl4.push (cs:=lkR (A.getD x l0)) F4'.ok (by have:=F4.len;have:=R'.bl;omega) rfl (by rw [List.length_map,List.length_map,List.length_take];unfold lim;omega)
    have F5':=F4'.trans (F5.mono (U:=fun τ=>τ=.rg s.N∨τ=.lk s.N) fun _ q=>.inr q)
    have Hr5:=Hr4.tn F4'.ok F5 (by simp)
    have htk:rx.take (d+1)=rx.take d++[x]:=by rw [hx];exact take_getD (d:=0) (by omega)
    unfold lkR at c5 q3;simp only [t0,t1,t6,t7,t8,t9,t10,t11,t12,l5,hge,b1,b2,b3,b4,c4,P4.chk,P4.fa,P4.ld1,q1,q3,c5,hw',Nat.zero_add,zeros,fillAt,List.prefix_refl,go_sem]
    refine ⟨d1,g5,rv4,lv5,rfl,rfl,F5',by rw [hb5,hb4,hb],?_,?_⟩
    · rw [htk,← List.cons_append,natI_add]
      exact Hr5
    · rw [htk,List.map_append,List.map_append]
      exact Hl5
  have hdi:d=i:=by omega
  rw [hdi] at t12 Hr' Hl';rw [hdi]
  clear hd d1
  have hge:¬ ((i:Int) - 1 - (i:Nat)≥0):=by omega
  have htk:rx.take i=rx:=List.take_of_length_le (by omega)
  rw [htk] at Hr' Hl'
  obtain ⟨lv4,h4,g4,c4,F4,hb4,Hl4,fz⟩:=Hl'.push (cs:=lkR ⟨vA es e,vB es e⟩) F.ok R'.bl rfl (by rw [List.length_map,List.length_map];unfold lim;omega)
  have F4':=F.trans (F4.mono (U:=fun τ=>τ=.rg s.N∨τ=.lk s.N) fun _ q=>.inr q)
  have Hr4:=Hr'.tn F.ok F4 (by simp)
  unfold lkR at c4
  have Hl4':Has g4 h4 (.lk s.N) 2 y_l10Link lv4 (((rx.map fun t=>A.getD t l0)++⟨vA es e,vB es e⟩::(ys.take 0).map fun t=>(A.getD t l0).rev).map lkR):=by
    rw [List.map_append];exact Hl4
  simp only [t0,t1,t6,t7,t8,t9,t10,t11,t12,l5,hcE,hge,c4,Nat.zero_add,zeros,fillAt,List.prefix_refl,go_sem]
  refine w_for kk (fun d t' loc hh=>t' 0=p7 b 0∧t' 1=p3 (lo+3) 0∧t' 6=vx∧t' 7=vy∧t' 8=.int .i64 (i:Nat)∧t' 9=.int .i64 (kk:Nat)∧t' 13=.int .i64 (d:Nat)∧∃ g' rv lv,t' 10=rv∧t' 11=lv∧Tn b (fun τ=>τ=.rg s.N∨τ=.lk s.N) g h2 g' hh∧hh[b]?=h2[b]?∧Has g' hh (.rg s.N) 1 y_int rv (ints (natI (j0::(rx++ys.take d))))∧Has g' hh (.lk s.N) 2 y_l10Link lv (((rx.map fun t=>A.getD t l0)++⟨vA es e,vB es e⟩::(ys.take d).map fun t=>(A.getD t l0).rev).map lkR)) ⟨rfl,rfl,rfl,rfl,rfl,rfl,rfl,_,_,_,rfl,rfl,F4',by rw [hb4,hb],by rw [List.take_zero,List.append_nil];exact Hr4,Hl4'⟩ ?_
  clear fz Hl4' Hr4 F4' F4 Hl4 c4 hb4 R' Hr' Hl' hb F t0 t1 t6 t7 t8 t9 t10 t11 t12 l5
  clear lv4 h4 g4 t' loc hh g' rv lv
  rintro d t' loc hh hd ⟨t0,t1,t6,t7,t8,t9,t13,g',rv,lv,t10,t11,F,hb,Hr',Hl'⟩;have R':=R0 F hb;simp only [t9,t13,go_sem]
  refine w_open (by simp only [go_sem];rfl) ?_ ?_<;>intro hc
  · have d1:d < kk:=by omega
    have hw:IntKind.i64.wrap ((d:Int)+1)=((d+1:Nat):Int):=w64 (by omega) (by omega)
    obtain ⟨x,hx⟩:∃ x,x=ys.getD d 0:=⟨_,rfl⟩
    have hxN:x < s.N:=by rw [hx];exact tops Mt.wy Mt.y0 _ (by omega)
    have u:=u0.tn F hlo
    obtain ⟨b1,b2⟩:=nat_el (rdy u) (i:=d) (by omega)
    rw [← hx] at b2
    obtain ⟨rv4,h4,g4,c4,F4,hb4,Hr4,_⟩:=Hr'.push (cs:=[.int .i64 (x:Nat)]) F.ok R'.bl rfl (by rw [ints_len,natI_len,List.length_cons,List.length_append,List.length_take];unfold lim;omega)
    have F4':=F.trans (F4.mono (U:=fun τ=>τ=.rg s.N∨τ=.lk s.N) fun _ q=>.inl q)
    have u4:=u0.tn F4' hlo
    have Hl4:=Hl'.tn F.ok F4 (by simp)
    obtain ⟨b3,b4⟩:=nat_el (rdy u4) (i:=d) (by omega)
    rw [← hx] at b4
    have P4:=P2.un u4 (by omega)
    obtain ⟨q1,q2,q3⟩:=P4.ael hxN
    obtain ⟨lv5,h5,g5,c5,F5,hb5,Hl5,_⟩:=Hl4.push (cs:=lkR (A.getD x l0).rev) F4'.ok (by have:=F4.len;have:=R'.bl;omega) rfl (by rw [List.length_map,List.length_append,List.length_map,List.length_cons,List.length_map,List.length_take];unfold lim;omega)
    have F5':=F4'.trans (F5.mono (U:=fun τ=>τ=.rg s.N∨τ=.lk s.N) fun _ q=>.inr q)
    have Hr5:=Hr4.tn F4'.ok F5 (by simp)
    have htk2:ys.take (d+1)=ys.take d++[x]:=by rw [hx];exact take_getD (d:=0) (by omega)
    unfold lkR at c5 q3;unfold Lk.rev at c5;simp only [t0,t1,t6,t7,t8,t9,t10,t11,t13,b1,b2,b3,b4,c4,P4.chk,P4.fa,P4.ld1,q1,q3,c5,hw,Nat.zero_add,zeros,fillAt,List.prefix_refl,go_sem]
    refine ⟨d1,g5,rv4,lv5,rfl,rfl,F5',by rw [hb5,hb4,hb],?_,?_⟩
    · rw [htk2,← List.append_assoc,← List.cons_append,natI_add]
      exact Hr5
    · rw [htk2]
      simp only [List.map_append,List.map_cons,List.map_nil,List.append_assoc,List.cons_append] at Hl5 ⊢;exact Hl5
  have hdi:d=kk:=by omega
  rw [hdi] at Hr' Hl';obtain ⟨ms,hms⟩:∃ ms,ms=ringM xs ys i kk:=⟨_,rfl⟩
  have hmsr:j0::(rx++ys.take kk)=ms:=by rw [hms,hj0,hrx];rfl
  have hnl:(rx.map fun t=>A.getD t l0)++⟨vA es e,vB es e⟩::(ys.take kk).map (fun t=>(A.getD t l0).rev)=newL es e A xs ys i kk:=by rw [hrx];rfl
  rw [hmsr] at Hr';rw [hnl] at Hl';rw [← hms] at Rg mt' bs' ⊢
  have msl:ms.length≤801:=by rw [← hmsr,List.length_cons,List.length_append,List.length_take];omega
  have msN:∀ t∈ms,t < s.N:=fun t ht=>(Rg.top t ht).1
  have hM:=mt_in K.ok0 m;have hMl:=m.le;obtain ⟨h6,hh6⟩:∃ h6,h6=hh:=⟨_,rfl⟩;rw [← hh6] at R' Hr' Hl' F hb
  have low6:∀ c,c+1 < b→h6[c]?=h[c]?:=fun c hc=>by
    rw [F.low R2.ok R2.bl c hc]
    exact get_of_pre ph2 (by have:=R.bl;omega)
  have len6:h.length≤h6.length:=Nat.le_trans (pre_len ph2) F.len;simp only [t0,t1,t6,t7,t8,t9,t10,t11,t13,zeros,fillAt,go_sem];rw [← hh6]
  clear hd hdi hc
  refine w_for M.length (fun n t' loc hh=>t' 0=p7 b 0∧t' 6=vx∧t' 8=.int .i64 (i:Nat)∧t' 10=rv∧t' 11=lv∧t' 16=.int .i64 (n:Nat)∧h6 <+: hh∧∃ v,t' 15=v∧Own hh h6.length hh.length 2 y_l10Link v (((M.take n).filter (outP s ms)).map lkR)∧∃ c m,h6.length≤c∧v=.slice (some ⟨c,0,none⟩) m m) ⟨rfl,rfl,rfl,rfl,rfl,rfl,List.prefix_append _ _,.slice (some ⟨h6.length,0,none⟩) 0 0,rfl,Acc.new.own,h6.length,0,Nat.le_refl _,rfl⟩ ?_
  clear t0 t1 t6 t7 t8 t9 t10 t11 t13
  clear t' loc hh6
  clear hh d
  rintro n t' loc hh hn ⟨t0,t6,t8,t10,t11,t16,hp,v,t15,o,hfar⟩;have R7:=R'.up hp;simp only [t0,t16,R7.chk,R7.fa,R7.ld4,R7.mln,Nat.zero_add,go_sem]
  refine w_open (by simp only [go_sem];rfl) ?_ ?_<;>intro hc
  · have hi1:n < M.length:=by omega
    have hw:IntKind.i64.wrap ((n:Int)+1)=((n+1:Nat):Int):=w64 (by omega) (by omega)
    obtain ⟨m1,m2,m3⟩:=R7.mia hi1;have m4:=R7.m0 hi1;have m5:=R7.m1 hi1;obtain ⟨hx1,hx2⟩:=hM _ (getD_mem (d:=l0) hi1);have htake:M.take (n+1)=M.take n++[M.getD n l0]:=take_getD (d:=l0) hi1;obtain ⟨x,hx⟩:∃ x,x=M.getD n l0:=⟨_,rfl⟩;rw [← hx] at m3 m4 m5 hx1 hx2 htake;have c1:=k_l10Top (X:=X) R7 hu hx1;have c2:=k_l10Top (X:=X) R7 hu hx2
    have hin:∀ t:Nat,C T X n_spec_l03In [rv,.int .i64 (t:Nat)] hh=some (.bool (decide (t∈ms)),hh):=fun t=>by
      have:=k_spec_l03In (X:=X) (n:=(t:Nat)) (Hr'.up hp).rows (by rw [natI_len];unfold lim;omega)
      rw [this]
      congr 3
      simp only [natI_mem]
    have i1:=hin (top s x.f);have i2:=hin (top s x.t)
    have hlen:(((M.take n).filter (outP s ms)).map lkR).length≤400:=by
      rw [List.length_map]
      exact Nat.le_trans (List.length_filter_le _ _) (by rw [List.length_take];omega)
    by_cases d1:top s x.f∈ms∧top s x.t∈ms
    · rw [decide_eq_true d1.1] at i1
      rw [decide_eq_true d1.2] at i2;simp only [t0,t6,t8,t10,t11,t15,t16,R7.chk,R7.fa,R7.ld4,m1,m2,m4,m5,c1,c2,i1,i2,hw,Nat.zero_add,List.prefix_refl,go_sem]
      have no:(M.take (n+1)).filter (outP s ms)=(M.take n).filter (outP s ms):=by
        rw [htake,List.filter_append]
        have:outP s ms x=false:=decide_eq_false fun q=>q d1
        simp [this]
      exact ⟨hi1,hp,v,rfl,by rw [no];exact o,hfar⟩
    · obtain ⟨v2,h2',c3,p1',p2',o2⟩:=o.push1 (pre_len hp) (lkR x) rfl (by unfold lim;omega)
      rw [Nat.max_eq_right p1'] at o2
      have yes:((M.take (n+1)).filter (outP s ms)).map lkR=((M.take n).filter (outP s ms)).map lkR++[lkR x]:=by
        rw [htake,List.filter_append];have:outP s ms x=true:=decide_eq_true d1;simp [this]
      have fin:∃ c m,h6.length≤c∧v2=.slice (some ⟨c,0,none⟩) m m:=by
        rcases o2.is with ⟨_,q⟩ | ⟨c,l1,_,l3,_⟩
        · simp at q
        · exact ⟨c,_,l1,l3⟩
      unfold lkR at c3 m3
      by_cases d2:top s x.f∈ms
      · have d3:¬ top s x.t∈ms:=fun q=>d1 ⟨d2,q⟩
        rw [decide_eq_true d2] at i1;rw [decide_eq_false d3] at i2;simp only [t0,t6,t8,t10,t11,t15,t16,R7.chk,R7.fa,R7.ld4,m1,m2,m3,m4,m5,c1,c2,i1,i2,c3,hw,Nat.zero_add,zeros,fillAt,List.prefix_refl,go_sem]
        exact ⟨hi1,pre_push hp (Nat.le_refl _) p1' p2',v2,rfl,by rw [yes];exact o2,fin⟩
      · rw [decide_eq_false d2] at i1
        simp only [t0,t6,t8,t10,t11,t15,t16,R7.chk,R7.fa,R7.ld4,m1,m2,m3,m4,m5,c1,c2,i1,c3,hw,Nat.zero_add,zeros,fillAt,List.prefix_refl,go_sem]
        exact ⟨hi1,pre_push hp (Nat.le_refl _) p1' p2',v2,rfl,by rw [yes];exact o2,fin⟩
  have hnM:n=M.length:=by omega
  rw [hnM,List.take_length] at o
  clear hnM hn hc
  have u6:=u0.tn F hlo
  obtain ⟨b1,b2⟩:=nat_el (((ox2.un u6 (by omega) (by omega)).rows).up hp) (i:=i) hi
  rw [← hj0] at b2
  have hj0N:j0 < s.N:=by rw [hj0];exact tops Mt.wx Mt.x0 _ hi
  have cb:=k_l10Base (X:=X) (i:=j0) R7 hu hM hMl hj0N;obtain ⟨bv,hbv⟩:∃ bv,bv=baseR s V.bs M j0:=⟨_,rfl⟩;rw [← hbv] at cb;rw [← hj0,← hbv] at bs';obtain ⟨h8,e1,e2,e3,R8⟩:=R'.newM (tn_claim (τ:=.m) R'.ok R'.bl hp) (get_of_pre hp R'.bl) (has_claim o)
  have Hr8:=Hr'.tn R'.ok e2 (by simp)
  have Hl8:=Hl'.tn R'.ok e2 (by simp)
  obtain ⟨nv,h9',h10,g10,w1,w2,w3,w4,f10,R10⟩:=R8.pushN (u:=bv) (by unfold lim;omega) Hr8 Hl8 nLs
  unfold ndR at w1;have rvc:=Hr'.rows.cells;have lvc:=Hl'.rows.cells;simp only [t0,t6,t8,t10,t11,t15,t16,b1,b2,cb,R7.chk,R7.fa,R7.ld4,e1,o.cells,R8.chk,R8.fa,R8.ld3,w1,rb_chk w2,rb_fa w2,w3,w4,rvc,lvc,Nat.zero_add,zeros,fillAt,List.prefix_refl,List.cons_append,List.nil_append,go_sem];obtain ⟨ls,hls⟩:∃ ls,ls=ringL l e xs ys i kk:=⟨_,rfl⟩;rw [← hls] at R10 Rg mt' bs' nLs ⊢;rw [← hj0] at mt'
  refine w_for ms.length (fun n t' loc hh=>t' 0=p7 b 0∧t' 10=rv∧t' 18=.int .i64 (n:Nat)∧Tn b (·=.n) g10 h10 g10 hh∧hh.length=h10.length∧Rn g10 hh b es (addN s ms ls n) (M.filter (outP s ms)) k dn (RV.more { V with mv:=v } s.N nv rv lv bv)) ⟨rfl,rfl,rfl,Tn.refl f10.ok,rfl,R10⟩ ?_
  clear t0 t6 t8 t10 t11 t15 t16
  clear t' loc n
  rintro n t' loc hh hn ⟨t0,t10,t18,f11,len11,R11⟩
  have Hr11:Has g10 hh (.rg s.N) 1 y_int rv (ints (natI ms)):=by
    have:=R11.rg s.N (Nat.lt_succ_self _);have ea:(RV.more { V with mv:=v } s.N nv rv lv bv).rv s.N=rv:=if_pos rfl;have eb:(addN s ms ls n).mem s.N=ms:=if_pos rfl;rw [ea,eb] at this;exact this
  have aln:=nat_ln Hr11.rows;simp only [t10,t18,aln,go_sem]
  refine w_open (by simp only [go_sem];rfl) ?_ ?_<;>intro hc
  · have hn1:n < ms.length:=by omega
    have hw:IntKind.i64.wrap ((n:Int)+1)=((n+1:Nat):Int):=w64 (by omega) (by omega)
    obtain ⟨c1,c2⟩:=nat_el Hr11.rows hn1;obtain ⟨x,hx⟩:∃ x,x=ms.getD n 0:=⟨_,rfl⟩
    have hxm:x∈ms:=by rw [hx];exact getD_mem0 hn1
    have hxN:x < s.N+1:=by have:=msN x hxm;omega
    rw [← hx] at c2;have nln:=R11.nln;have hNN:((addN s ms ls n).N:Int)=((s.N+1:Nat):Int):=rfl;rw [hNN] at nln
    have hw2:IntKind.i64.wrap (((s.N+1:Nat):Int) - 1)=(s.N:Nat):=by rw [w64 (by omega) (by omega)];omega
    have ni:=R11.nia (i:=x) hxN;have nf:=R11.nfa (i:=x) hxN;obtain ⟨h12,d1,d2,d3,d4,d5⟩:=R11.stUp (i:=x) hxN (some s.N);have d1':stC hh (elemP (RV.more { V with mv:=v } s.N nv rv lv bv).nv 6 x 4) [.int .i64 (s.N:Nat)]=some h12:=d1;simp only [t0,t10,t18,R11.chk,R11.fa,R11.ld3,c1,c2,nln,hw2,ni,nf,d1',hw,Nat.zero_add,List.prefix_refl,go_sem]
    refine ⟨hn1,f11.trans d2,by rw [d3,len11],d5.congr rfl rfl (fun _ _=>rfl) fun j hj=>⟨rfl,rfl,?_,rfl,rfl,rfl⟩⟩
    show (if j∈ms.take (n+1) then some s.N else if j=s.N then none else s.up j)=if j=x then some s.N else (if j∈ms.take n then some s.N else if j=s.N then none else s.up j);rw [take_getD (d:=0) hn1,← hx]
    by_cases z:j=x
    · rw [if_pos (by simp [z]),if_pos z]
    · rw [if_neg z]
      by_cases z2:j∈ms.take n
      · rw [if_pos (by simp [z2]),if_pos z2]
      · rw [if_neg (by simp [z,z2]),if_neg z2]
  · have hnn:n=ms.length:=by omega
    rw [hnn] at R11
    have far11:Far (RV.more { V with mv:=v } s.N nv rv lv bv) h.length:=by
      obtain ⟨c,m',q1,q2⟩:=hfar
      exact ⟨c,m',by omega,q2⟩
    have RF:Rn g10 hh b es (addR s ms ls j0) (M.filter (outP s ms)) k dn (RV.more { V with mv:=v } s.N nv rv lv bv):=R11.congr' rfl rfl (fun _ _=>rfl) fun j hj=>by
      refine ⟨rfl,?_,rfl,rfl,rfl⟩
      · show (if j∈ms then some s.N else if j=s.N then none else s.up j)=(if j∈ms.take ms.length then some s.N else if j=s.N then none else s.up j)
        rw [List.take_length]
    simp only [t0,t10,t18,go_sem];rw [fin_keep R.bl (R.diff RF far11)]
    refine ⟨rfl,_,_,_,RF,mt',fun c hc=>?_,?_,bs',far11⟩
    · rw [f11.low R10.ok R10.bl c hc,f10.low R8.ok R8.bl c hc,e2.low R'.ok R'.bl c hc]
      exact low6 c hc
    · exact Nat.le_trans len6 (Nat.le_trans e2.len (Nat.le_trans f10.len f11.len))
end
end Go.Proofs.Ytafhipglhnfgnaa.Ab
set_option linter.unusedSimpArgs false
set_option linter.unusedVariables false
set_option linter.unnecessarySimpa false
set_option maxHeartbeats 4000000
namespace Go.Proofs.Ytafhipglhnfgnaa.Ab
open Go.RowKit
structure Seen (es:List E) (s:Sv) (l:Lb) (y d:Int) (j p:Nat):Prop where
  d0:0≤d
  le:d≤y
  ee:∀ e,e < j→top s (vA es e)≠top s (vB es e)→l.lab (top s (vA es e))=1→l.lab (top s (vB es e))=1→2*d≤slk es s e
  eb:∀ e,e < j→top s (vA es e)≠top s (vB es e)→(l.lab (top s (vA es e))=1∧l.lab (top s (vB es e))=0)∨(l.lab (top s (vA es e))=0∧l.lab (top s (vB es e))=1)→d≤slk es s e
  oz:∀ q,IsTop s q→s.n≤q→q < p→l.lab q=2→2*d≤s.z q
  by_:d=y∨(∃ e,e < j∧top s (vA es e)≠top s (vB es e)∧((l.lab (top s (vA es e))=1∧l.lab (top s (vB es e))=1∧slk es s e=2*d)∨(((l.lab (top s (vA es e))=1∧l.lab (top s (vB es e))=0)∨(l.lab (top s (vA es e))=0∧l.lab (top s (vB es e))=1))∧slk es s e=d)))∨∃ q,q < p∧IsTop s q∧s.n≤q∧l.lab q=2∧s.z q=2*d
theorem least_le {d q:Int} (hd:0≤d):(leastI d q=d∧d≤q)∨(leastI d q=q∧q < d):=by
  unfold leastI
  split<;>omega
section
variable {es:List E} {s:Sv} {l:Lb} {y d q:Int} {j p:Nat}
theorem Seen.skip (S:Seen es s l y d j p) (h:¬ (top s (vA es j)≠top s (vB es j)∧((l.lab (top s (vA es j))=1∧l.lab (top s (vB es j))=1)∨(l.lab (top s (vA es j))=1∧l.lab (top s (vB es j))=0)∨(l.lab (top s (vA es j))=0∧l.lab (top s (vB es j))=1)))):Seen es s l y d (j+1) p:=by
  refine ⟨S.d0,S.le,fun e he h1 h2 h3=>?_,fun e he h1 h2=>?_,S.oz,S.by_.imp id fun q=>q.imp (fun ⟨e,h1,h2⟩=>⟨e,by omega,h2⟩) id⟩
  · by_cases c:e=j
    · subst c;exact absurd ⟨h1,.inl ⟨h2,h3⟩⟩ h
    · exact S.ee e (by omega) h1 h2 h3
  · by_cases c:e=j
    · subst c;exact absurd ⟨h1,.inr h2⟩ h
    · exact S.eb e (by omega) h1 h2
theorem Seen.nee (S:Seen es s l y d j p) (h1:top s (vA es j)≠top s (vB es j)) (h2:l.lab (top s (vA es j))=1) (h3:l.lab (top s (vB es j))=1) (hq:slk es s j=2*q) (q0:0≤q):Seen es s l y (leastI d q) (j+1) p:=by
  have d0:=S.d0;have hle:=S.le;rcases least_le (q:=q) d0 with ⟨e,k⟩ | ⟨e,k⟩
  · rw [e]
    refine ⟨d0,hle,fun e he a1 a2 a3=>?_,fun e he a1 a2=>?_,S.oz,S.by_.imp id fun q=>q.imp (fun ⟨e,h1,h2⟩=>⟨e,by omega,h2⟩) id⟩
    · by_cases c:e=j
      · subst c;omega
      · exact S.ee e (by omega) a1 a2 a3
    · by_cases c:e=j
      · subst c;omega
      · exact S.eb e (by omega) a1 a2
  · rw [e]
    refine ⟨q0,by omega,fun e he a1 a2 a3=>?_,fun e he a1 a2=>?_,fun p' a1 a2 a3 a4=>?_,.inr (.inl ⟨j,by omega,h1,.inl ⟨h2,h3,hq⟩⟩)⟩
    · by_cases c:e=j
      · subst c;omega
      · have:=S.ee e (by omega) a1 a2 a3;omega
    · by_cases c:e=j
      · subst c;omega
      · have:=S.eb e (by omega) a1 a2;omega
    · have:=S.oz p' a1 a2 a3 a4;omega
theorem Seen.neb (S:Seen es s l y d j p) (h1:top s (vA es j)≠top s (vB es j)) (h2:(l.lab (top s (vA es j))=1∧l.lab (top s (vB es j))=0)∨(l.lab (top s (vA es j))=0∧l.lab (top s (vB es j))=1)) (hq:slk es s j=q) (q0:0≤q):Seen es s l y (leastI d q) (j+1) p:=by
  have d0:=S.d0;have hle:=S.le;rcases least_le (q:=q) d0 with ⟨e,k⟩ | ⟨e,k⟩
  · rw [e]
    refine ⟨d0,hle,fun e he a1 a2 a3=>?_,fun e he a1 a2=>?_,S.oz,S.by_.imp id fun q=>q.imp (fun ⟨e,h1,h2⟩=>⟨e,by omega,h2⟩) id⟩
    · by_cases c:e=j
      · subst c;omega
      · exact S.ee e (by omega) a1 a2 a3
    · by_cases c:e=j
      · subst c;omega
      · exact S.eb e (by omega) a1 a2
  · rw [e]
    refine ⟨q0,by omega,fun e he a1 a2 a3=>?_,fun e he a1 a2=>?_,fun p' a1 a2 a3 a4=>?_,.inr (.inl ⟨j,by omega,h1,.inr ⟨h2,hq⟩⟩)⟩
    · by_cases c:e=j
      · subst c;omega
      · have:=S.ee e (by omega) a1 a2 a3;omega
    · by_cases c:e=j
      · subst c;omega
      · have:=S.eb e (by omega) a1 a2;omega
    · have:=S.oz p' a1 a2 a3 a4;omega
theorem Seen.zskip (S:Seen es s l y d j p) (h:¬ (IsTop s p∧l.lab p=2)):Seen es s l y d j (p+1):=by
  refine ⟨S.d0,S.le,S.ee,S.eb,fun q a1 a2 a3 a4=>?_,S.by_.imp id fun q=>q.imp id (fun ⟨e,h1,h2⟩=>⟨e,by omega,h2⟩)⟩
  by_cases c:q=p
  · subst c;exact absurd ⟨a1,a4⟩ h
  · exact S.oz q a1 a2 (by omega) a4
theorem Seen.nz (S:Seen es s l y d j p) (h1:IsTop s p) (h2:s.n≤p) (h3:l.lab p=2) (hq:s.z p=2*q) (q0:0≤q):Seen es s l y (leastI d q) j (p+1):=by
  have d0:=S.d0;have hle:=S.le;rcases least_le (q:=q) d0 with ⟨e,k⟩ | ⟨e,k⟩
  · rw [e]
    refine ⟨d0,hle,S.ee,S.eb,fun r a1 a2 a3 a4=>?_,S.by_.imp id fun q=>q.imp id (fun ⟨e,h1,h2⟩=>⟨e,by omega,h2⟩)⟩
    by_cases c:r=p
    · subst c;omega
    · exact S.oz r a1 a2 (by omega) a4
  · rw [e]
    refine ⟨q0,by omega,fun e he a1 a2 a3=>?_,fun e he a1 a2=>?_,fun r a1 a2 a3 a4=>?_,.inr (.inr ⟨p,by omega,h1,h2,h3,hq⟩)⟩
    · have:=S.ee e he a1 a2 a3;omega
    · have:=S.eb e he a1 a2;omega
    · by_cases c:r=p
      · subst c;omega
      · have:=S.oz r a1 a2 (by omega) a4;omega
theorem Seen.least (S:Seen es s l y d es.length s.N) (h1:∃ v,v < s.n∧l.lab (top s v)=1∧s.y v=y) (h2:∀ v,v < s.n→l.lab (top s v)=1→y≤s.y v):Least es s l d:=by
  have hle:=S.le
  refine ⟨⟨S.d0,fun e he=>S.ee e he,fun e he=>S.eb e he,fun p hp hn=>S.oz p hp hn hp.1⟩,fun v hv h=>?_,?_⟩
  · have:=h2 v hv h;omega
  · rcases S.by_ with e | ⟨e,e1,e2⟩ | ⟨p,e1,e2,e3,e4,e5⟩
    · rw [e];exact .inl h1
    · exact .inr (.inl ⟨e,e1,e2⟩)
    · exact .inr (.inr ⟨p,e2,e3,e4,e5⟩)
def Ev (s:Sv) (l:Lb) (j:Nat) (y:Int):Prop:=(y=-1∧∀ v,v < j→l.lab (top s v)≠1)∨(0≤y∧(∃ v,v < j∧l.lab (top s v)=1∧s.y v=y)∧∀ v,v < j→l.lab (top s v)=1→y≤s.y v)
theorem Ev.skip (h:Ev s l j y) (hn:l.lab (top s j)≠1):Ev s l (j+1) y:=by
  rcases h with ⟨h1,h2⟩ | ⟨h1,⟨v,h2,h3⟩,h4⟩
  · refine .inl ⟨h1,fun v hv=>?_⟩
    by_cases c:v=j
    · rw [c];exact hn
    · exact h2 v (by omega)
  · refine .inr ⟨h1,⟨v,by omega,h3⟩,fun u hu hl=>?_⟩
    by_cases c:u=j
    · rw [c] at hl;exact absurd hl hn
    · exact h4 u (by omega) hl
theorem Ev.next (h:Ev s l j y) (hn:l.lab (top s j)=1) (h0:0≤s.y j):Ev s l (j+1) (leastI y (s.y j)):=by
  rcases h with ⟨h1,h2⟩ | ⟨h1,⟨v,h2,h3⟩,h4⟩
  · have e:leastI y (s.y j)=s.y j:=by unfold leastI;rw [if_pos (.inl (by omega))]
    rw [e]
    refine .inr ⟨h0,⟨j,by omega,hn,rfl⟩,fun u hu hl=>?_⟩
    by_cases c:u=j
    · rw [c];exact Int.le_refl _
    · exact absurd hl (h2 u (by omega))
  · rcases least_le (q:=s.y j) h1 with ⟨e,k⟩ | ⟨e,k⟩
    · rw [e]
      refine .inr ⟨h1,⟨v,by omega,h3⟩,fun u hu hl=>?_⟩
      by_cases c:u=j
      · rw [c];exact k
      · exact h4 u (by omega) hl
    · rw [e]
      refine .inr ⟨h0,⟨j,by omega,hn,rfl⟩,fun u hu hl=>?_⟩
      by_cases c:u=j
      · rw [c];exact Int.le_refl _
      · have:=h4 u (by omega) hl;omega
end
section
variable {X:CallF} {g:Tags} {h:Heap} {b k lo:Nat} {es:List E} {s:Sv} {l:Lb} {rk:Nat→Nat} {M:List Lk} {dn:Bool} {V:RV} {size Y:Int} {L Q:List Nat} {A:List Lk}
set_option maxRecDepth 100000 in
theorem k_l10Step (R : Rn g h b es s M k dn V) (K : Ok es s) (hs : Sm s) (gk : GOk size es) (P : Tp h lo s.N L A Q) (D : Tl es s l L A Q) (F : Fo es s l rk) (Lo0 : Lo s Y) (he9 : es.length ≤ 1000) :
    ∃ d y:Int,C T X n_spec_l10Step [p7 b 0,p3 (lo+3) 0] h=some (.tuple ⟨[.int .i64 d,.int .i64 y]⟩,h)∧((d=-1∧∀ v,v < s.n→l.lab (top s v)≠1)∨(Least es s l d∧d≤y∧(∃ v,v < s.n∧l.lab (top s v)=1∧s.y v=y)∧∀ v,v < s.n→l.lab (top s v)=1→y≤s.y v)):=by
  suffices hx:∃ w hh,C T X n_spec_l10Step [p7 b 0,p3 (lo+3) 0] h=some (w,hh)∧hh=h∧∃ d y:Int,w=.tuple ⟨[.int .i64 d,.int .i64 y]⟩∧((d=-1∧∀ v,v < s.n→l.lab (top s v)≠1)∨(Least es s l d∧d≤y∧(∃ v,v < s.n∧l.lab (top s v)=1∧s.y v=y)∧∀ v,v < s.n→l.lab (top s v)=1→y≤s.y v)) by
    obtain ⟨w,hh,c,rfl,d,y,rfl,q⟩:=hx;exact ⟨d,y,c,q⟩
  have hu:=K.upOk;have nN:=K.nN;have h9:=hs.N;have n9:=hs.n
  have y0:∀ v,v < s.n→0≤s.y v:=fun v hv=>by have:=Lo0.low v hv;have:=Lo0.y0;omega
  refine C_ex t_spec_l10Step rfl ?_;unfold F_spec_l10Step;simp only [R.chk,R.fa,R.ld0,Nat.zero_add,go_sem];have n0:((0:Nat):Int)=0:=rfl;have n1:((1:Nat):Int)=1:=rfl;have n2:((2:Nat):Int)=2:=rfl
  refine w_for s.n (fun j t' loc hh=>hh=h∧t' 0=p7 b 0∧t' 1=p3 (lo+3) 0∧t' 8=.int .i64 (j:Nat)∧∃ y:Int,t' 7=.int .i64 y∧Ev s l j y) ⟨rfl,rfl,rfl,rfl,-1,rfl,.inl ⟨rfl,fun v hv=>by omega⟩⟩ ?_
  rintro j t' loc hh hj ⟨rfl,t0,t1,t8,y,t7,ev⟩;simp only [t0,t8,R.chk,R.fa,R.ld0,Nat.zero_add,go_sem]
  refine w_open (by simp only [go_sem];rfl) ?_ ?_<;>intro hc
  · have hj1:j < s.n:=by omega
    have hw:IntKind.i64.wrap ((j:Int)+1)=((j+1:Nat):Int):=w64 (by omega) (by omega)
    have ct:=k_l10Top (X:=X) R hu (v:=j) (by omega)
    obtain ⟨a,ha⟩:∃ a,a=top s j:=⟨_,rfl⟩;rw [← ha] at ct
    have aN:a < s.N:=by rw [ha];exact top_lt hu (by omega)
    obtain ⟨x1,x2⟩:=P.lel aN;rw [D.lab a aN] at x2;obtain ⟨b1,b2⟩:=R.yia hj1;have cl:=k_l10Least (X:=X) (h:=hh) (a:=y) (c:=s.y j)
    by_cases c1:l.lab a=1
    · rw [c1,n1] at x2
      simp only [t0,t1,t7,t8,ct,x1,x2,b1,b2,cl,P.chk,P.fa,P.ld0,R.chk,R.fa,R.ld2,hw,Nat.zero_add,List.prefix_refl,go_sem]
      exact ⟨hj1,_,rfl,ev.next (by rw [← ha];exact c1) (y0 j hj1)⟩
    · have c2:¬ ((l.lab a:Nat):Int)=1:=by omega
      simp only [t0,t1,t7,t8,ct,x1,x2,c2,P.chk,P.fa,P.ld0,R.chk,R.fa,R.ld2,hw,Nat.zero_add,List.prefix_refl,go_sem]
      exact ⟨hj1,y,rfl,ev.skip (by rw [← ha];exact c1)⟩
  have hjn:j=s.n:=by omega
  rw [hjn] at ev;rcases ev with ⟨rfl,e2⟩ | ⟨e1,e2,e3⟩
  · have hn:((-1:Int) < 0):=by omega
    simp only [t0,t1,t7,t8,hn,go_sem];exact ⟨_,_,rfl,.inl ⟨rfl,e2⟩⟩
  have hn:¬ (y < 0):=by omega
  simp only [t0,t1,t7,t8,hn,go_sem]
  clear hc hj hjn t0 t1 t8 t7 hn
  refine w_for es.length (fun i t' loc h'=>h'=hh∧t' 0=p7 b 0∧t' 1=p3 (lo+3) 0∧t' 7=.int .i64 y∧t' 9=.int .i64 (i:Nat)∧∃ d:Int,t' 6=.int .i64 d∧Seen es s l y d i s.n) ⟨rfl,rfl,rfl,rfl,rfl,y,rfl,⟨e1,Int.le_refl _,fun e he=>by omega,fun e he=>by omega,fun q h1 h2 h3=>by omega,.inl rfl⟩⟩ ?_
  clear t' loc j
  rintro i t' loc h' hi ⟨rfl,t0,t1,t7,t9,d,t6,S⟩;simp only [t0,t9,R.chk,R.fa,R.ld1,R.eln,Nat.zero_add,go_sem]
  refine w_open (by simp only [go_sem];rfl) ?_ ?_<;>intro hc
  · have hi1:i < es.length:=by omega
    have hw:IntKind.i64.wrap ((i:Int)+1)=((i+1:Nat):Int):=w64 (by omega) (by omega)
    obtain ⟨hE,hEB⟩:=K.ed i hi1;obtain ⟨ga,gb,_⟩:=gok_int gk hi1;have el:=R.ev.el (f:=edgeR) e0 hi1;have csl:=k_l10Slack (X:=X) R K hs gk hi1
    have cta:=k_l10Top (X:=X) R hu (v:=vA es i) (by omega)
    have ctb:=k_l10Top (X:=X) R hu (v:=vB es i) (by omega)
    obtain ⟨q,hq⟩:∃ q,q=es.getD i e0:=⟨_,rfl⟩;rw [← hq] at el csl ga gb;unfold edgeV at csl
    have er:edgeR q=[.int .i64 (vA es i:Nat),.int .i64 (vB es i:Nat),.int .i64 q.w1,.int .i64 q.w2,.int .i64 q.w3]:=by unfold edgeR;rw [ga,gb]
    rw [er] at el csl;obtain ⟨a,hA⟩:∃ a,a=top s (vA es i):=⟨_,rfl⟩;obtain ⟨c,hC⟩:∃ c,c=top s (vB es i):=⟨_,rfl⟩;rw [← hA] at cta;rw [← hC] at ctb
    have aN:a < s.N:=by rw [hA];exact top_lt hu (by omega)
    have cN:c < s.N:=by rw [hC];exact top_lt hu (by omega)
    obtain ⟨x1,x2⟩:=P.lel aN;obtain ⟨y1,y2⟩:=P.lel cN;rw [D.lab a aN] at x2;rw [D.lab c cN] at y2;have two1:=F.two a;have two2:=F.two c;have sk:=S.skip;rw [← hA,← hC] at sk;have hfe:=K.feas i hi1
    have hsl:slk es s i≤100000000000:=by
      obtain ⟨a1,a2⟩:=hs.y _ hE;obtain ⟨a3,a4⟩:=hs.y _ hEB.1;obtain ⟨w0,w1⟩:=gok_w gk hi1
      by_cases k1:top s (vA es i)=top s (vB es i)
      · obtain ⟨z3,z4⟩:=zSum_bnd hs (a:=vA es i) (c:=vB es i) (k:=s.N) (Nat.le_refl _)
        unfold slk;omega
      · rw [slk_apart K k1]
        omega
    by_cases k1:(a:Int)=(c:Int)
    · simp only [t0,t1,t6,t7,t9,R.chk,R.fa,R.ld1,el.1,el.2.1,el.2.2,cta,ctb,k1,hw,Nat.zero_add,zeros,fillAt,List.prefix_refl,go_sem]
      exact ⟨hi1,d,rfl,sk fun q=>q.1 (by omega)⟩
    have hne:a≠c:=by omega
    have la3:l.lab a=0∨l.lab a=1∨l.lab a=2:=by omega
    have lc3:l.lab c=0∨l.lab c=1∨l.lab c=2:=by omega
    have hneT:top s (vA es i)≠top s (vB es i):=by rw [← hA,← hC];exact hne
    rcases la3 with la | la | la<;>rcases lc3 with lc | lc | lc<;>rw [la] at x2<;>rw [lc] at y2<;>(try rw [n0] at x2)<;>(try rw [n1] at x2)<;>(try rw [n2] at x2)<;>(try rw [n0] at y2)<;>(try rw [n1] at y2)<;>(try rw [n2] at y2)
    · simp only [t0,t1,t6,t7,t9,R.chk,R.fa,R.ld1,el.1,el.2.1,el.2.2,cta,ctb,k1,P.chk,P.fa,P.ld0,x1,x2,y1,y2,hw,Nat.zero_add,zeros,fillAt,List.prefix_refl,go_sem]
      exact ⟨hi1,d,rfl,sk fun q=>by have:=q.2;omega⟩
    · have cl:=k_l10Least (X:=X) (h:=h') (a:=d) (c:=slk es s i)
      simp only [t0,t1,t6,t7,t9,R.chk,R.fa,R.ld1,el.1,el.2.1,el.2.2,cta,ctb,csl,cl,k1,P.chk,P.fa,P.ld0,x1,x2,y1,y2,hw,Nat.zero_add,zeros,fillAt,List.prefix_refl,go_sem]
      exact ⟨hi1,_,rfl,S.neb hneT (.inr (by rw [← hA,← hC];exact ⟨la,lc⟩)) rfl hfe⟩
    · simp only [t0,t1,t6,t7,t9,R.chk,R.fa,R.ld1,el.1,el.2.1,el.2.2,cta,ctb,k1,P.chk,P.fa,P.ld0,x1,x2,y1,y2,hw,Nat.zero_add,zeros,fillAt,List.prefix_refl,go_sem]
      exact ⟨hi1,d,rfl,sk fun q=>by have:=q.2;omega⟩
    · have cl:=k_l10Least (X:=X) (h:=h') (a:=d) (c:=slk es s i)
      simp only [t0,t1,t6,t7,t9,R.chk,R.fa,R.ld1,el.1,el.2.1,el.2.2,cta,ctb,csl,cl,k1,P.chk,P.fa,P.ld0,x1,x2,y1,y2,hw,Nat.zero_add,zeros,fillAt,List.prefix_refl,go_sem]
      exact ⟨hi1,_,rfl,S.neb hneT (.inl (by rw [← hA,← hC];exact ⟨la,lc⟩)) rfl hfe⟩
    · have hev:=ee_even K F Lo0 hi1 hneT (by rw [← hA];exact la) (by rw [← hC];exact lc)
      have hdv:IntKind.i64.wrap ((slk es s i).tdiv 2)=slk es s i / 2:=by
        rw [Int.tdiv_eq_ediv_of_nonneg hfe,w64 (by omega) (by omega)]
      have cl:=k_l10Least (X:=X) (h:=h') (a:=d) (c:=slk es s i / 2);simp only [t0,t1,t6,t7,t9,R.chk,R.fa,R.ld1,el.1,el.2.1,el.2.2,cta,ctb,csl,cl,k1,P.chk,P.fa,P.ld0,x1,x2,y1,y2,hdv,hw,Nat.zero_add,zeros,fillAt,List.prefix_refl,go_sem]
      exact ⟨hi1,_,rfl,S.nee hneT (by rw [← hA];exact la) (by rw [← hC];exact lc) (by omega) (by omega)⟩
    · simp only [t0,t1,t6,t7,t9,R.chk,R.fa,R.ld1,el.1,el.2.1,el.2.2,cta,ctb,k1,P.chk,P.fa,P.ld0,x1,x2,y1,y2,hw,Nat.zero_add,zeros,fillAt,List.prefix_refl,go_sem]
      exact ⟨hi1,d,rfl,sk fun q=>by have:=q.2;omega⟩
    · simp only [t0,t1,t6,t7,t9,R.chk,R.fa,R.ld1,el.1,el.2.1,el.2.2,cta,ctb,k1,P.chk,P.fa,P.ld0,x1,x2,y1,y2,hw,Nat.zero_add,zeros,fillAt,List.prefix_refl,go_sem]
      exact ⟨hi1,d,rfl,sk fun q=>by have:=q.2;omega⟩
    · simp only [t0,t1,t6,t7,t9,R.chk,R.fa,R.ld1,el.1,el.2.1,el.2.2,cta,ctb,k1,P.chk,P.fa,P.ld0,x1,x2,y1,y2,hw,Nat.zero_add,zeros,fillAt,List.prefix_refl,go_sem]
      exact ⟨hi1,d,rfl,sk fun q=>by have:=q.2;omega⟩
    · simp only [t0,t1,t6,t7,t9,R.chk,R.fa,R.ld1,el.1,el.2.1,el.2.2,cta,ctb,k1,P.chk,P.fa,P.ld0,x1,x2,y1,y2,hw,Nat.zero_add,zeros,fillAt,List.prefix_refl,go_sem]
      exact ⟨hi1,d,rfl,sk fun q=>by have:=q.2;omega⟩
  have hie:i=es.length:=by omega
  rw [hie] at S;simp only [t0,t1,t6,t7,t9,R.chk,R.fa,R.ld0,Nat.zero_add,go_sem]
  clear hc hi hie t0 t1 t6 t7 t9
  refine w_for (s.N - s.n) (fun j t' loc hh=>hh=h'∧t' 0=p7 b 0∧t' 1=p3 (lo+3) 0∧t' 7=.int .i64 y∧t' 13=.int .i64 ((s.n+j:Nat):Int)∧∃ d:Int,t' 6=.int .i64 d∧Seen es s l y d es.length (s.n+j)) ⟨rfl,rfl,rfl,rfl,rfl,d,rfl,S⟩ ?_
  clear S
  clear t' loc i d
  rintro j t' loc hh hj ⟨rfl,t0,t1,t7,t13,d,t6,S⟩;simp only [t0,t13,R.chk,R.fa,R.ld3,R.nln,Nat.zero_add,go_sem]
  refine w_open (by simp only [go_sem];rfl) ?_ ?_<;>intro hc
  · have hj1:s.n+j < s.N:=by omega
    have hw:IntKind.i64.wrap (((s.n+j:Nat):Int)+1)=((s.n+(j+1):Nat):Int):=w64 (by omega) (by omega)
    have ci:=k_l10IsTop (X:=X) R hj1;obtain ⟨x1,x2⟩:=P.lel hj1;rw [D.lab _ hj1] at x2;have n3:=R.n3 hj1
    by_cases c1:IsTop s (s.n+j)
    rotate_left
    · rw [tP_f c1] at ci
      simp only [t0,t1,t6,t7,t13,ci,hw,Nat.zero_add,List.prefix_refl,go_sem]
      exact ⟨by omega,d,rfl,S.zskip fun q=>c1 q.1⟩
    rw [tP_t c1] at ci
    by_cases c2:l.lab (s.n+j)=2
    · rw [c2,n2] at x2
      obtain ⟨z1,z2⟩:=K.z0 (s.n+j) ⟨by omega,hj1,c1.2.2⟩
      obtain ⟨z3,z4⟩:=hs.z _ hj1
      have hdv:IntKind.i64.wrap ((s.z (s.n+j)).tdiv 2)=s.z (s.n+j) / 2:=by
        rw [Int.tdiv_eq_ediv_of_nonneg z1,w64 (by omega) (by omega)]
      have cl:=k_l10Least (X:=X) (h:=hh) (a:=d) (c:=s.z (s.n+j) / 2);simp only [t0,t1,t6,t7,t13,ci,cl,P.chk,P.fa,P.ld0,x1,x2,R.chk,R.fa,R.ld3,R.nia hj1,R.nfa hj1,n3,hdv,hw,Nat.zero_add,List.prefix_refl,go_sem]
      exact ⟨by omega,_,rfl,S.nz c1 (by omega) c2 (by omega) (by omega)⟩
    · have c3:¬ ((l.lab (s.n+j):Nat):Int)=2:=by omega
      simp only [t0,t1,t6,t7,t13,ci,P.chk,P.fa,P.ld0,x1,x2,c3,hw,Nat.zero_add,List.prefix_refl,go_sem]
      exact ⟨by omega,d,rfl,S.zskip fun q=>c2 q.2⟩
  have hjN:s.n+j=s.N:=by omega
  rw [hjN] at S;simp only [t0,t1,t6,t7,t13,go_sem];exact ⟨_,_,rfl,.inr ⟨S.least e2 e3,S.le,e2,e3⟩⟩
end
end Go.Proofs.Ytafhipglhnfgnaa.Ab
set_option linter.unusedSimpArgs false
set_option linter.unusedVariables false
set_option linter.unnecessarySimpa false
set_option maxHeartbeats 4000000
namespace Go.Proofs.Ytafhipglhnfgnaa.Ab
open Go.RowKit
def Df (s s':Sv) (dn dn':Bool):Prop:=dn'≠dn∨(s'.n=s.n∧∃ v,v < s.n∧s'.y v≠s.y v)∨(s'.N=s.N∧∃ i,i < s.N∧s'.gone i≠s.gone i)
section
variable {g g':Tags} {h h':Heap} {b k k' i v:Nat} {es:List E} {s s':Sv} {l:Lb} {rk:Nat→Nat} {M M':List Lk} {dn dn':Bool} {V V':RV} {d Y Mx:Int}
theorem Rn.df (R:Rn g h b es s M k dn V) (R':Rn g' h' b es s' M' k' dn' V') (hd:Df s s' dn dn'):¬ h <+: h':=fun hp=>by
  have R1:=R.up hp;have e:=R1.blk;rw [R'.blk] at e;have e:=Option.some.inj e;unfold runB at e
  injection e with e
  simp only [List.cons.injEq] at e;obtain ⟨_,_,ey,en,_,_,ed,_⟩:=e;rcases hd with hd | ⟨hn,v,hv,hd⟩ | ⟨hN,i,hi,hd⟩
  · injection ed with ed
    exact hd ed
  · have a1:=(R1.yia hv).2
    have a2:=(R'.yia (v:=v) (by omega)).2
    rw [ey,a1] at a2;simp at a2;exact hd a2.symm
  · have a1:=R1.n5 hi
    have a2:=R'.n5 (i:=i) (by omega)
    rw [en,a1] at a2;simp at a2;exact hd a2.symm
theorem fin_not {w:Value} (hp:¬ h <+: h'):finish h (w,h')=(w,h'):=by
  unfold finish
  rw [if_neg fun q=>hp q.2]
theorem top_cong (hN:s'.N=s.N) (hup:s'.up=s.up):top s' v=top s v:=by
  have:∀ n v,topF s' n v=topF s n v:=by
    intro n
    induction n with
    | zero=>intro v;rfl
    | succ n ih =>
      intro v
      show (match s'.up v with | none=>v | some p=>topF s' n p)=match s.up v with | none=>v | some p=>topF s n p
      rw [hup]
      cases s.up v with
      | none=>rfl
      | some p=>exact ih p
  unfold top;rw [hN];exact this _ _
structure Gs (es:List E) (s:Sv) (Y Mx:Int):Prop where
  K:Ok es s
  L:Lo s Y
  B:Bd s Y Mx
  zo:∀ p,¬ IsRing s p→s.z p=0
  n9:s.n≤9
  m:Mx≤4515050
theorem Gs.sm (G:Gs es s Y Mx) (hN:s.N≤400):Sm s:=by
  have hm:=G.m;have y0:=G.L.y0
  refine ⟨G.n9,hN,fun v hv=>?_,fun p hp=>?_⟩
  · have h1:=G.L.low v hv
    have h2:=G.B.y v hv;omega
  · by_cases c:IsRing s p
    · have h1:=(G.K.z0 p c).1
      have h2:=G.B.z p c;omega
    · rw [G.zo p c];omega
open Classical in
theorem Gs.chg (G:Gs es s Y Mx) (F:Fo es s l rk) (D:Least es s l d) (hf:∃ t,IsTop s t∧s.mate t=none):Gs es (changeS s l d) (Y - d) Mx:=by
  refine ⟨change_ok G.K F D.step,change_lo G.K F G.L D hf,change_bd G.B D.step.d0,fun p hp=>?_,G.n9,G.m⟩
  show (if IsTop s p∧s.n≤p then _ else s.z p)=0;have hp':¬ IsRing s p:=hp
  rw [if_neg fun q=>hp' ⟨q.2,q.1.1,q.1.2.2⟩]
  exact G.zo p hp'
theorem opens_zo {s s':Sv} (h:OpenZ es s s'):(∀ p,¬ IsRing s p→s.z p=0)→∀ p,¬ IsRing s' p→s'.z p=0:=by
  induction h with
  | refl s=>exact id
  | @step s1 s2 B a hB ht hz ha hh _ ih =>
    intro zo
    refine ih fun p hp=>?_
    show s1.z p=0
    by_cases c:IsRing s1 p
    · have:p=B:=by
        by_cases q:p=B
        · exact q
        · exact absurd (ring_open.2 ⟨c,q⟩) hp
      rw [this];exact hz
    · exact zo p c
theorem Gs.rnd {s s':Sv} (G:Gs es s Y Mx) (h:Round es s s'):∃ Y',Gs es s' Y' Mx:=by
  obtain ⟨Y',L',B'⟩:=round_bd G.K G.L G.B h
  have K':Ok es s'∧s'.n=s.n∧∀ p,¬ IsRing s' p→s'.z p=0:=by
    cases h with
    | fold M =>
      rename_i l rk e i k xs ys
      have R:=M.ring G.K
      refine ⟨add_ok G.K R,rfl,fun p hp=>?_⟩
      show (if p=s.N then 0 else s.z p)=0
      by_cases c:p=s.N
      · rw [if_pos c]
      · rw [if_neg c]
        exact G.zo p fun q=>hp (ring_add.2 (.inr q))
    | aug A O =>
      obtain ⟨i1,_,i3,_⟩:=opens_ok O (aug_ok A G.K) (aug_lo A G.K G.L);exact ⟨i1,i3,opens_zo O G.zo⟩
    | change F S D hf hy hz=>exact ⟨(G.chg F D hf).K,rfl,(G.chg F D hf).zo⟩
    | open_ F S D hf hB hn hl hz ha hh =>
      rename_i l rk d B a
      have Gc:=G.chg F D hf;have hBr:IsRing (changeS s l d) B:=⟨hn,hB.1,hB.2.2⟩
      refine ⟨open_ok Gc.K hBr hB.2.1 hz ha hh,rfl,fun p hp=>?_⟩
      show (changeS s l d).z p=0
      by_cases c:p=B
      · rw [c];exact hz
      · exact Gc.zo p fun q=>hp (ring_open.2 ⟨q,c⟩)
  exact ⟨Y',K'.1,L',B',K'.2.2,by rw [K'.2.1];exact G.n9,G.m⟩
theorem Gs.last {s s':Sv} (G:Gs es s Y Mx) (h:Last es s s'):∃ Y',Gs es s' Y' Mx∧Frz s':=by
  obtain ⟨_,f,_,_⟩:=last_ok G.K G.L G.B h
  cases h with
  | none F h=>exact ⟨Y,G,f⟩
  | change F S D hf hy=>exact ⟨_,G.chg F D hf,f⟩
theorem MtOk.chg (m:MtOk es s M) (K:Ok es s):MtOk es (changeS s l d) M:=by
  refine ⟨fun x hx=>?_,fun t e ht he=>m.all t e ht he,m.nd,m.le⟩
  rw [top_change K,top_change K];exact m.of x hx
theorem BsOk.chg {bs:Nat→Nat} (hbs:BsOk s bs):BsOk (changeS s l d) bs:=fun t i ht hm hw hv=>hbs t i ht hm (wi_change.1 hw) (wi_change.1 hv)
end
noncomputable def chY (s:Sv) (l:Lb) (d:Int) (j:Nat):Sv:={ s with y:=fun v=>if v < j then s.y v - sg (l.lab (top s v))*d else s.y v }
open Classical in
noncomputable def chZ (s:Sv) (l:Lb) (d:Int) (p:Nat):Sv:={ s with y:=fun v=>s.y v - sg (l.lab (top s v))*d,z:=fun q=>if IsTop s q∧s.n≤q∧q < p then s.z q+2*(sg (l.lab q)*d) else s.z q }
end Go.Proofs.Ytafhipglhnfgnaa.Ab
