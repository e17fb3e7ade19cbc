/- Joined: S13, S14, S15, S16, S17, K21, K22, K23. No conditions. -/
import Derived.Test.YtafhipglhnfgnaaM12
import Derived.Test.YtafhipglhnfgnaaM11
set_option linter.unusedSimpArgs false
set_option linter.unusedVariables false
set_option linter.unnecessarySimpa false
set_option maxHeartbeats 4000000
namespace Go.Proofs.Ytafhipglhnfgnaa.Ab
open Go.RowKit
theorem flatN_len {f:Nat→List Nat}:∀ {L:List Nat},L.Nodup→(∀ p∈L,(f p).Nodup∧3≤(f p).length)→(∀ p∈L,∀ q∈L,p≠q→∀ x∈f p,¬ x∈f q)→(L.flatMap f).Nodup∧3*L.length≤(L.flatMap f).length
  | [],_,_,_=>⟨List.nodup_nil,Nat.zero_le _⟩
  | p::L,hn,h1,h2=>by
    obtain ⟨n1,n2⟩:=List.nodup_cons.1 hn
    obtain ⟨i1,i2⟩:=flatN_len (L:=L) n2 (fun q hq=>h1 q (List.mem_cons_of_mem _ hq)) fun q hq r hr=>h2 q (List.mem_cons_of_mem _ hq) r (List.mem_cons_of_mem _ hr)
    obtain ⟨j1,j2⟩:=h1 p List.mem_cons_self;rw [List.flatMap_cons]
    refine ⟨List.nodup_append.2 ⟨j1,i1,fun a ha b hb e=>?_⟩,?_⟩
    · subst e
      obtain ⟨q,hq,hx⟩:=List.mem_flatMap.1 hb
      exact h2 p List.mem_cons_self q (List.mem_cons_of_mem _ hq) (fun e=>n1 (by rw [e];exact hq)) a ha hx
    · rw [List.length_append,List.length_cons]
      omega
open Classical in
noncomputable def ringsL (s:Sv):List Nat:=(List.range s.N).filter fun p=>decide (IsRing s p)
open Classical in
noncomputable def freeL (s:Sv):List Nat:=(List.range s.N).filter fun t=>decide (IsTop s t∧s.mate t=none)
section
variable {es:List E} {s s':Sv} {l:Lb} {rk:Nat→Nat} {p t B a j e:Nat} {ms ls xs ys:List Nat} {d:Int}
theorem ringsL_mem:p∈ringsL s↔IsRing s p:=by
  unfold ringsL;simp only [List.mem_filter,List.mem_range,decide_eq_true_eq]
  exact ⟨fun h=>h.2,fun h=>⟨h.2.1,h⟩⟩
theorem freeL_mem:t∈freeL s↔IsTop s t∧s.mate t=none:=by
  unfold freeL;simp only [List.mem_filter,List.mem_range,decide_eq_true_eq]
  exact ⟨fun h=>h.2,fun h=>⟨h.1.1,h⟩⟩
theorem ringsL_nd:(ringsL s).Nodup:=List.Pairwise.filter _ List.nodup_range
theorem freeL_nd:(freeL s).Nodup:=List.Pairwise.filter _ List.nodup_range
theorem rings_le (K:Ok es s):2*(ringsL s).length≤s.n - 1:=by
  by_cases h0:(ringsL s).length=0
  · omega
  have hn:=K.nN
  obtain ⟨f1, f2⟩ := flatN_len (f := s.mem) (L := ringsL s) ringsL_nd (fun p hp => by
      obtain ⟨r1,_,r3,_⟩:=K.ring p (ringsL_mem.1 hp)
      exact ⟨r3,r1⟩) (fun p hp q hq hpq x hx hx2=>by
      have u1:=(K.ring p (ringsL_mem.1 hp)).2.2.2 x hx;have u2:=(K.ring q (ringsL_mem.1 hq)).2.2.2 x hx2;rw [u1] at u2;cases u2
      exact hpq rfl)
  obtain ⟨p0,hp0⟩:∃ p0,p0∈ringsL s:=by
    cases h:ringsL s with
    | nil=>rw [h] at h0;exact absurd rfl h0
    | cons p L=>exact ⟨p,List.mem_cons_self⟩
  have hr0:=ringsL_mem.1 hp0;have tt:=K.topTop hr0.2.1 hr0.2.2
  have live:∀ x,x < s.N→s.gone x=false→x∈List.range s.n++ringsL s:=fun x hx hg=>by
    rcases Nat.lt_or_ge x s.n with q | q
    · exact List.mem_append_left _ (List.mem_range.2 q)
    · exact List.mem_append_right _ (ringsL_mem.2 ⟨q,hx,hg⟩)
  have key := nsub_lt (a := (ringsL s).flatMap s.mem) (b := List.range s.n ++ ringsL s) f1 (fun x hx => by
      obtain ⟨q,hq,hx2⟩:=List.mem_flatMap.1 hx;have hq':=ringsL_mem.1 hq;have hu:=(K.ring q hq').2.2.2 x hx2;obtain ⟨u1,u2,u3,_⟩:=K.up x q hu
      exact live x (by have:=u2.2.1;omega) u3) (y:=top s p0) (live _ tt.1 tt.2.2) (fun hx=>by
      obtain ⟨q,hq,hx2⟩:=List.mem_flatMap.1 hx;have hu:=(K.ring q (ringsL_mem.1 hq)).2.2.2 _ hx2;rw [tt.2.1] at hu
      cases hu)
  rw [List.length_append,List.length_range] at key;omega
theorem mu_le (K:Ok es s):mu s l≤s.n+(ringsL s).length:=by
  unfold mu
  have:=nsub_len (a:=outL s l) (b:=ringsL s) outL_nd fun p hp=>ringsL_mem.2 (outL_mem.1 hp).2.1
  omega
theorem add_count (K:Ok es s) (R:RingOk es s ms ls j):(ringsL s).length+1≤(ringsL (addR s ms ls j)).length∧(freeL (addR s ms ls j)).length≤(freeL s).length:=by
  have hN:=K.nN;obtain ⟨m1,m2⟩:=mate_add R;refine ⟨?_,?_⟩
  · exact nsub_lt ringsL_nd (fun p hp=>ringsL_mem.2 (ring_add.2 (.inr (ringsL_mem.1 hp)))) (y:=s.N) (ringsL_mem.2 (ring_add.2 (.inl ⟨rfl,hN⟩))) fun q=>by have:=(ringsL_mem.1 q).2.1;omega
  · -- the ring for its joint
    have h1:((freeL (addR s ms ls j)).map fun t=>if t=s.N then j else t).Nodup:=by
      refine List.pairwise_map.2 (List.Pairwise.imp_of_mem (fun {x y} hx hy hxy e=>?_) (freeL_nd (s:=addR s ms ls j)))
      have tx:=(top_add K R).1 (freeL_mem.1 hx).1;have ty:=(top_add K R).1 (freeL_mem.1 hy).1
      by_cases q1:x=s.N
      · by_cases q2:y=s.N
        · exact hxy (q1.trans q2.symm)
        · rw [if_pos q1,if_neg q2] at e
          rcases ty with g | g
          · exact q2 g
          · exact g.2 (e ▸ R.jm)
      · by_cases q2:y=s.N
        · rw [if_neg q1,if_pos q2] at e
          rcases tx with g | g
          · exact q1 g
          · exact g.2 (by rw [e];exact R.jm)
        · rw [if_neg q1,if_neg q2] at e
          exact hxy e
    have:=nsub_len (b:=freeL s) h1 fun x hx=>by
      obtain ⟨t,ht,e⟩:=List.mem_map.1 hx;obtain ⟨t1,t2⟩:=freeL_mem.1 ht;subst e
      by_cases q:t=s.N
      · rw [if_pos q]
        rw [q,m1] at t2;exact freeL_mem.2 ⟨R.top _ R.jm,t2⟩
      · rw [if_neg q]
        rcases (top_add K R).1 t1 with g | g
        · exact absurd g q
        · rw [m2 t q g.2] at t2
          exact freeL_mem.2 ⟨g.1,t2⟩
    rw [List.length_map] at this;exact this
theorem open_count (K:Ok es s) (hB:IsRing s B) (ht:s.up B=none) (ha:a < (s.mem B).length):(ringsL s).length≤(ringsL (openS s B a)).length+1∧(freeL (openS s B a)).length≤(freeL s).length∧(ringsL (openS s B a)).length < (ringsL s).length:=by
  have K0:=K.ok0;refine ⟨?_,?_,?_⟩
  · have:=nsub_len (a:=ringsL s) (b:=B::ringsL (openS s B a)) ringsL_nd fun p hp=>by
      by_cases q:p=B
      · rw [q];exact List.mem_cons_self
      · exact List.mem_cons_of_mem _ (ringsL_mem.2 (ring_open.2 ⟨ringsL_mem.1 hp,q⟩))
    rw [List.length_cons] at this;exact this
  · have hBm:¬ B∈s.mem B:=fun q=>by have:=(K0.memUp hB q).2.1;omega
    have one:∀ t,t∈s.mem B→(openS s B a).mate t=none→t=(s.mem B).getD a 0∧s.mate B=none:=fun t hm h=>by
      obtain ⟨g1,g2⟩:=idx_get hm;have:=mate_mem (a:=a) K0 hB g1;rw [g2,h] at this;unfold opM at this;split at this
      · next d0 =>
        have hqa:(s.mem B).idxOf t=a:=by unfold dst at d0;split at d0<;>omega
        exact ⟨by rw [← hqa,g2],this.symm⟩
      · split at this<;>cases this
    have h1:((freeL (openS s B a)).map fun t=>if t∈s.mem B then B else t).Nodup:=by
      refine List.pairwise_map.2 (List.Pairwise.imp_of_mem (fun {x y} hx hy hxy e=>?_) (freeL_nd (s:=openS s B a)))
      obtain ⟨x1,x2⟩:=freeL_mem.1 hx;obtain ⟨y1,y2⟩:=freeL_mem.1 hy
      by_cases q1:x∈s.mem B
      · by_cases q2:y∈s.mem B
        · exact hxy ((one x q1 x2).1.trans (one y q2 y2).1.symm)
        · rw [if_pos q1,if_neg q2] at e
          rcases (top_open K0 hB).1 y1 with g | g
          · exact g.2 e.symm
          · exact q2 g
      · by_cases q2:y∈s.mem B
        · rw [if_neg q1,if_pos q2] at e
          rcases (top_open K0 hB).1 x1 with g | g
          · exact g.2 e
          · exact q1 g
        · rw [if_neg q1,if_neg q2] at e
          exact hxy e
    have:=nsub_len (b:=freeL s) h1 fun x hx=>by
      obtain ⟨t,htt,e⟩:=List.mem_map.1 hx;obtain ⟨t1,t2⟩:=freeL_mem.1 htt;subst e
      by_cases q:t∈s.mem B
      · rw [if_pos q]
        exact freeL_mem.2 ⟨⟨hB.2.1,ht,hB.2.2⟩,(one t q t2).2⟩
      · rw [if_neg q]
        rcases (top_open K0 hB).1 t1 with g | g
        · have:(openS s B a).mate t=s.mate t:=by simp only [openS];rw [if_neg q]
          rw [this] at t2;exact freeL_mem.2 ⟨g.1,t2⟩
        · exact absurd g q
    rw [List.length_map] at this;exact this
  · exact nsub_lt ringsL_nd (fun p hp=>ringsL_mem.2 (ring_open.1 (ringsL_mem.1 hp)).1) (y:=B) (ringsL_mem.2 hB) fun q=>(ring_open.1 (ringsL_mem.1 q)).2 rfl
theorem aug_count (A:Aug es s l rk e xs ys) (K:Ok es s):(freeL (mateS s (augF s l e xs ys))).length < (freeL s).length:=by
  obtain ⟨r,h1,h2,h3⟩:=aug_root A K
  refine nsub_lt freeL_nd (fun t ht=>?_) (y:=r) (freeL_mem.2 ⟨h1,h2⟩) fun q=>?_
  · obtain ⟨t1,t2⟩:=freeL_mem.1 ht
    exact freeL_mem.2 ⟨t1,(aug_free A K t2).1⟩
  · have:=(freeL_mem.1 q).2
    have this':augF s l e xs ys r=none:=this;rw [this'] at h3;cases h3
end
end Go.Proofs.Ytafhipglhnfgnaa.Ab
set_option linter.unusedSimpArgs false
set_option linter.unusedVariables false
set_option linter.unnecessarySimpa false
set_option maxHeartbeats 4000000
namespace Go.Proofs.Ytafhipglhnfgnaa.Ab
open Go.RowKit
inductive OpenZ (es:List E):Sv→Sv→Prop
  | refl (s:Sv):OpenZ es s s
  | step {s s':Sv} {B a:Nat} (hB:IsRing s B) (ht:s.up B=none) (hz:s.z B=0) (ha:a < (s.mem B).length) (hh:Hold es s B ((s.mem B).getD a 0)) (h:OpenZ es (openS s B a) s'):OpenZ es s s'
inductive Round (es:List E):Sv→Sv→Prop
  | fold {s:Sv} {l:Lb} {rk:Nat→Nat} {e i k:Nat} {xs ys:List Nat} (M:Meet es s l rk e xs ys i k):Round es s (addR s (ringM xs ys i k) (ringL l e xs ys i k) (xs.getD i 0))
  | aug {s s':Sv} {l:Lb} {rk:Nat→Nat} {e:Nat} {xs ys:List Nat} (A:Aug es s l rk e xs ys) (O:OpenZ es (mateS s (augF s l e xs ys)) s'):Round es s s'
  | change {s:Sv} {l:Lb} {rk:Nat→Nat} {d:Int} (F:Fo es s l rk) (S:Stuck es s l) (D:Least es s l d) (hf:∃ t,IsTop s t∧s.mate t=none) (hy:¬ ∃ v,v < s.n∧l.lab (top s v)=1∧s.y v=d) (hz:∀ p,IsTop s p→s.n≤p→l.lab p=2→(changeS s l d).z p≠0):Round es s (changeS s l d)
  | open_ {s:Sv} {l:Lb} {rk:Nat→Nat} {d:Int} {B a:Nat} (F:Fo es s l rk) (S:Stuck es s l) (D:Least es s l d) (hf:∃ t,IsTop s t∧s.mate t=none) (hB:IsTop s B) (hn:s.n≤B) (hl:l.lab B=2) (hz:(changeS s l d).z B=0) (ha:a < (s.mem B).length) (hh:Hold es (changeS s l d) B ((s.mem B).getD a 0)):Round es s (openS (changeS s l d) B a)
structure Inv (es:List E) (s:Sv) (Y:Int) (b:Nat):Prop where
  K:Ok es s
  L:Lo s Y
  n9:s.n≤9
  bnd:∀ s' l' rk',Folds es s s'→Fo es s' l' rk'→Stuck es s' l'→mu s' l' < b
noncomputable def pot (s:Sv) (b:Nat):Nat:=33*(freeL s).length+2*b+(4 - (ringsL s).length)
section
variable {es:List E} {s s':Sv} {Y:Int} {b:Nat}
theorem opens_ok (h:OpenZ es s s'):Ok es s→Lo s Y→Ok es s'∧Lo s' Y∧s'.n=s.n∧(freeL s').length≤(freeL s).length:=by
  induction h with
  | refl s=>exact fun K L=>⟨K,L,rfl,Nat.le_refl _⟩
  | step hB ht hz ha hh _ ih =>
    intro K L;have K1:=open_ok K hB ht hz ha hh;obtain ⟨i1,i2,i3,i4⟩:=ih K1 (open_lo K L hB ht ha hh);exact ⟨i1,i2,i3,Nat.le_trans i4 (open_count K hB ht ha).2.1⟩
theorem mu14 (K:Ok es s) (h9:s.n≤9) {l:Lb}:mu s l < 14:=by
  have h1:=mu_le (l:=l) K;have h2:=rings_le K;omega
theorem folds_n {s s':Sv} (h:Folds es s s') (K:Ok es s):s'.n=s.n:=(folds_ok h K).2.n
theorem add_lo {ms ls:List Nat} {j:Nat} (K:Ok es s) (R:RingOk es s ms ls j) (L:Lo s Y):Lo (addR s ms ls j) Y:=by
  obtain ⟨m1,m2⟩:=mate_add R
  refine ⟨fun t ht hm=>?_,L.low,L.y0⟩
  show s.y ((addR s ms ls j).base t)=Y;rcases (top_add K R).1 ht with q | ⟨q,hn⟩
  · subst q
    have e:(addR s ms ls j).base s.N=s.base j:=by simp [addR]
    rw [e];rw [m1] at hm;exact L.free j (R.top _ R.jm) hm
  · have hne:t≠s.N:=by have:=q.1;omega
    have e:(addR s ms ls j).base t=s.base t:=by simp [addR,hne]
    rw [e];rw [m2 t hne hn] at hm;exact L.free t q hm
theorem round_less (I:Inv es s Y b) (h:Round es s s'):∃ Y' b',Inv es s' Y' b'∧s'.n=s.n∧pot s' b' < pot s b:=by
  cases h with
  | fold M =>
    rename_i l rk e i k xs ys
    have R:=M.ring I.K;have K1:=add_ok I.K R;obtain ⟨c1,c2⟩:=add_count I.K R;have r1:=rings_le K1;have n1:(addR s (ringM xs ys i k) (ringL l e xs ys i k) (xs.getD i 0)).n=s.n:=rfl;have h9:=I.n9
    refine ⟨Y,b,⟨K1,add_lo I.K R I.L,h9,fun s2 l2 rk2 H F S=>I.bnd s2 l2 rk2 (.step M H) F S⟩,rfl,?_⟩
    unfold pot;rw [n1] at r1;omega
  | aug A O =>
    rename_i l rk e xs ys
    have K1:=aug_ok A I.K;obtain ⟨i1,i2,i3,i4⟩:=opens_ok O K1 (aug_lo A I.K I.L);have c:=aug_count A I.K;have e3:s'.n=s.n:=i3
    have h9:s'.n≤9:=by have:=I.n9;omega
    refine ⟨Y,14,⟨i1,i2,h9,fun s2 l2 rk2 H F S=>mu14 (folds_ok H i1).1 (by rw [folds_n H i1];exact h9)⟩,e3,?_⟩
    unfold pot;omega
  | change F S D hf hy hz =>
    rename_i l rk d
    have hmu:=I.bnd s l rk (.refl s) F S
    refine ⟨_,mu s l,⟨change_ok I.K F D.step,change_lo I.K F I.L D hf,I.n9,fun s2 l2 rk2 H F2 S2=>?_⟩,rfl,?_⟩
    · rcases D.by_ with q | ⟨e,h1,h2,h3⟩ | ⟨p,h1,h2,h3,h4⟩
      · exact absurd q hy
      · exact phase_edge I.K F D.step H F2 S2 h1 h2 h3
      · exfalso
        refine hz p h1 h2 h3 ?_;have:(changeS s l d).z p=s.z p+2*(sg (l.lab p)*d):=if_pos ⟨h1,h2⟩;rw [this,h3,sg2,h4];omega
    · have e1:freeL (changeS s l d)=freeL s:=rfl
      have e2:ringsL (changeS s l d)=ringsL s:=rfl;unfold pot;rw [e1,e2];omega
  | open_ F S D hf hB hn hl hz ha hh =>
    rename_i l rk d B a
    have hmu:=I.bnd s l rk (.refl s) F S;have Kc:=change_ok I.K F D.step;have hBr:IsRing (changeS s l d) B:=⟨hn,hB.1,hB.2.2⟩;have hut:(changeS s l d).up B=none:=hB.2.1;have K1:=open_ok (a:=a) Kc hBr hut hz ha hh
    refine ⟨_,mu s l,⟨K1,open_lo Kc (change_lo I.K F I.L D hf) hBr hut ha hh,I.n9,fun s2 l2 rk2 H F2 S2=>(phase_open I.K F D.step hB hn hl hz ha hh H F2 S2).2⟩,rfl,?_⟩
    obtain ⟨c1,c2,c3⟩:=open_count (a:=a) Kc hBr hut ha;have e1:freeL (changeS s l d)=freeL s:=rfl;have e2:ringsL (changeS s l d)=ringsL s:=rfl;rw [e2] at c1 c3;rw [e1] at c2;unfold pot;omega
inductive Rounds (es:List E):Nat→Sv→Sv→Prop
  | zero (s:Sv):Rounds es 0 s s
  | succ {k:Nat} {s s1 s':Sv} (h:Round es s s1) (t:Rounds es k s1 s'):Rounds es (k+1) s s'
theorem rnds_le {k:Nat} (h:Rounds es k s s'):∀ {Y b},Inv es s Y b→k≤pot s b∧∃ Y' b',Inv es s' Y' b'∧s'.n=s.n:=by
  induction h with
  | zero s=>exact fun I=>⟨Nat.zero_le _,_,_,I,rfl⟩
  | succ h _ ih =>
    intro Y b I;obtain ⟨Y1,b1,I1,h1,h2⟩:=round_less I h;obtain ⟨h3,Y2,b2,I2,h4⟩:=ih I1
    exact ⟨by omega,Y2,b2,I2,h4.trans h1⟩
end
def startS (n:Nat) (y:Int):Sv where
  n:=n
  N:=n
  y:=fun _=>y
  up:=fun _=>none
  mem:=fun _=>[]
  lnk:=fun _=>[]
  mate:=fun _=>none
  base:=fun v=>v
  z:=fun _=>0
  gone:=fun _=>false
section
variable {es:List E} {n:Nat} {y:Int}
theorem start_ring {p:Nat}:¬ IsRing (startS n y) p:=fun h=>by
  have h1:n≤p:=h.1;have h2:p < n:=h.2.1;omega
theorem start_slk {e:Nat}:slk es (startS n y) e=2*y - 2*vW es e:=by
  unfold slk
  have:zSum (startS n y) (vA es e) (vB es e) (startS n y).N=0:=zSum_zero fun p hp hn _=>by
    have h1:n≤p:=hn;have h2:p < n:=hp;omega
  rw [this];show y+y - 2*vW es e+0=_;omega
theorem start_inv (h9:n≤9) (hed:∀ e,e < es.length→vA es e < n∧vB es e < n∧vA es e≠vB es e) (hy:∀ e,e < es.length→vW es e≤y) (y0:0≤y):Inv es (startS n y) y 14:=by
  have K:Ok es (startS n y):=by
    refine ⟨Nat.le_refl n,hed,fun v p h=>(by cases h),fun p h=>absurd h start_ring,fun p h=>absurd h start_ring,fun p h=>(by cases h),fun t e _ h=>(by cases h),fun t h _=>⟨h,.refl _⟩,fun p h=>absurd h start_ring,fun e he=>?_,fun p h=>absurd h start_ring,fun p u v h=>absurd h start_ring⟩
    rw [start_slk];have:=hy e he;omega
  exact ⟨K,⟨fun t _ _=>rfl,fun v _=>Int.le_refl _,y0⟩,h9,fun s' l' rk' H F S=>mu14 (folds_ok H K).1 (by rw [folds_n H K];exact h9)⟩
theorem start_pot (h9:n≤9):pot (startS n y) 14≤329:=by
  unfold pot
  have h1:(freeL (startS n y)).length≤n:=by
    have h2:=nsub_len (b:=List.range n) (freeL_nd (s:=startS n y)) fun t ht=>List.mem_range.2 (freeL_mem.1 ht).1.1
    rw [List.length_range] at h2;exact h2
  omega
theorem run_short (h9:n≤9) (hed:∀ e,e < es.length→vA es e < n∧vB es e < n∧vA es e≠vB es e) (hy:∀ e,e < es.length→vW es e≤y) (y0:0≤y) {k:Nat} {s:Sv} (h:Rounds es k (startS n y) s):k≤329 :=
  Nat.le_trans (rnds_le h (start_inv h9 hed hy y0)).1 (start_pot h9)
end
end Go.Proofs.Ytafhipglhnfgnaa.Ab
set_option linter.unusedSimpArgs false
set_option linter.unusedVariables false
set_option linter.unnecessarySimpa false
set_option maxHeartbeats 4000000
namespace Go.Proofs.Ytafhipglhnfgnaa.Ab
open Go.RowKit
inductive OpenAll (es:List E):Sv→Sv→Prop
  | done (s:Sv) (h:∀ p,¬ IsRing s p):OpenAll es s s
  | step {s s':Sv} {B a:Nat} (hB:IsRing s B) (ht:s.up B=none) (ha:a < (s.mem B).length) (hh:Hold es s B ((s.mem B).getD a 0)) (h:OpenAll es (openS s B a) s'):OpenAll es s s'
def Cl (es:List E) (s:Sv) (m:Nat→Option Nat):Prop:=∀ p,p < s.N→s.gone p=false→∃ x,x < s.n∧Wi s x p∧(IsTop s p→m x=s.mate p∧∀ e,s.mate p=some e→vA es e=x∨vB es e=x) ∧
  (∀ e,m x=some e→¬ (Wi s (vA es e) p∧Wi s (vB es e) p))∧∀ v,v < s.n→Wi s v p→v≠x→∃ e,m v=some e∧e < es.length∧(vA es e=v∨vB es e=v)∧Wi s (vA es e) p∧Wi s (vB es e) p
section
variable {es:List E} {T:Nat→Prop} {s s':Sv} {B a p t v x:Nat}
theorem Ok0.vertex (K:Ok0 es T s) (hp:p < s.n) (h:Wi s x p):x=p:=by
  rcases h.last with e | ⟨m,e,_⟩
  · exact e
  · have:=(K.up _ _ e).2.1.1;omega
theorem openAll_ok {s s':Sv} (h:OpenAll es s s'):Ok0 es T s→Ok0 es T s'∧s'.n=s.n∧(∀ p,¬ IsRing s' p)∧Cl es s s'.mate:=by
  induction h with
  | done s h =>
    intro K
    refine ⟨K,rfl,h,fun p hp hg=>?_⟩
    have hpn:p < s.n:=by
      rcases Nat.lt_or_ge p s.n with q | q
      · exact q
      · exact absurd ⟨q,hp,hg⟩ (h p)
    refine ⟨p,hpn,.refl _,fun ht=>⟨rfl,fun e he=>?_⟩,fun e he q=>?_,fun v _ hw hne=>absurd (K.vertex hpn hw) hne⟩
    · obtain ⟨_,o,_,_,_,h5⟩:=K.mate p e ht he
      rcases h5.2 with ⟨q,_⟩ | ⟨q,_⟩
      · exact .inl (K.vertex hpn q)
      · exact .inr (K.vertex hpn q)
    · have ht:IsTop s p:=⟨hp,by
        cases hu:s.up p with
        | none=>rfl
        | some r=>exact absurd (K.up p r hu).2.1 (h r),hg⟩
      obtain ⟨_,o,_,_,_,h5⟩:=K.mate p e ht he;have:=(K.ed e h5.1).2.2;exact this ((K.vertex hpn q.1).trans (K.vertex hpn q.2).symm)
  | step hB ht ha hh h ih =>
    intro K
    rename_i s s' B a
    have K1:=open_ok0 K hB ht ha hh;obtain ⟨i1,i2,i3,i4⟩:=ih K1
    refine ⟨i1,i2,i3,fun p hp hg=>?_⟩
    have hn:=K.nN;have hBn:=hB.1
    have up1:∀ {v q},q≠B→(Wi (openS s B a) v q↔Wi s v q):=fun {v q} hq=>by
      rw [wi_open K hB ht]
      exact ⟨fun k=>k.1,fun k=>⟨k,fun e=>absurd e hq⟩⟩
    by_cases q:p=B
    · subst q
      obtain ⟨r1,r2,r3,r4⟩:=K.ring p hB;obtain ⟨k1,k2⟩:=K.lnk p hB
      have memNe:∀ q,q < (s.mem p).length→(s.mem p).getD q 0≠p:=fun q hq e=>by
        have:=(K.memUp hB (getD_mem0 hq)).2.1;rw [e] at this;omega
      have memW:∀ q,q < (s.mem p).length→Wi s ((s.mem p).getD q 0) p:=fun q hq=>.one (K.memUp hB (getD_mem0 hq)).1
      have cl:∀ q,q < (s.mem p).length→∃ x,x < s.n∧Wi s x ((s.mem p).getD q 0)∧(s'.mate x=opM s p a q∧∀ e,opM s p a q=some e→vA es e=x∨vB es e=x)∧∀ v,v < s.n→Wi s v ((s.mem p).getD q 0)→v≠x→∃ e,s'.mate v=some e∧e < es.length∧(vA es e=v∨vB es e=v)∧Wi s (vA es e) ((s.mem p).getD q 0)∧Wi s (vB es e) ((s.mem p).getD q 0):=fun q hq=>by
        have hm:=getD_mem0 hq;obtain ⟨m1,m2,m3,m4⟩:=K.memUp hB hm
        have hg1:(openS s p a).gone ((s.mem p).getD q 0)=false:=by simp only [openS];rw [if_neg (memNe q hq)];exact m4
        obtain ⟨x,x1,x2,x3,_,x5⟩:=i4 _ m3 hg1;have x3':=x3 ((top_open K hB).2 (.inr hm));rw [mate_mem K hB hq] at x3'
        refine ⟨x,x1,(up1 (memNe q hq)).1 x2,x3',fun v hv hw hne=>?_⟩
        obtain ⟨e,e1,e2,e3,e4,e5⟩:=x5 v hv ((up1 (memNe q hq)).2 hw) hne;exact ⟨e,e1,e2,e3,(up1 (memNe q hq)).1 e4,(up1 (memNe q hq)).1 e5⟩
      obtain ⟨x,x1,x2,⟨x3,x4⟩,x5⟩:=cl a ha
      have hopa:opM s p a a=s.mate p:=by unfold opM dst;rw [if_pos (Nat.le_refl _),Nat.sub_self,if_pos rfl]
      rw [hopa] at x3 x4;have hBT:IsTop s p:=⟨hp,ht,hg⟩
      refine ⟨x,x1,x2.trans (memW a ha),fun _=>⟨x3,x4⟩,fun e he qq=>?_,fun v hv hw hne=>?_⟩
      · rw [x3] at he
        obtain ⟨_,o,h2,h3,_,h5⟩:=K.mate p e hBT he;rcases h5.2 with ⟨_,g⟩ | ⟨_,g⟩
        · have e1:=top_of K.upOk qq.2 ht
          have e2:=top_of K.upOk g h2.2.1;exact h3 (e2.symm.trans e1)
        · have e1:=top_of K.upOk qq.1 ht
          have e2:=top_of K.upOk g h2.2.1;exact h3 (e2.symm.trans e1)
      · have:∃ q,q < (s.mem p).length∧Wi s v ((s.mem p).getD q 0):=by
          rcases hw.last with e1 | ⟨m,h1,h2⟩
          · omega
          · obtain ⟨q,h3,h4⟩:=mem_getD (d:=0) (K.up m p h1).2.2.2
            exact ⟨q,h3,by rw [h4];exact h2⟩
        obtain ⟨q,hq,hwq⟩:=this;obtain ⟨z,z1,z2,⟨z3,z4⟩,z5⟩:=cl q hq
        by_cases vz:v=z
        · subst vz
          have hqa:q≠a:=fun e=>by
            subst e
            by_cases hvx:v=x
            · exact hne hvx
            · obtain ⟨e,e1,e2,e3,e4,e5⟩:=x5 v hv hwq hvx
              rw [z3,hopa] at e1;obtain ⟨_,o,h2,h3,_,h5⟩:=K.mate p e hBT e1;rcases h5.2 with ⟨_,g⟩ | ⟨_,g⟩
              · exact h3 ((top_of K.upOk g h2.2.1).symm.trans (top_of K.upOk (e5.trans (memW q hq)) ht))
              · exact h3 ((top_of K.upOk g h2.2.1).symm.trans (top_of K.upOk (e4.trans (memW q hq)) ht))
          have d0:dst (s.mem p).length a q≠0:=fun d=>hqa (by unfold dst at d;split at d<;>omega)
          have lk:∀ j,j < (s.mem p).length→(s.lnk p).getD j 0 < es.length∧Wi s (vA es ((s.lnk p).getD j 0)) p∧Wi s (vB es ((s.lnk p).getD j 0)) p:=fun j hj=>by
            obtain ⟨l1,_⟩:=k2 j hj;have w1:=memW j hj
            have w2:=memW ((j+1)%(s.mem p).length) (Nat.mod_lt _ (by omega))
            rcases l1.2 with ⟨g1,g2⟩ | ⟨g1,g2⟩
            · exact ⟨l1.1,g1.trans w1,g2.trans w2⟩
            · exact ⟨l1.1,g2.trans w2,g1.trans w1⟩
          have hpv:pv (s.mem p).length q < (s.mem p).length:=by unfold pv;split<;>omega
          unfold opM at z3 z4;rw [if_neg d0] at z3 z4
          by_cases d1:dst (s.mem p).length a q%2=1
          · rw [if_pos d1] at z3 z4
            obtain ⟨g1,g2,g3⟩:=lk q hq;exact ⟨_,z3,g1,z4 _ rfl,g2,g3⟩
          · rw [if_neg d1] at z3 z4
            obtain ⟨g1,g2,g3⟩:=lk _ hpv;exact ⟨_,z3,g1,z4 _ rfl,g2,g3⟩
        · obtain ⟨e,e1,e2,e3,e4,e5⟩:=z5 v hv hwq vz
          exact ⟨e,e1,e2,e3,e4.trans (memW q hq),e5.trans (memW q hq)⟩
    · have hg1:(openS s B a).gone p=false:=by simp only [openS];rw [if_neg q];exact hg
      obtain ⟨x,x1,x2,x3,x4,x5⟩:=i4 p hp hg1
      refine ⟨x,x1,(up1 q).1 x2,fun hT=>?_,fun e he k=>x4 e he ⟨(up1 q).2 k.1,(up1 q).2 k.2⟩,fun v hv hw hne=>?_⟩
      · have hT1:IsTop (openS s B a) p:=(top_open K hB).2 (.inl ⟨hT,q⟩)
        have:=x3 hT1
        have nm:¬ p∈s.mem B:=fun k=>by have:=(K.memUp hB k).1;rw [hT.2.1] at this;cases this
        have hm:(openS s B a).mate p=s.mate p:=by simp only [openS];rw [if_neg nm]
        rw [hm] at this;exact this
      · obtain ⟨e,e1,e2,e3,e4,e5⟩:=x5 v hv ((up1 q).2 hw) hne
        exact ⟨e,e1,e2,e3,(up1 q).1 e4,(up1 q).1 e5⟩
end
end Go.Proofs.Ytafhipglhnfgnaa.Ab
set_option linter.unusedSimpArgs false
set_option linter.unusedVariables false
set_option linter.unnecessarySimpa false
set_option maxHeartbeats 4000000
namespace Go.Proofs.Ytafhipglhnfgnaa.Ab
open Go.RowKit
def SI (f:Nat→Int):Nat→Int
  | 0=>0
  | k+1=>SI f k+f k
theorem SI_congr {f g:Nat→Int}:∀ {k},(∀ i,i < k→f i=g i)→SI f k=SI g k
  | 0,_=>rfl
  | k+1,h=>by
    unfold SI
    rw [SI_congr fun i hi=>h i (by omega),h k (by omega)]
theorem SI_add {f g:Nat→Int}:∀ {k},SI (fun i=>f i+g i) k=SI f k+SI g k
  | 0=>rfl
  | k+1=>by
    unfold SI;rw [SI_add];omega
theorem SI_zero:∀ {k},SI (fun _=>0) k=0
  | 0=>rfl
  | k+1=>by
    unfold SI;rw [SI_zero];rfl
theorem SI_mul {f:Nat→Int} {c:Int}:∀ {k},SI (fun i=>c*f i) k=c*SI f k
  | 0=>by simp [SI]
  | k+1=>by
    unfold SI;rw [SI_mul,Int.mul_add]
theorem SI_swap {f:Nat→Nat→Int}:∀ {k n},SI (fun i=>SI (f i) n) k=SI (fun j=>SI (fun i=>f i j) k) n
  | 0,n=>by
    have:(fun j=>SI (fun i=>f i j) 0)=fun _:Nat=>(0:Int):=rfl
    rw [this,SI_zero];rfl
  | k+1,n=>by
    have:(fun j=>SI (fun i=>f i j) (k+1))=fun j=>SI (fun i=>f i j) k+f k j:=rfl
    rw [this,SI_add]
    show SI (fun i=>SI (f i) n) k+SI (f k) n=_
    rw [SI_swap]
theorem SI_one {f:Nat→Int} {a:Nat}:∀ {k},a < k→(∀ i,i < k→i≠a→f i=0)→SI f k=f a
  | 0,h,_=>by omega
  | k+1,h,hf=>by
    unfold SI
    by_cases e:a=k
    · subst e
      have:SI f a=0:=by rw [SI_congr (g:=fun _=>0) fun i hi=>hf i (by omega) (by omega),SI_zero]
      omega
    · rw [SI_one (show a < k by omega) fun i hi=>hf i (by omega),hf k (by omega) (by omega)]
      omega
theorem SI_two {f:Nat→Int} {a b k:Nat} (ha:a < k) (hb:b < k) (hab:a≠b) (hf:∀ i,i < k→i≠a→i≠b→f i=0):SI f k=f a+f b:=by
  have h1:SI f k=SI (fun i=>if i=a then f a else 0) k+SI (fun i=>if i=a then 0 else f i) k:=by
    rw [← SI_add]
    refine SI_congr fun i _=>?_
    by_cases e:i=a
    · subst e;simp
    · simp [e]
  rw [h1,SI_one (a:=a) ha fun i _ hi=>if_neg hi,SI_one (a:=b) hb fun i hi hne=>?_]
  · simp [Ne.symm hab]
  · by_cases e:i=a
    · simp [e]
    · simp only [if_neg e];exact hf i hi e hne
structure Pm (es:List E) (n:Nat) (m:Nat→Option Nat):Prop where
  ed:∀ e,e < es.length→vA es e < n∧vB es e < n∧vA es e≠vB es e
  of:∀ v e,v < n→m v=some e→e < es.length∧m (vA es e)=some e∧m (vB es e)=some e∧(vA es e=v∨vB es e=v)
section
variable {es:List E} {s s':Sv} {n:Nat} {m:Nat→Option Nat} {v e p:Nat} {Y:Int}
open Classical in
theorem pm_sum (H:Pm es n m) (φ:Nat→Int):SI (fun v=>if (m v).isSome=true then φ v else 0) n=SI (fun e=>if m (vA es e)=some e then φ (vA es e)+φ (vB es e) else 0) es.length:=by
  have h1:SI (fun v=>if (m v).isSome=true then φ v else 0) n=SI (fun v=>SI (fun e=>if m v=some e then φ v else 0) es.length) n:=by
    refine SI_congr fun v hv=>?_
    cases hm:m v with
    | none =>
      have:(fun e=>if (none:Option Nat)=some e then φ v else 0)=fun _=>(0:Int):=by funext e;simp
      rw [this,SI_zero];simp
    | some e =>
      have he:=(H.of v e hv hm).1
      rw [SI_one (a:=e) he fun i _ hi=>if_neg fun q=>hi (Option.some.inj q).symm]
      simp
  rw [h1,SI_swap]
  refine SI_congr fun e he=>?_
  obtain ⟨a1,a2,a3⟩:=H.ed e he
  by_cases c:m (vA es e)=some e
  · rw [if_pos c]
    obtain ⟨_,_,c2,_⟩:=H.of _ e a1 c
    rw [SI_two (a:=vA es e) (b:=vB es e) a1 a2 a3 fun v hv h2 h3=>if_neg fun q=>by
      rcases (H.of v e hv q).2.2.2 with g | g
      · exact h2 g.symm
      · exact h3 g.symm]
    rw [if_pos c,if_pos c2]
  · rw [if_neg c]
    rw [SI_congr (g:=fun _=>0) fun v hv=>if_neg fun q=>c (H.of v e hv q).2.1,SI_zero]
open Classical in
noncomputable def vcnt (s:Sv) (p:Nat):Int:=SI (fun v=>if Wi s v p then 1 else 0) s.n
open Classical in
noncomputable def ecnt (es:List E) (s:Sv) (m:Nat→Option Nat) (p:Nat):Int:=SI (fun e=>if m (vA es e)=some e∧Wi s (vA es e) p∧Wi s (vB es e) p then 1 else 0) es.length
open Classical in
theorem cnt_odd (H:Pm es s.n m) (C:Cl es s m) (hp:p < s.N) (hg:s.gone p=false):vcnt s p=2*ecnt es s m p+1:=by
  obtain ⟨x,x1,x2,_,x4,x5⟩:=C p hp hg
  have h1:=pm_sum H fun v=>if ∃ e,m v=some e∧Wi s (vA es e) p∧Wi s (vB es e) p then 1 else 0
  have h2:SI (fun e=>if m (vA es e)=some e then (if ∃ e',m (vA es e)=some e'∧Wi s (vA es e') p∧Wi s (vB es e') p then (1:Int) else 0)+(if ∃ e',m (vB es e)=some e'∧Wi s (vA es e') p∧Wi s (vB es e') p then 1 else 0) else 0) es.length=2*ecnt es s m p:=by
    unfold ecnt;rw [← SI_mul]
    refine SI_congr fun e he=>?_
    by_cases c:m (vA es e)=some e
    · obtain ⟨_,_,c2,_⟩:=H.of _ e (H.ed e he).1 c
      rw [if_pos c]
      by_cases w:Wi s (vA es e) p∧Wi s (vB es e) p
      · rw [if_pos ⟨e,c,w⟩,if_pos ⟨e,c2,w⟩,if_pos ⟨c,w⟩];omega
      · rw [if_neg (fun q=>by obtain ⟨e',q1,q2⟩:=q;rw [c] at q1;cases q1;exact w q2),if_neg (fun q=>by obtain ⟨e',q1,q2⟩:=q;rw [c2] at q1;cases q1;exact w q2),if_neg (fun q=>w q.2)];omega
    · rw [if_neg c,if_neg (fun q=>c q.1)];omega
  have h3:SI (fun v=>if (m v).isSome=true then (if ∃ e,m v=some e∧Wi s (vA es e) p∧Wi s (vB es e) p then (1:Int) else 0) else 0) s.n+1=vcnt s p:=by
    have e1:(1:Int)=SI (fun v=>if v=x then 1 else 0) s.n:=by
      rw [SI_one (a:=x) x1 fun i _ hi=>if_neg hi,if_pos rfl]
    unfold vcnt
    refine (congrArg (_+·) e1).trans ?_
    show _+SI (fun v=>if v=x then 1 else 0) s.n=_
    rw [← SI_add]
    refine SI_congr fun v hv=>?_
    by_cases q:v=x
    · subst q
      rw [if_pos rfl,if_pos x2]
      rw [if_neg (show ¬ ∃ e,m v=some e∧Wi s (vA es e) p∧Wi s (vB es e) p from fun q=>by obtain ⟨e,q1,q2⟩:=q;exact x4 e q1 q2)]
      split<;>omega
    · rw [if_neg q]
      by_cases w:Wi s v p
      · obtain ⟨e,e1,e2,e3,e4,e5⟩:=x5 v hv w q
        rw [if_pos w,if_pos (show (m v).isSome=true by rw [e1];rfl),if_pos (show ∃ e,m v=some e∧Wi s (vA es e) p∧Wi s (vB es e) p from ⟨e,e1,e4,e5⟩)];omega
      · rw [if_neg w]
        rw [if_neg (show ¬ ∃ e,m v=some e∧Wi s (vA es e) p∧Wi s (vB es e) p from fun k=>by
          obtain ⟨e,q1,q2⟩:=k;rcases (H.of v e hv q1).2.2.2 with g | g
          · exact w (by rw [← g];exact q2.1)
          · exact w (by rw [← g];exact q2.2))]
        split<;>omega
  rw [h1,h2] at h3;omega
theorem pm_of {T:Nat→Prop} (K:Ok0 es T s') (hr:∀ p,¬ IsRing s' p):Pm es s'.n s'.mate∧∀ v e,v < s'.n→s'.mate v=some e→T e:=by
  have tv:∀ v,v < s'.n→IsTop s' v:=fun v hv=>⟨Nat.lt_of_lt_of_le hv K.nN,by
    cases hu:s'.up v with
    | none=>rfl
    | some r=>exact absurd (K.up v r hu).2.1 (hr r),by
    cases hg:s'.gone v with
    | false=>rfl
    | true=>have:=(K.gone v hg).1;omega⟩
  have all:∀ v e,v < s'.n→s'.mate v=some e→T e∧e < es.length∧s'.mate (vA es e)=some e∧s'.mate (vB es e)=some e∧(vA es e=v∨vB es e=v):=fun v e hv hm=>by
    obtain ⟨h1,o,h2,h3,h4,h5⟩:=K.mate v e (tv v hv) hm
    have on:o < s'.n:=by
      rcases Nat.lt_or_ge o s'.n with q | q
      · exact q
      · exact absurd ⟨q,h2.1,h2.2.2⟩ (hr o)
    rcases h5.2 with ⟨g1,g2⟩ | ⟨g1,g2⟩
    · have e1:=K.vertex hv g1
      have e2:=K.vertex on g2
      exact ⟨h1,h5.1,by rw [e1];exact hm,by rw [e2];exact h4,.inl e1⟩
    · have e1:=K.vertex hv g1
      have e2:=K.vertex on g2
      exact ⟨h1,h5.1,by rw [e2];exact h4,by rw [e1];exact hm,.inr e1⟩
  exact ⟨⟨K.ed,fun v e hv hm=>(all v e hv hm).2⟩,fun v e hv hm=>(all v e hv hm).1⟩
open Classical in
theorem zSum_SI {a b:Nat}:∀ {k},zSum s a b k=SI (fun p=>if s.n≤p∧Wi s a p∧Wi s b p then s.z p else 0) k
  | 0=>rfl
  | k+1=>by
    unfold zSum SI;rw [zSum_SI]
open Classical in
theorem worth_eq (K : Ok es s) (H : Pm es s.n m) (C : Cl es s m) (ht : ∀ v e, v < s.n → m v = some e → Tight es s e) (hy : ∀ v, v < s.n → m v = none → s.y v = 0) :
    SI s.y s.n+SI (fun p=>if IsRing s p then s.z p*((vcnt s p - 1) / 2) else 0) s.N=2*SI (fun e=>if m (vA es e)=some e then vW es e else 0) es.length:=by
  have h1:SI s.y s.n=SI (fun v=>if (m v).isSome=true then s.y v else 0) s.n:=SI_congr fun v hv=>by
    cases hm:m v with
    | none=>rw [hy v hv hm];simp
    | some e=>simp
  rw [h1,pm_sum H]
  have h2:SI (fun p=>if IsRing s p then s.z p*((vcnt s p - 1) / 2) else 0) s.N=SI (fun e=>if m (vA es e)=some e then zSum s (vA es e) (vB es e) s.N else 0) es.length:=by
    have e1:SI (fun p=>if IsRing s p then s.z p*((vcnt s p - 1) / 2) else 0) s.N=SI (fun p=>SI (fun e=>if m (vA es e)=some e then (if s.n≤p∧Wi s (vA es e) p∧Wi s (vB es e) p then s.z p else 0) else 0) es.length) s.N:=by
      refine SI_congr fun p hp=>?_
      by_cases r:IsRing s p
      · rw [if_pos r,cnt_odd H C hp r.2.2,show (2*ecnt es s m p+1 - 1) / 2=ecnt es s m p by omega]
        unfold ecnt;rw [← SI_mul]
        refine SI_congr fun e he=>?_
        by_cases c:m (vA es e)=some e
        · rw [if_pos c]
          by_cases w:Wi s (vA es e) p∧Wi s (vB es e) p
          · rw [if_pos ⟨c,w⟩,if_pos ⟨r.1,w⟩];omega
          · rw [if_neg (fun q=>w q.2),if_neg (fun q=>w q.2)];omega
        · rw [if_neg c,if_neg (fun q=>c q.1)];omega
      · rw [if_neg r]
        rw [SI_congr (g:=fun _=>0) fun e he=>?_,SI_zero]
        by_cases c:m (vA es e)=some e
        · rw [if_pos c,if_neg (fun q=>r ?_)]
          obtain ⟨q1,q2,q3⟩:=q;exact ⟨q1,hp,K.wi_gone q2 (K.ngone (K.ed e he).1)⟩
        · rw [if_neg c]
    rw [e1,SI_swap]
    refine SI_congr fun e he=>?_
    by_cases c:m (vA es e)=some e
    · rw [if_pos c,zSum_SI]
      exact SI_congr fun p _=>if_pos c
    · rw [if_neg c,SI_congr (g:=fun _=>0) fun p _=>if_neg c,SI_zero]
  rw [h2,← SI_add,← SI_mul]
  refine SI_congr fun e he=>?_
  by_cases c:m (vA es e)=some e
  · rw [if_pos c,if_pos c,if_pos c]
    have:=ht _ e (K.ed e he).1 c;unfold Tight slk at this;omega
  · rw [if_neg c,if_neg c,if_neg c];omega
end
end Go.Proofs.Ytafhipglhnfgnaa.Ab
set_option linter.unusedSimpArgs false
set_option linter.unusedVariables false
set_option linter.unnecessarySimpa false
set_option maxHeartbeats 4000000
namespace Go.Proofs.Ytafhipglhnfgnaa.Ab
open Go.RowKit
def Frz (s:Sv):Prop:=∀ t,IsTop s t→s.mate t=none→s.y (s.base t)=0
inductive Last (es:List E):Sv→Sv→Prop
  | none {s:Sv} {l:Lb} {rk:Nat→Nat} (F:Fo es s l rk) (h:∀ v,v < s.n→l.lab (top s v)≠1):Last es s s
  | change {s:Sv} {l:Lb} {rk:Nat→Nat} {d:Int} (F:Fo es s l rk) (S:Stuck es s l) (D:Least es s l d) (hf:∃ t,IsTop s t∧s.mate t=none) (hy:∃ v,v < s.n∧l.lab (top s v)=1∧s.y v=d):Last es s (changeS s l d)
structure Bd (s:Sv) (Y M:Int):Prop where
  y:∀ v,v < s.n→s.y v+Y≤2*M
  z:∀ p,IsRing s p→s.z p+2*Y≤2*M
  m:Y≤M
section
variable {es:List E} {T:Nat→Prop} {s s':Sv} {Y M:Int} {B a b:Nat}
theorem open_fr (K0:Ok0 es T s) (L:Frz s) (hB:IsRing s B) (ht:s.up B=none) (ha:a < (s.mem B).length) (hh:Hold es s B ((s.mem B).getD a 0)):Frz (openS s B a):=by
  intro t htt hm;show s.y (s.base t)=0;rcases (top_open K0 hB).1 htt with ⟨h1,h2⟩ | hm2
  · have nm:¬ t∈s.mem B:=fun q=>by have:=(K0.memUp hB q).1;rw [h1.2.1] at this;cases this
    have:(openS s B a).mate t=s.mate t:=by simp only [openS];rw [if_neg nm]
    exact L t h1 (this ▸ hm)
  · obtain ⟨hq,hqt⟩:=idx_get hm2
    obtain ⟨q,hqe⟩:∃ q,q=(s.mem B).idxOf t:=⟨_,rfl⟩;rw [← hqe] at hq hqt;subst hqt;rw [mate_mem K0 hB hq] at hm;unfold opM at hm;split at hm
    · next d0 =>
      have hqa:q=a:=by unfold dst at d0;split at d0<;>omega
      subst hqa;have hw:=hh.2 hm;obtain ⟨j,j1,j2⟩:=K0.baseM B hB;obtain ⟨c1,c2,c3,c4⟩:=K0.memUp hB j1;obtain ⟨b1,b2⟩:=K0.base j c3 c4;rw [← j2] at b2;have hmq:=K0.memUp hB hm2
      have e1:j=(s.mem B).getD q 0:=by
        rcases b2.chain hw with g | g
        · rcases g.last with k | ⟨m,k1,k2⟩
          · exact k
          · exfalso
            cases g with
            | refl=>have:=(K0.up _ _ k1).1;have:=k2.le K0.upOk;omega
            | step k3 k4 =>
              rw [c1] at k3;cases k3;have:=k4.le K0.upOk;omega
        · cases g with
          | refl=>rfl
          | step k3 k4 =>
            rw [hmq.1] at k3;cases k3;have:=k4.le K0.upOk;omega
      rw [← e1,← j2];exact L B ⟨hB.2.1,ht,hB.2.2⟩ hm
    · split at hm<;>cases hm
theorem openAll_fr {s s':Sv} (h:OpenAll es s s'):Ok0 es T s→Frz s→Frz s'∧s'.y=s.y:=by
  induction h with
  | done s h=>exact fun _ F=>⟨F,rfl⟩
  | step hB ht ha hh _ ih=>exact fun K F=>ih (open_ok0 K hB ht ha hh) (open_fr K F hB ht ha hh)
theorem sg_or {x:Nat}:sg x=1∨sg x=0∨sg x=-1:=by
  unfold sg
  by_cases h:x=1
  · rw [if_pos h];exact .inl rfl
  · rw [if_neg h]
    by_cases h2:x=2
    · rw [if_pos h2];exact .inr (.inr rfl)
    · rw [if_neg h2];exact .inr (.inl rfl)
open Classical in
theorem change_bd {l:Lb} {d:Int} (b:Bd s Y M) (hd:0≤d):Bd (changeS s l d) (Y - d) M:=by
  refine ⟨fun v hv=>?_,fun p hp=>?_,by have:=b.m;omega⟩
  · have h1:=b.y v hv
    show s.y v - sg (l.lab (top s v))*d+(Y - d)≤2*M
    rcases sg_or (x:=l.lab (top s v)) with q | q | q<;>rw [q]<;>omega
  · have h1:=b.z p hp
    have h2:(changeS s l d).z p≤s.z p+2*d:=by
      show (if IsTop s p∧s.n≤p then s.z p+2*(sg (l.lab p)*d) else s.z p)≤_
      have h4:sg (l.lab p)*d≤d:=by rcases sg_or (x:=l.lab p) with q | q | q<;>rw [q]<;>omega
      split<;>omega
    omega
theorem open_bd (b:Bd s Y M):Bd (openS s B a) Y M:=⟨b.y,fun p hp=>b.z p (ring_open.1 hp).1,b.m⟩
theorem opens_bd {s s':Sv} (h:OpenZ es s s'):Bd s Y M→Bd s' Y M:=by
  induction h with
  | refl s=>exact id
  | step _ _ _ _ _ _ ih=>exact fun b=>ih (open_bd b)
theorem last_ok (K:Ok es s) (L:Lo s Y) (b:Bd s Y M) (h:Last es s s'):Ok es s'∧Frz s'∧s'.n=s.n∧∃ Y',Lo s' Y'∧Bd s' Y' M:=by
  cases h with
  | none F h =>
    refine ⟨K,fun t ht hm=>?_,rfl,Y,L,b⟩
    have h1:=(F.root t ht hm).1;obtain ⟨b1,b2⟩:=K.base t ht.1 ht.2.2
    exact absurd (by rw [top_of K.upOk b2 ht.2.1];exact h1) (h _ b1)
  | change F S D hf hy =>
    rename_i l rk d
    have e:=change_end K F L D hf hy;have L':=change_lo K F L D hf
    refine ⟨change_ok K F D.step,fun t ht hm=>?_,rfl,Y - d,L',change_bd b D.step.d0⟩
    have:=L'.free t ht hm;omega
theorem round_bd (K:Ok es s) (L:Lo s Y) (b:Bd s Y M) (h:Round es s s'):∃ Y',Lo s' Y'∧Bd s' Y' M:=by
  cases h with
  | fold G =>
    rename_i l rk e i k xs ys
    have R:=G.ring K
    refine ⟨Y,add_lo K R L,b.y,fun p hp=>?_,b.m⟩
    by_cases q:p=s.N
    · subst q
      have:(addR s (ringM xs ys i k) (ringL l e xs ys i k) (xs.getD i 0)).z s.N=0:=if_pos rfl;rw [this];have:=b.m;omega
    · have:(addR s (ringM xs ys i k) (ringL l e xs ys i k) (xs.getD i 0)).z p=s.z p:=if_neg q
      rw [this];refine b.z p ⟨hp.1,?_,?_⟩
      · have h1:p < s.N+1:=hp.2.1
        omega
      · have h1:(if p=s.N then false else s.gone p)=false:=hp.2.2
        rw [if_neg q] at h1;exact h1
  | aug A O =>
    obtain ⟨i1,i2,i3,i4⟩:=opens_ok O (aug_ok A K) (aug_lo A K L);exact ⟨Y,i2,opens_bd O ⟨b.y,b.z,b.m⟩⟩
  | change F S D hf hy hz=>exact ⟨_,change_lo K F L D hf,change_bd b D.step.d0⟩
  | open_ F S D hf hB hn hl hz ha hh =>
    rename_i l rk d B a
    exact ⟨_,open_lo (change_ok K F D.step) (change_lo K F L D hf) (B:=B) ⟨hn,hB.1,hB.2.2⟩ hB.2.1 ha hh,open_bd (change_bd b D.step.d0)⟩
theorem start_bd {n:Nat} {y:Int}:Bd (startS n y) y y:=⟨fun v _=>by show y+y≤2*y;omega,fun p hp=>absurd hp start_ring,Int.le_refl _⟩
theorem end_worth (K:Ok es s) (F:Frz s) (O:OpenAll es s s'):Pm es s.n s'.mate∧Cl es s s'.mate∧SI s.y s.n+SI (fun p=>open Classical in if IsRing s p then s.z p*((vcnt s p - 1) / 2) else 0) s.N=2*SI (fun e=>if s'.mate (vA es e)=some e then vW es e else 0) es.length:=by
  obtain ⟨K',hn,hr,C⟩:=openAll_ok O K.ok0;obtain ⟨P,hT⟩:=pm_of K' hr;obtain ⟨F',hy⟩:=openAll_fr O K.ok0 F;rw [hn] at P hT;refine ⟨P,C,?_⟩
  refine (worth_eq K P C hT fun v hv hm=>?_).trans ?_
  · have hv':v < s'.n:=by omega
    have hvN:=Nat.lt_of_lt_of_le hv' K'.nN
    have hg:s'.gone v=false:=by
      cases hg:s'.gone v with
      | false=>rfl
      | true=>have:=(K'.gone v hg).1;omega
    have ht:IsTop s' v:=⟨hvN,by
      cases hu:s'.up v with
      | none=>rfl
      | some r=>exact absurd (K'.up v r hu).2.1 (hr r),hg⟩
    have h1:=F' v ht hm;rw [K'.vertex hv' (K'.base v hvN hg).2,hy] at h1;exact h1
  · congr 1
end
end Go.Proofs.Ytafhipglhnfgnaa.Ab
set_option linter.unusedSimpArgs false
set_option linter.unusedVariables false
set_option linter.unnecessarySimpa false
set_option maxHeartbeats 4000000
namespace Go.Proofs.Ytafhipglhnfgnaa.Ab
open Go.RowKit
theorem RowsG.sub {h:Heap} {v:Value} {gs:List Gp} (o:RowsG h v gs) {i:Nat} (hi:i≤gs.length):∃ v',slLV 2 v none (some (.int .i64 (i:Int))) h=some v'∧RowsG h v' (gs.take i):=by
  obtain ⟨vs,h1,h2⟩:=o
  obtain ⟨v',e,r⟩:=h1.sub (i:=0) (k:=i) (lo:=none) (hi:=some (.int .i64 (i:Int))) (Nat.zero_le _) (by simpa using hi) (by omega) rfl rfl
  have hg:∀ k,k < i→(gs.take i).getD k g0=gs.getD k g0:=fun k hk=>by simp [hk]
  refine ⟨v',e,vs,?_,fun k hk=>?_⟩
  · have:gRows vs (gs.take i)=((gRows vs gs).drop 0).take (i - 0):=by
      rw [List.drop_zero,Nat.sub_zero];unfold gRows;rw [← List.map_take,List.take_range,List.length_take];apply List.map_congr_left
      intro k hk
      have hk':k < i:=by have:=List.mem_range.1 hk;omega
      unfold gRow;rw [hg k hk']
    rw [this];exact r
  · have hk':k < i:=by simp at hk;omega
    rw [hg k hk']
    exact h2 k (by omega)
def AllIn (l m:List Int):Prop:=∀ x∈l,x∈m
def NoIn (l m:List Int):Prop:=∀ x∈l,¬ x∈m
theorem allIn_snoc {l m:List Int} {a:Int}:AllIn (l++[a]) m↔AllIn l m∧a∈m :=
  ⟨fun h=>⟨fun x hx=>h x (List.mem_append_left _ hx),h _ (List.mem_append_right _ (List.mem_singleton.2 rfl))⟩,fun h x hx=>(List.mem_append.1 hx).elim (h.1 x) fun hx=>by rw [List.mem_singleton.1 hx];exact h.2⟩
theorem noIn_snoc {l m:List Int} {a:Int}:NoIn (l++[a]) m↔NoIn l m∧¬ a∈m :=
  ⟨fun h=>⟨fun x hx=>h x (List.mem_append_left _ hx),h _ (List.mem_append_right _ (List.mem_singleton.2 rfl))⟩,fun h x hx=>(List.mem_append.1 hx).elim (h.1 x) fun hx=>by rw [List.mem_singleton.1 hx];exact h.2⟩
def edgeV (e:E):Value:=.agg ⟨edgeR e⟩
def WOk (e:E):Prop:=(0≤e.w1∧e.w1≤50)∧(0≤e.w2∧e.w2≤50)∧(0≤e.w3∧e.w3≤50)
theorem eok_w {size:Int} {e:E} (h:EOk size e):WOk e:=by unfold EOk at h;unfold WOk;omega
section
variable {X:CallF} {h:Heap} {v w ev yv gv:Value} {l m ys:List Int} {gs:List Gp} {es:List E} {e:E} {size z:Int}
theorem k_impl_Scalar (hw:WOk e):C T X n_impl_Scalar [edgeV e] h=some (.int .i64 (scalar e.w1 e.w2 e.w3),h):=by
  unfold WOk at hw;refine C_go t_impl_Scalar rfl ?_;unfold F_impl_Scalar edgeV edgeR scalar
  have e1:IntKind.i64.wrap (90000*e.w1)=90000*e.w1:=w64 (by omega) (by omega)
  have e2:IntKind.i64.wrap (300*e.w2)=300*e.w2:=w64 (by omega) (by omega)
  have e3:IntKind.i64.wrap (90000*e.w1+300*e.w2)=90000*e.w1+300*e.w2:=w64 (by omega) (by omega)
  have e4:IntKind.i64.wrap (90000*e.w1+300*e.w2+e.w3)=90000*e.w1+300*e.w2+e.w3:=w64 (by omega) (by omega)
  simp only [e1,e2,e3,e4,go_sem]
theorem k_spec_Scalar (hw:WOk e):C T X n_spec_Scalar [edgeV e] h=some (.int .i64 (scalar e.w1 e.w2 e.w3),h):=by
  unfold WOk at hw;refine C_go t_spec_Scalar rfl ?_;unfold F_spec_Scalar edgeV edgeR scalar
  have e1:IntKind.i64.wrap (90000*e.w1)=90000*e.w1:=w64 (by omega) (by omega)
  have e2:IntKind.i64.wrap (300*e.w2)=300*e.w2:=w64 (by omega) (by omega)
  have e3:IntKind.i64.wrap (90000*e.w1+300*e.w2)=90000*e.w1+300*e.w2:=w64 (by omega) (by omega)
  have e4:IntKind.i64.wrap (90000*e.w1+300*e.w2+e.w3)=90000*e.w1+300*e.w2+e.w3:=w64 (by omega) (by omega)
  simp only [e1,e2,e3,e4,go_sem]
open Classical in
theorem k_impl_within (ha:Rows h 1 v (ints l)) (hb:Rows h 1 w (ints m)) (hl:l.length≤lim) (hm:m.length≤lim):C T X n_impl_within [v,w] h=some (.tuple ⟨[.bool (decide (AllIn l m)),.bool (decide (NoIn l m))]⟩,h):=by
  unfold lim at hl;refine C_go t_impl_within rfl ?_;unfold F_impl_within;simp only [ints_ln ha,go_sem]
  refine w_for l.length (fun i t loc h'=>h'=h∧t 1=w∧t 6=.bool (decide (AllIn (l.take i) m))∧t 7=.bool (decide (NoIn (l.take i) m))∧t 11=v∧t 12=.int .i64 l.length∧t 13=.int .i64 i) ⟨rfl,rfl,by have:AllIn (l.take 0) m:=(fun x h=>by cases h);simp only [upd,decide_eq_true this];rfl,by have:NoIn (l.take 0) m:=(fun x h=>by cases h);simp only [upd,decide_eq_true this];rfl,rfl,rfl,rfl⟩ ?_
  rintro i t loc h' hi ⟨rfl,t1,t6,t7,t11,t12,t13⟩;simp only [t12,t13,go_sem]
  refine w_open (by simp only [go_sem];rfl) ?_ ?_<;>intro hc
  · have hi1:i < l.length:=by omega
    have hw:IntKind.i64.wrap ((i:Int)+1)=((i+1:Nat):Int):=w64 (by omega) (by omega)
    have hel:=int_el ha hi1;have hin:=k_impl_hasInt (X:=X) (n:=l.getD i 0) hb hm;have htk:=take_getD (d:=0) hi1;have n1:=allIn_snoc (l:=l.take i) (m:=m) (a:=l.getD i 0);have n2:=noIn_snoc (l:=l.take i) (m:=m) (a:=l.getD i 0);rw [← htk] at n1 n2
    by_cases p:AllIn (l.take i) m<;>by_cases q:NoIn (l.take i) m<;>by_cases s:l.getD i 0∈m
    all_goals
      simp only [p,q,s,and_true,and_false,not_true_eq_false,not_false_eq_true,iff_true,iff_false] at n1 n2;simp only [t1,t6,t7,t11,t12,t13,hel.1,hel.2,hin,p,q,s,n1,n2,hw,go_sem];exact hi1
  · have hil:i=l.length:=by omega
    subst hil;rw [List.take_length] at t6 t7;simp only [t6,t7,go_sem]
theorem k_spec_l11Nested (ha:Rows h 1 v (ints l)) (hb:Rows h 1 w (ints m)) (hl:l.length≤lim) (hm:m.length≤lim):C T X n_spec_l11Nested [v,w] h=some (.bool (decide (cntIn l m=0) || (decide (cntIn l m=l.length) || decide (cntIn l m=m.length))),h):=by
  have hl2:=hl;have hm2:=hm;unfold lim at hl2 hm2;refine C_go t_spec_l11Nested rfl ?_;unfold F_spec_l11Nested;simp only [go_sem]
  refine w_for l.length (fun i t loc h'=>h'=h∧t 0=v∧t 1=w∧t 5=.int .i64 (cntIn (l.take i) m:Nat)∧t 6=.int .i64 i) ⟨rfl,rfl,rfl,by simp [upd,cntIn],rfl⟩ ?_
  rintro i t loc h' hi ⟨rfl,t0,t1,t5,t6⟩;simp only [t0,t6,ints_ln ha,go_sem]
  refine w_open (by simp only [go_sem];rfl) ?_ ?_<;>intro hc
  · have hi1:i < l.length:=by omega
    have hw:IntKind.i64.wrap ((i:Int)+1)=((i+1:Nat):Int):=w64 (by omega) (by omega)
    have hel:=int_el ha hi1;have hin:=k_spec_l03In (X:=X) (n:=l.getD i 0) hb hm;have hct:=cntIn_take (b:=m) hi1;have hle:=cntIn_le (a:=l.take i) (b:=m)
    have hlt:(l.take i).length≤l.length:=by simp;omega
    have hw2:IntKind.i64.wrap (((cntIn (l.take i) m:Nat):Int)+1)=((cntIn (l.take i) m+1:Nat):Int):=w64 (by omega) (by omega)
    by_cases s:l.getD i 0∈m
    · rw [if_pos s] at hct
      simp only [t0,t1,t5,t6,hel.1,hel.2,hin,s,hw2,hw,hct,go_sem];exact hi1
    · rw [if_neg s] at hct
      simp only [t0,t1,t5,t6,hel.1,hel.2,hin,s,hw,hct,go_sem];exact hi1
  · have hil:i=l.length:=by omega
    subst hil;rw [List.take_length] at t5
    by_cases s1:cntIn l m=0
    · have s1':((cntIn l m:Nat):Int)=0:=by omega
      simp only [t0,t1,t5,s1',ints_ln ha,ints_ln hb,go_sem];simp [s1]
    have s1':¬ ((cntIn l m:Nat):Int)=0:=by omega
    by_cases s2:cntIn l m=l.length
    · have s2':((cntIn l m:Nat):Int)=(l.length:Int):=by omega
      simp only [t0,t1,t5,s1',decide_eq_true s2',ints_ln ha,ints_ln hb,go_sem];simp [s1,s2]
    have s2':¬ ((cntIn l m:Nat):Int)=(l.length:Int):=by omega
    by_cases s3:cntIn l m=m.length
    · have s3':((cntIn l m:Nat):Int)=(m.length:Int):=by omega
      simp only [t0,t1,t5,s1',s2',ints_ln ha,ints_ln hb,go_sem];simp [s1,s2,s3,s3']
    · have s3':¬ ((cntIn l m:Nat):Int)=(m.length:Int):=by omega
      simp only [t0,t1,t5,s1',s2',s3',ints_ln ha,ints_ln hb,go_sem];simp [s1,s2,s3]
end
end Go.Proofs.Ytafhipglhnfgnaa.Ab
set_option linter.unusedSimpArgs false
set_option linter.unusedVariables false
set_option linter.unnecessarySimpa false
set_option maxHeartbeats 4000000
namespace Go.Proofs.Ytafhipglhnfgnaa.Ab
open Go.RowKit
section
variable {X:CallF} {h:Heap} {v w ev yv gv:Value} {l m ys:List Int} {gs:List Gp} {es:List E} {e:E} {size z:Int}
structure PfFit (ys:List Int) (gs:List Gp):Prop where
  y:∀ i,i < ys.length→0≤ys.getD i 0∧ys.getD i 0≤1000000000
  yl:ys.length≤9
  gl:gs.length≤8
  g:∀ i,i < gs.length→(0≤(gs.getD i g0).z∧(gs.getD i g0).z≤1000000000)∧(gs.getD i g0).ms.length≤9
theorem k_impl_slackOf (hy : Rows h 1 yv (ints ys)) (hg : RowsG h gv gs) (fit : PfFit ys gs) (hE : EOk size e) (hsz : (ys.length : Int) = size) :
    C T X n_impl_slackOf [edgeV e,proofV yv gv] h=some (.int .i64 (slackL ys gs e),h):=by
  have hW:=eok_w hE;have hgl:=fit.gl;have hsc:=k_impl_Scalar (X:=X) (h:=h) hW;unfold EOk at hE;obtain ⟨a,ha⟩:=Int.eq_ofNat_of_zero_le hE.1
  obtain ⟨b,hb⟩:=Int.eq_ofNat_of_zero_le (show 0≤e.b by omega)
  have ea:=int_el hy (i:=a) (by omega)
  have eb:=int_el hy (i:=b) (by omega)
  rw [← ha] at ea;rw [← hb] at eb
  have ya:=fit.y a (by omega)
  have yb:=fit.y b (by omega)
  have hw1:IntKind.i64.wrap (ys.getD a 0+ys.getD b 0)=ys.getD a 0+ys.getD b 0:=w64 (by omega) (by omega)
  have hss:0≤scalar e.w1 e.w2 e.w3∧scalar e.w1 e.w2 e.w3≤5000000:=by unfold scalar;unfold WOk at hW;omega
  have hw2:IntKind.i64.wrap (2*scalar e.w1 e.w2 e.w3)=2*scalar e.w1 e.w2 e.w3:=w64 (by omega) (by omega)
  have hw3:IntKind.i64.wrap (ys.getD a 0+ys.getD b 0 - 2*scalar e.w1 e.w2 e.w3)=ys.getD a 0+ys.getD b 0 - 2*scalar e.w1 e.w2 e.w3:=w64 (by omega) (by omega)
  have htot:slackL ys gs e=ys.getD a 0+ys.getD b 0 - 2*scalar e.w1 e.w2 e.w3+grAdd e.a e.b gs:=by
    have h1:e.a.toNat=a:=by omega
    have h2:e.b.toNat=b:=by omega
    unfold slackL;rw [h1,h2]
  have hbd:=grAdd_bnd (a:=e.a) (b:=e.b) (gs:=gs) fun i hi=>(fit.g i hi).1
  refine C_go t_impl_slackOf rfl ?_;unfold F_impl_slackOf;unfold edgeV edgeR proofV at *;simp only [ea.1,ea.2,eb.1,eb.2,hsc,hw1,hw2,hw3,hg.ln,List.prefix_refl,go_sem];obtain ⟨base,hbase⟩:∃ base,base=ys.getD a 0+ys.getD b 0 - 2*scalar e.w1 e.w2 e.w3:=⟨_,rfl⟩
  have hb0:-10000000≤base∧base≤2000000000:=by omega
  rw [← hbase] at htot ⊢
  refine w_for gs.length (fun i t loc h'=>h'=h∧loc 2=some [.int .i64 e.a,.int .i64 e.b,.int .i64 e.w1,.int .i64 e.w2,.int .i64 e.w3]∧t 5=.int .i64 (base+grAdd e.a e.b (gs.take i))∧t 26=gv∧t 27=.int .i64 gs.length∧t 28=.int .i64 i) ⟨rfl,rfl,by simp [upd,grAdd],rfl,rfl,rfl⟩ ?_
  rintro i t loc h' hi ⟨rfl,l2,t5,t26,t27,t28⟩;simp only [t27,t28,go_sem]
  refine w_open (by simp only [go_sem];rfl) ?_ ?_<;>intro hc
  · have hi1:i < gs.length:=by omega
    have hw:IntKind.i64.wrap ((i:Int)+1)=((i+1:Nat):Int):=w64 (by omega) (by omega)
    obtain ⟨x,e1,e2,e3,e4,e5,e6⟩:=hg.el hi1;have hml:=(fit.g i hi1)
    have c1:=k_impl_hasInt (X:=X) (n:=e.a) e6 (by unfold lim;omega)
    have c2:=k_impl_hasInt (X:=X) (n:=e.b) e6 (by unfold lim;omega)
    have hgt:=grAdd_take (a:=e.a) (b:=e.b) hi1
    have hb1:=hbd i (by omega)
    have hb2:=hbd (i+1) (by omega)
    have hw4:IntKind.i64.wrap (base+grAdd e.a e.b (gs.take i)+(gs.getD i g0).z)=base+grAdd e.a e.b (gs.take i)+(gs.getD i g0).z:=w64 (by omega) (by omega)
    by_cases s1:e.a∈(gs.getD i g0).ms
    · by_cases s2:e.b∈(gs.getD i g0).ms
      · rw [if_pos ⟨s1,s2⟩] at hgt
        simp only [l2,t5,t26,t27,t28,e1,e3,(Rows.cells e6),c1,c2,s1,s2,hw4,hw,go_sem]
        exact ⟨hi1,by rw [hgt];omega⟩
      · rw [if_neg (fun h=>s2 h.2)] at hgt
        simp only [l2,t5,t26,t27,t28,e1,e3,(Rows.cells e6),c1,c2,s1,s2,hgt,hw,go_sem];exact hi1
    · rw [if_neg (fun h=>s1 h.1)] at hgt
      simp only [l2,t5,t26,t27,t28,e1,e3,(Rows.cells e6),c1,s1,hgt,hw,go_sem];exact hi1
  · have hil:i=gs.length:=by omega
    subst hil;rw [List.take_length] at t5;simp only [t5,htot,go_sem]
theorem k_spec_l11Slack (hy : Rows h 1 yv (ints ys)) (hg : RowsG h gv gs) (fit : PfFit ys gs) (hE : EOk size e) (hsz : (ys.length : Int) = size) :
    C T X n_spec_l11Slack [proofV yv gv,edgeV e] h=some (.int .i64 (slackL ys gs e),h):=by
  have hW:=eok_w hE;have hgl:=fit.gl;have hsc:=k_spec_Scalar (X:=X) (h:=h) hW;unfold EOk at hE;obtain ⟨a,ha⟩:=Int.eq_ofNat_of_zero_le hE.1
  obtain ⟨b,hb⟩:=Int.eq_ofNat_of_zero_le (show 0≤e.b by omega)
  have ea:=int_el hy (i:=a) (by omega)
  have eb:=int_el hy (i:=b) (by omega)
  rw [← ha] at ea;rw [← hb] at eb
  have ya:=fit.y a (by omega)
  have yb:=fit.y b (by omega)
  have hw1:IntKind.i64.wrap (ys.getD a 0+ys.getD b 0)=ys.getD a 0+ys.getD b 0:=w64 (by omega) (by omega)
  have hss:0≤scalar e.w1 e.w2 e.w3∧scalar e.w1 e.w2 e.w3≤5000000:=by unfold scalar;unfold WOk at hW;omega
  have hw2:IntKind.i64.wrap (2*scalar e.w1 e.w2 e.w3)=2*scalar e.w1 e.w2 e.w3:=w64 (by omega) (by omega)
  have hw3:IntKind.i64.wrap (ys.getD a 0+ys.getD b 0 - 2*scalar e.w1 e.w2 e.w3)=ys.getD a 0+ys.getD b 0 - 2*scalar e.w1 e.w2 e.w3:=w64 (by omega) (by omega)
  have htot:slackL ys gs e=ys.getD a 0+ys.getD b 0 - 2*scalar e.w1 e.w2 e.w3+grAdd e.a e.b gs:=by
    have h1:e.a.toNat=a:=by omega
    have h2:e.b.toNat=b:=by omega
    unfold slackL;rw [h1,h2]
  have hbd:=grAdd_bnd (a:=e.a) (b:=e.b) (gs:=gs) fun i hi=>(fit.g i hi).1
  refine C_go t_spec_l11Slack rfl ?_;unfold F_spec_l11Slack;unfold edgeV edgeR proofV at *;simp only [ea.1,ea.2,eb.1,eb.2,hsc,hw1,hw2,hw3,List.prefix_refl,go_sem];obtain ⟨base,hbase⟩:∃ base,base=ys.getD a 0+ys.getD b 0 - 2*scalar e.w1 e.w2 e.w3:=⟨_,rfl⟩
  have hb0:-10000000≤base∧base≤2000000000:=by omega
  rw [← hbase] at htot ⊢
  refine w_for gs.length (fun i t loc h'=>h'=h∧loc 2=some [yv,gv]∧loc 3=some [.int .i64 e.a,.int .i64 e.b,.int .i64 e.w1,.int .i64 e.w2,.int .i64 e.w3]∧t 5=.int .i64 (base+grAdd e.a e.b (gs.take i))∧t 6=.int .i64 i) ⟨rfl,rfl,rfl,by simp [upd,grAdd],rfl⟩ ?_
  rintro i t loc h' hi ⟨rfl,l2,l3,t5,t6⟩;simp only [l2,t6,hg.ln,go_sem]
  refine w_open (by simp only [go_sem];rfl) ?_ ?_<;>intro hc
  · have hi1:i < gs.length:=by omega
    have hw:IntKind.i64.wrap ((i:Int)+1)=((i+1:Nat):Int):=w64 (by omega) (by omega)
    obtain ⟨x,e1,e2,e3,e4,e5,e6⟩:=hg.el hi1;have hml:=(fit.g i hi1)
    have c1:=k_spec_l03In (X:=X) (n:=e.a) e6 (by unfold lim;omega)
    have c2:=k_spec_l03In (X:=X) (n:=e.b) e6 (by unfold lim;omega)
    have hgt:=grAdd_take (a:=e.a) (b:=e.b) hi1
    have hb1:=hbd i (by omega)
    have hb2:=hbd (i+1) (by omega)
    have hw4:IntKind.i64.wrap (base+grAdd e.a e.b (gs.take i)+(gs.getD i g0).z)=base+grAdd e.a e.b (gs.take i)+(gs.getD i g0).z:=w64 (by omega) (by omega)
    by_cases s1:e.a∈(gs.getD i g0).ms
    · by_cases s2:e.b∈(gs.getD i g0).ms
      · rw [if_pos ⟨s1,s2⟩] at hgt
        simp only [l2,l3,t5,t6,e1,e2,e4,e5,c1,c2,s1,s2,hw4,hw,List.prefix_refl,go_sem]
        exact ⟨hi1,by rw [hgt];omega⟩
      · rw [if_neg (fun h=>s2 h.2)] at hgt
        simp only [l2,l3,t5,t6,e1,e2,e4,e5,c1,c2,s1,s2,hgt,hw,List.prefix_refl,go_sem];exact hi1
    · rw [if_neg (fun h=>s1 h.1)] at hgt
      simp only [l2,l3,t5,t6,e1,e2,e4,e5,c1,s1,hgt,hw,List.prefix_refl,go_sem];exact hi1
  · have hil:i=gs.length:=by omega
    subst hil;rw [List.take_length] at t5;simp only [t5,htot,go_sem]
end
end Go.Proofs.Ytafhipglhnfgnaa.Ab
set_option linter.unusedSimpArgs false
set_option linter.unusedVariables false
set_option linter.unnecessarySimpa false
set_option maxHeartbeats 4000000
namespace Go.Proofs.Ytafhipglhnfgnaa.Ab
open Go.RowKit
section
variable {X:CallF} {h:Heap} {v w ev yv gv:Value} {ys:List Int} {gs:List Gp} {es:List E} {g:Gp} {size:Int}
theorem k_impl_weight (hy:Rows h 1 yv (ints ys)) (hg:RowsG h gv gs) (fit:PfFit ys gs) (hodd:∀ i,i < gs.length→(gs.getD i g0).ms.length%2=1):C T X n_impl_weight [proofV yv gv] h=some (.int .i64 (weightL ys gs),h):=by
  have hyl:=fit.yl;have hgl:=fit.gl;have by1:=sumY_bnd fit.y;have by2:=by1 ys.length (Nat.le_refl _);rw [List.take_length] at by2;have bg1:=sumG_bnd fit.g;refine C_go t_impl_weight rfl ?_;unfold F_impl_weight proofV weightL;simp only [ints_ln hy,go_sem]
  refine w_for ys.length (fun i t loc h'=>h'=h∧loc 1=some [yv,gv]∧t 3=.int .i64 (sumY (ys.take i))∧t 9=yv∧t 10=.int .i64 ys.length∧t 11=.int .i64 i) ⟨rfl,rfl,rfl,rfl,rfl,rfl⟩ ?_
  rintro i t loc h' hi ⟨rfl,l1,t3,t9,t10,t11⟩;simp only [t10,t11,go_sem]
  refine w_open (by simp only [go_sem];rfl) ?_ ?_<;>intro hc
  · have hi1:i < ys.length:=by omega
    have hw:IntKind.i64.wrap ((i:Int)+1)=((i+1:Nat):Int):=w64 (by omega) (by omega)
    have hel:=int_el hy hi1
    have h1:=by1 i (by omega)
    have h2:=fit.y i hi1;have hst:=sumY_take hi1
    have hw2:IntKind.i64.wrap (sumY (ys.take i)+ys.getD i 0)=sumY (ys.take (i+1)):=by rw [hst];exact w64 (by omega) (by omega)
    simp only [l1,t3,t9,t10,t11,hel.1,hel.2,hw2,hw,go_sem];exact hi1
  have hil:i=ys.length:=by omega
  subst hil;rw [List.take_length] at t3;simp only [l1,t3,hg.ln,go_sem]
  refine w_for gs.length (fun i t loc h2=>h2=h'∧t 3=.int .i64 (sumY ys+sumG (gs.take i))∧t 20=gv∧t 21=.int .i64 gs.length∧t 22=.int .i64 i) ⟨rfl,congrArg (Value.int .i64) (Int.add_zero _).symm,rfl,rfl,rfl⟩ ?_
  rintro i t loc h2 hi ⟨rfl,t3,t20,t21,t22⟩;simp only [t21,t22,go_sem]
  refine w_open (by simp only [go_sem];rfl) ?_ ?_<;>intro hc
  · have hi1:i < gs.length:=by omega
    have hw:IntKind.i64.wrap ((i:Int)+1)=((i+1:Nat):Int):=w64 (by omega) (by omega)
    obtain ⟨x,e1,e2,e3,e4,e5,e6⟩:=hg.el hi1;have hml:=fit.g i hi1;have ho:=hodd i hi1;have hmb:=mul_bnd hml.1 hml.2;have hst:=sumG_take hi1
    have h1:=bg1 i (by omega)
    have hw2:IntKind.i64.wrap (((gs.getD i g0).ms.length:Int) - 1)=(((gs.getD i g0).ms.length - 1:Nat):Int):=by rw [w64 (by omega) (by omega)];omega
    have hdv:(((gs.getD i g0).ms.length - 1:Nat):Int).tdiv 2=(((gs.getD i g0).ms.length / 2:Nat):Int):=by
      have:((gs.getD i g0).ms.length - 1) / 2=(gs.getD i g0).ms.length / 2:=by omega
      rw [← this];rfl
    have hw3:IntKind.i64.wrap (((gs.getD i g0).ms.length / 2:Nat):Int)=(((gs.getD i g0).ms.length / 2:Nat):Int):=w64 (by omega) (by omega)
    have hw4:IntKind.i64.wrap ((gs.getD i g0).z*(((gs.getD i g0).ms.length / 2:Nat):Int))=(gs.getD i g0).z*(((gs.getD i g0).ms.length / 2:Nat):Int):=w64 (by omega) (by omega)
    have hw5:IntKind.i64.wrap (sumY ys+sumG (gs.take i)+(gs.getD i g0).z*(((gs.getD i g0).ms.length / 2:Nat):Int))=sumY ys+sumG (gs.take (i+1)):=by rw [hst,w64 (by omega) (by omega)];omega
    simp only [t3,t20,t21,t22,e1,e3,e6.cells,ints_ln e6,hw2,hdv,hw3,hw4,hw5,hw,go_sem];exact hi1
  · have hil:i=gs.length:=by omega
    subst hil;rw [List.take_length] at t3;simp only [t3,go_sem]
theorem k_spec_l11Sum (hy:Rows h 1 yv (ints ys)) (hg:RowsG h gv gs) (fit:PfFit ys gs):C T X n_spec_l11Sum [proofV yv gv] h=some (.int .i64 (weightL ys gs),h):=by
  have hyl:=fit.yl;have hgl:=fit.gl;have by1:=sumY_bnd fit.y;have by2:=by1 ys.length (Nat.le_refl _);rw [List.take_length] at by2;have bg1:=sumG_bnd fit.g;refine C_go t_spec_l11Sum rfl ?_;unfold F_spec_l11Sum proofV weightL;simp only [go_sem]
  refine w_for ys.length (fun i t loc h'=>h'=h∧loc 1=some [yv,gv]∧t 3=.int .i64 (sumY (ys.take i))∧t 4=.int .i64 i) ⟨rfl,rfl,rfl,rfl⟩ ?_
  rintro i t loc h' hi ⟨rfl,l1,t3,t4⟩;simp only [l1,t4,ints_ln hy,go_sem]
  refine w_open (by simp only [go_sem];rfl) ?_ ?_<;>intro hc
  · have hi1:i < ys.length:=by omega
    have hw:IntKind.i64.wrap ((i:Int)+1)=((i+1:Nat):Int):=w64 (by omega) (by omega)
    have hel:=int_el hy hi1
    have h1:=by1 i (by omega)
    have h2:=fit.y i hi1;have hst:=sumY_take hi1
    have hw2:IntKind.i64.wrap (sumY (ys.take i)+ys.getD i 0)=sumY (ys.take (i+1)):=by rw [hst];exact w64 (by omega) (by omega)
    simp only [l1,t3,t4,hel.1,hel.2,hw2,hw,go_sem];exact hi1
  have hil:i=ys.length:=by omega
  subst hil;rw [List.take_length] at t3;simp only [l1,t3,go_sem]
  refine w_for gs.length (fun i t loc h2=>h2=h'∧loc 1=some [yv,gv]∧t 3=.int .i64 (sumY ys+sumG (gs.take i))∧t 5=.int .i64 i) ⟨rfl,rfl,congrArg (Value.int .i64) (Int.add_zero _).symm,rfl⟩ ?_
  rintro i t loc h2 hi ⟨rfl,l1,t3,t5⟩;simp only [l1,t5,hg.ln,go_sem]
  refine w_open (by simp only [go_sem];rfl) ?_ ?_<;>intro hc
  · have hi1:i < gs.length:=by omega
    have hw:IntKind.i64.wrap ((i:Int)+1)=((i+1:Nat):Int):=w64 (by omega) (by omega)
    obtain ⟨x,e1,e2,e3,e4,e5,e6⟩:=hg.el hi1;have hml:=fit.g i hi1;have hmb:=mul_bnd hml.1 hml.2;have hst:=sumG_take hi1
    have h1:=bg1 i (by omega)
    have hdv:(((gs.getD i g0).ms.length:Nat):Int).tdiv 2=(((gs.getD i g0).ms.length / 2:Nat):Int):=rfl
    have hw3:IntKind.i64.wrap (((gs.getD i g0).ms.length / 2:Nat):Int)=(((gs.getD i g0).ms.length / 2:Nat):Int):=w64 (by omega) (by omega)
    have hw4:IntKind.i64.wrap ((gs.getD i g0).z*(((gs.getD i g0).ms.length / 2:Nat):Int))=(gs.getD i g0).z*(((gs.getD i g0).ms.length / 2:Nat):Int):=w64 (by omega) (by omega)
    have hw5:IntKind.i64.wrap (sumY ys+sumG (gs.take i)+(gs.getD i g0).z*(((gs.getD i g0).ms.length / 2:Nat):Int))=sumY ys+sumG (gs.take (i+1)):=by rw [hst,w64 (by omega) (by omega)];omega
    simp only [l1,t3,t5,e1,e2,e4,e5,ints_ln e6,hdv,hw3,hw4,hw5,hw,go_sem];exact hi1
  · have hil:i=gs.length:=by omega
    subst hil;rw [List.take_length] at t3;simp only [t3,go_sem]
open Classical in
theorem k_impl_groupOk (hm:Rows h 1 v (ints g.ms)) (hl:g.ms.length≤1048576) (hs:0≤size∧size≤9):C T X n_impl_groupOk [graphV size ev,.agg ⟨[v,.int .i64 g.z]⟩] h=some (.bool (decide (GrOk size g)),h):=by
  refine C_go t_impl_groupOk rfl ?_;unfold F_impl_groupOk graphV;have hmd:((g.ms.length:Nat):Int).tmod 2=((g.ms.length%2:Nat):Int):=rfl
  have hws:IntKind.i64.wrap (size - 1)=size - 1:=w64 (by omega) (by omega)
  by_cases a1:(g.ms.length:Int) < 3
  · have hr:¬ GrOk size g:=fun h=>by have:=h.1.1;omega
    simp only [ints_ln hm,a1,hr,go_sem]
  by_cases a2:((g.ms.length%2:Nat):Int)=0
  · have hr:¬ GrOk size g:=fun h=>by have:=h.1.2.1;omega
    simp only [ints_ln hm,hmd,a1,a2,hr,go_sem]
  by_cases a3:1≤g.z∧g.z≤1000000000
  rotate_left
  · have hr:¬ GrOk size g:=fun h=>a3 h.1.2.2
    have a3':(decide (1≤g.z) && decide (g.z≤1000000000))=false:=by simp;omega
    simp only [ints_ln hm,hmd,k_impl_in,a1,a2,a3',hr,go_sem]
  have a3':(decide (1≤g.z) && decide (g.z≤1000000000))=true:=by simp;omega
  simp only [ints_ln hm,hmd,k_impl_in,a1,a2,a3',go_sem]
  refine w_for g.ms.length (fun i t loc h'=>h'=h∧loc 2=some [.int .i64 size,ev]∧loc 3=some [v,.int .i64 g.z]∧t 25=v∧t 26=.int .i64 g.ms.length∧t 27=.int .i64 i∧∀ j,j < i→(0≤g.ms.getD j 0∧g.ms.getD j 0≤size - 1)∧(0 < j→g.ms.getD (j - 1) 0 < g.ms.getD j 0)) ⟨rfl,rfl,rfl,rfl,rfl,rfl,fun j hj=>by omega⟩ ?_
  rintro i t loc h' hi ⟨rfl,l2,l3,t25,t26,t27,hall⟩;simp only [t26,t27,go_sem]
  refine w_open (by simp only [go_sem];rfl) ?_ ?_<;>intro hc
  · have hi1:i < g.ms.length:=by omega
    have hw:IntKind.i64.wrap ((i:Int)+1)=((i+1:Nat):Int):=w64 (by omega) (by omega)
    have hel:=int_el hm hi1
    by_cases b1:0≤g.ms.getD i 0∧g.ms.getD i 0≤size - 1
    rotate_left
    · have hr:¬ GrOk size g:=fun h=>b1 (h.2 i hi1).1
      have b1':(decide (0≤g.ms.getD i 0) && decide (g.ms.getD i 0≤size - 1))=false:=by simp only [Bool.and_eq_false_iff,decide_eq_false_iff_not];omega
      simp only [l2,l3,t25,t26,t27,hel.1,hel.2,k_impl_in,hws,b1',hr,go_sem]
    have b1':(decide (0≤g.ms.getD i 0) && decide (g.ms.getD i 0≤size - 1))=true:=by simp only [Bool.and_eq_true,decide_eq_true_eq];exact b1
    rcases Nat.eq_zero_or_pos i with hz | hp
    · have hz':¬ (0:Int) < i:=by omega
      simp only [l2,l3,t25,t26,t27,hel.1,hel.2,k_impl_in,hws,b1',hz',hw,go_sem]
      exact ⟨hi1,below_succ hall ⟨b1,fun hp=>by omega⟩⟩
    · have hp':(0:Int) < i:=by omega
      have hw1:IntKind.i64.wrap ((i:Int) - 1)=((i - 1:Nat):Int):=by rw [w64 (by omega) (by omega)];omega
      have hel2:=int_el hm (show i - 1 < g.ms.length by omega)
      by_cases b2:g.ms.getD i 0≤g.ms.getD (i - 1) 0
      · have hr:¬ GrOk size g:=fun h=>by have:=(h.2 i hi1).2 hp;omega
        simp only [l2,l3,t25,t26,t27,hel.1,hel.2,hel2.1,hel2.2,k_impl_in,hws,b1',hp',hw1,b2,hr,go_sem]
      · simp only [l2,l3,t25,t26,t27,hel.1,hel.2,hel2.1,hel2.2,k_impl_in,hws,b1',hp',hw1,b2,hw,go_sem]
        exact ⟨hi1,below_succ hall ⟨b1,fun hp=>by omega⟩⟩
  · have hr:GrOk size g:=⟨⟨by omega,by omega,a3.1,a3.2⟩,fun j hj=>hall j (by omega)⟩
    simp only [hr,go_sem]
theorem nest_iff {a b:List Int}:Nest a b↔AllIn b a∨NoIn b a∨AllIn a b:=Iff.rfl
theorem pfFit_of {gs:List Gp} (h1:ys.length≤9) (h2:gs.length≤8) (h3:∀ j,j < ys.length→0≤ys.getD j 0∧ys.getD j 0≤1000000000) (hs:0≤size∧size≤9) (h4:∀ i,i < gs.length→GrOk size (gs.getD i g0)):PfFit ys gs :=
  ⟨h3,h1,h2,fun i hi=>⟨by have:=(h4 i hi).1;omega,by have:=grOk_len (h4 i hi) hs.1;omega⟩⟩
open Classical in
theorem k_impl_ProofOk (he:Rows h 5 ev (edges es)) (hy:Rows h 1 yv (ints ys)) (hg:RowsG h gv gs) (hl:es.length≤lim) (hb:PfBnd ys gs):C T X n_impl_ProofOk [graphV size ev,proofV yv gv] h=some (.bool (decide (PfOk size es ys gs)),h):=by
  have hk:=k_impl_GraphOk (X:=X) (size:=size) he hl;obtain ⟨hyl,hgl,hml⟩:=hb;refine C_go t_impl_ProofOk rfl ?_;unfold F_impl_ProofOk
  by_cases g1:GOk size es
  rotate_left
  · have hr:¬ PfOk size es ys gs:=fun h=>g1 h.1.1
    unfold graphV at hk;unfold graphV proofV;simp only [hk,g1,hr,go_sem]
  by_cases g2:(ys.length:Int)=size
  rotate_left
  · have hr:¬ PfOk size es ys gs:=fun h=>g2 h.1.2.1
    unfold graphV at hk;unfold graphV proofV;simp only [hk,g1,ints_ln hy,g2,hr,go_sem]
  by_cases g3:(8:Int) < gs.length
  · have hr:¬ PfOk size es ys gs:=fun h=>by have:=h.1.2.2;omega
    unfold graphV at hk;unfold graphV proofV;simp only [hk,g1,ints_ln hy,hg.ln,g2,g3,hr,go_sem]
  have hs:=g1.1;unfold graphV at hk;unfold graphV proofV;simp only [hk,g1,ints_ln hy,hg.ln,g2,g3,go_sem];rw [← g2]
  refine w_for ys.length (fun i t loc h'=>h'=h∧loc 2=some [.int .i64 size,ev]∧loc 3=some [yv,gv]∧t 35=yv∧t 36=.int .i64 ys.length∧t 37=.int .i64 i∧∀ j,j < i→0≤ys.getD j 0∧ys.getD j 0≤1000000000) ⟨rfl,by rw [g2];rfl,rfl,rfl,rfl,rfl,fun j hj=>by omega⟩ ?_
  rintro i t loc h' hi ⟨rfl,l2,l3,t35,t36,t37,hall⟩;simp only [t36,t37,go_sem]
  refine w_open (by simp only [go_sem];rfl) ?_ ?_<;>intro hc
  · have hi1:i < ys.length:=by omega
    have hw:IntKind.i64.wrap ((i:Int)+1)=((i+1:Nat):Int):=w64 (by omega) (by omega)
    have hel:=int_el hy hi1
    by_cases b1:0≤ys.getD i 0∧ys.getD i 0≤1000000000
    · have b1':(decide (0≤ys.getD i 0) && decide (ys.getD i 0≤1000000000))=true:=by simp only [Bool.and_eq_true,decide_eq_true_eq];exact b1
      simp only [l2,l3,t35,t36,t37,hel.1,hel.2,k_impl_in,b1',hw,go_sem];exact ⟨hi1,below_succ hall b1⟩
    · have hr:¬ PfOk size es ys gs:=fun h=>b1 (h.2.1 i hi1)
      have b1':(decide (0≤ys.getD i 0) && decide (ys.getD i 0≤1000000000))=false:=by simp only [Bool.and_eq_false_iff,decide_eq_false_iff_not];omega
      rw [g2];simp only [l2,l3,t35,t36,t37,hel.1,hel.2,k_impl_in,b1',hr,go_sem]
  have hil:i=ys.length:=by omega
  subst hil;simp only [l2,l3,hg.ln,go_sem]
  refine w_for gs.length (fun i t loc h2=>h2=h'∧loc 2=some [.int .i64 size,ev]∧loc 3=some [yv,gv]∧t 46=gv∧t 47=.int .i64 gs.length∧t 48=.int .i64 i∧∀ j,j < i→GrOk size (gs.getD j g0)∧∀ k,k < j→Nest (gs.getD k g0).ms (gs.getD j g0).ms) ⟨rfl,rfl,rfl,rfl,rfl,rfl,fun j hj=>by omega⟩ ?_
  rintro i t loc h2 hi ⟨rfl,l2,l3,t46,t47,t48,hallG⟩;simp only [t47,t48,go_sem]
  refine w_open (by simp only [go_sem];rfl) ?_ ?_<;>intro hc
  · have hi1:i < gs.length:=by omega
    have hw:IntKind.i64.wrap ((i:Int)+1)=((i+1:Nat):Int):=w64 (by omega) (by omega)
    obtain ⟨x,e1,e2,e3,e4,e5,e6⟩:=hg.el hi1;have hmi:=hml _ (getD_mem (d:=g0) hi1);have cg:=k_impl_groupOk (X:=X) (ev:=ev) e6 hmi hs;unfold graphV at cg;obtain ⟨v',s1,s2⟩:=hg.sub (i:=i) hi
    by_cases b1:GrOk size (gs.getD i g0)
    rotate_left
    · have hr:¬ PfOk size es ys gs:=fun h=>b1 (h.2.2.1 i hi1).1
      simp only [l2,l3,t46,t47,t48,e1,e3,e6.cells,cg,b1,g2,hr,go_sem]
    have htl:(gs.take i).length=i:=by simp;omega
    have hlt:=s2.ln;rw [htl] at hlt;simp only [l2,l3,t46,t47,t48,e1,e3,e6.cells,cg,b1,s1,hlt,go_sem]
    refine w_for i (fun k t loc h3=>h3=h2∧loc 2=some [.int .i64 size,ev]∧loc 3=some [yv,gv]∧loc 8=some [x,.int .i64 (gs.getD i g0).z]∧t 46=gv∧t 47=.int .i64 gs.length∧t 48=.int .i64 i∧t 60=v'∧t 61=.int .i64 i∧t 62=.int .i64 k∧∀ j,j < k→Nest (gs.getD j g0).ms (gs.getD i g0).ms) ⟨rfl,rfl,rfl,rfl,rfl,rfl,rfl,rfl,rfl,rfl,fun j hj=>by omega⟩ ?_
    rintro k t loc h3 hk ⟨rfl,l2,l3,l8,t46,t47,t48,t60,t61,t62,hallN⟩;simp only [t61,t62,go_sem]
    refine w_open (by simp only [go_sem];rfl) ?_ ?_<;>intro hc
    · have hk1:k < i:=by omega
      have hw2:IntKind.i64.wrap ((k:Int)+1)=((k+1:Nat):Int):=w64 (by omega) (by omega)
      obtain ⟨z,f1,f2,f3,f4,f5,f6⟩:=s2.el (i:=k) (by omega)
      have hgk:(gs.take i).getD k g0=gs.getD k g0:=by simp [hk1]
      rw [hgk] at f3 f6
      have hmk:=hml _ (getD_mem (d:=g0) (show k < gs.length by omega))
      have w1:=k_impl_within (X:=X) e6 f6 (by unfold lim;omega) (by unfold lim;omega)
      have w2:=k_impl_within (X:=X) f6 e6 (by unfold lim;omega) (by unfold lim;omega)
      by_cases c1:AllIn (gs.getD i g0).ms (gs.getD k g0).ms
      · simp only [l2,l3,l8,t46,t47,t48,t60,t61,t62,f1,f3,f6.cells,w1,w2,c1,hw2,go_sem]
        exact ⟨hk1,below_succ hallN (nest_iff.2 (.inl c1))⟩
      by_cases c2:NoIn (gs.getD i g0).ms (gs.getD k g0).ms
      · simp only [l2,l3,l8,t46,t47,t48,t60,t61,t62,f1,f3,f6.cells,w1,w2,c1,c2,hw2,go_sem]
        exact ⟨hk1,below_succ hallN (nest_iff.2 (.inr (.inl c2)))⟩
      by_cases c3:AllIn (gs.getD k g0).ms (gs.getD i g0).ms
      · simp only [l2,l3,l8,t46,t47,t48,t60,t61,t62,f1,f3,f6.cells,w1,w2,c1,c2,c3,hw2,go_sem]
        exact ⟨hk1,below_succ hallN (nest_iff.2 (.inr (.inr c3)))⟩
      · have hr:¬ PfOk size es ys gs:=fun h=>by
          rcases nest_iff.1 ((h.2.2.1 i hi1).2 k hk1) with q | q | q
          · exact c1 q
          · exact c2 q
          · exact c3 q
        simp only [l2,l3,l8,t46,t47,t48,t60,t61,t62,f1,f3,f6.cells,w1,w2,c1,c2,c3,g2,hr,go_sem]
    · have hki:k=i:=by omega
      subst hki;simp only [l2,l3,t46,t47,t48,hw,go_sem];exact ⟨hi1,below_succ hallG ⟨b1,hallN⟩⟩
  have hig:i=gs.length:=by omega
  subst hig
  have fit:=pfFit_of (by omega) (by omega) hall hs fun i hi=>(hallG i hi).1
  simp only [l2,l3,he.lnm,go_sem]
  refine w_for es.length (fun i t loc h3=>h3=h2∧loc 3=some [yv,gv]∧t 95=ev∧t 96=.int .i64 es.length∧t 97=.int .i64 i∧∀ j,j < i→0≤slackL ys gs (es.getD j e0)) ⟨rfl,rfl,rfl,rfl,rfl,fun j hj=>by omega⟩ ?_
  rintro i t loc h3 hi ⟨rfl,l3,t95,t96,t97,hallS⟩;simp only [t96,t97,go_sem];unfold lim at hl
  refine w_open (by simp only [go_sem];rfl) ?_ ?_<;>intro hc
  · have hi1:i < es.length:=by omega
    have hw:IntKind.i64.wrap ((i:Int)+1)=((i+1:Nat):Int):=w64 (by omega) (by omega)
    have hel:=edge_el he hi1;have cs:=k_impl_slackOf (X:=X) hy hg fit (gok_mem g1 (getD_mem (d:=e0) hi1)) g2;unfold edgeV edgeR proofV at cs
    by_cases b1:slackL ys gs (es.getD i e0) < 0
    · have hr:¬ PfOk size es ys gs:=fun h=>by have:=h.2.2.2 i hi1;omega
      simp only [l3,t95,t96,t97,hel.1,hel.2.2.1,cs,b1,g2,hr,go_sem]
    · simp only [l3,t95,t96,t97,hel.1,hel.2.2.1,cs,b1,hw,go_sem]
      exact ⟨hi1,below_succ hallS (by omega)⟩
  · have hr:PfOk size es ys gs:=⟨⟨g1,g2,by omega⟩,hall,hallG,fun j hj=>hallS j (by omega)⟩
    simp only [g2,hr,go_sem]
end
end Go.Proofs.Ytafhipglhnfgnaa.Ab
