/- Joined: S20, K90, K91, K92, K93, K94. No conditions. -/
import Derived.Test.YtafhipglhnfgnaaM14
import Derived.Test.YtafhipglhnfgnaaR7
import Derived.Test.YtafhipglhnfgnaaM13
set_option linter.unusedSimpArgs false
set_option linter.unusedVariables false
set_option linter.unnecessarySimpa false
set_option maxHeartbeats 4000000
namespace Go.Proofs.Ytafhipglhnfgnaa.Ab
open Go.RowKit
def sumI (f:Int→Int):List Int→Int
  | []=>0
  | x::l=>f x+sumI f l
def endsL (l:List E):List Int:=l.flatMap fun e=>[e.a,e.b]
def scal (s:S3):Int:=scalar s.x s.y s.z
section
variable {es l:List E} {ys:List Int} {gs:List Gp} {size:Int} {P:Int→Prop} {m:List Cp} {n:Nat}
theorem endsL_cons {e:E}:endsL (e::l)=e.a::e.b::endsL l:=rfl
theorem endsL_len:(endsL l).length=2*l.length:=by
  induction l with
  | nil=>rfl
  | cons e l ih=>rw [endsL_cons];simp only [List.length_cons];omega
theorem endsL_mem {x:Int}:x∈endsL l↔∃ e∈l,x=e.a∨x=e.b:=by
  unfold endsL;simp only [List.mem_flatMap,List.mem_cons,List.not_mem_nil,or_false]
theorem endsL_nd (hE:∀ e∈l,e.a≠e.b) (h:l.Pairwise Apart):(endsL l).Nodup:=by
  induction l with
  | nil=>exact List.nodup_nil
  | cons e l ih =>
    obtain ⟨h1,h2⟩:=List.pairwise_cons.1 h;rw [endsL_cons,List.nodup_cons,List.nodup_cons]
    refine ⟨fun q=>?_,fun q=>?_,ih (fun e he=>hE e (List.mem_cons_of_mem _ he)) h2⟩
    · rcases List.mem_cons.1 q with q | q
      · exact hE e List.mem_cons_self q
      · obtain ⟨f,hf,q⟩:=endsL_mem.1 q
        have:=h1 f hf;rcases q with q | q
        · exact this.1 q
        · exact this.2.1 q
    · obtain ⟨f,hf,q⟩:=endsL_mem.1 q
      have:=h1 f hf;rcases q with q | q
      · exact this.2.2.1 q
      · exact this.2.2.2 q
theorem nsubI_len:∀ {a b:List Int},a.Nodup→(∀ x∈a,x∈b)→a.length≤b.length
  | [],_,_,_=>Nat.zero_le _
  | x::a,b,hn,hs=>by
    obtain ⟨h1,h2⟩:=List.nodup_cons.1 hn;have hx:=hs x List.mem_cons_self;have h3:=List.length_erase_of_mem hx
    have h4:=nsubI_len (a:=a) (b:=b.erase x) h2 fun y hy=>(List.mem_erase_of_ne fun e:y=x=>h1 (e ▸ hy)).2 (hs y (List.mem_cons_of_mem _ hy))
    have h5:=List.length_pos_of_mem hx;simp only [List.length_cons];omega
theorem sumI_le {f:Int→Int}:∀ {l:List Int},l.Nodup→(∀ x∈l,0≤x∧x < n)→(∀ v,v < n→0≤f (v:Int))→sumI f l≤SI (fun v=>f (v:Int)) n:=by
  intro l hn hr h0
  have key:∀ {l:List Int},l.Nodup→(∀ x∈l,0≤x∧x < n)→sumI f l=SI (fun v=>if (v:Int)∈l then f (v:Int) else 0) n:=by
    intro l
    induction l with
    | nil =>
      intro _ _
      rw [SI_congr (g:=fun _=>0) fun v _=>if_neg List.not_mem_nil,SI_zero]
      rfl
    | cons x l ih =>
      intro hn hr;obtain ⟨n1,n2⟩:=List.nodup_cons.1 hn;have hx:=hr x List.mem_cons_self;show f x+sumI f l=_
      rw [ih n2 fun y hy=>hr y (List.mem_cons_of_mem _ hy)]
      have e1:f x=SI (fun v=>if (v:Int)=x then f (v:Int) else 0) n:=by
        rw [SI_one (a:=x.toNat) (by omega) fun i _ hi=>if_neg fun q=>hi (by omega),show ((x.toNat:Nat):Int)=x by omega,if_pos rfl]
      rw [e1,← SI_add]
      refine SI_congr fun v _=>?_
      by_cases q:(v:Int)=x
      · rw [if_pos q,if_neg (fun k=>n1 (q ▸ k)),if_pos (List.mem_cons.2 (.inl q))];omega
      · rw [if_neg q]
        by_cases k:(v:Int)∈l
        · rw [if_pos k,if_pos (List.mem_cons.2 (.inr k))];omega
        · rw [if_neg k,if_neg (fun c=>(List.mem_cons.1 c).elim q k)];omega
  have mono:∀ {f g:Nat→Int} {k:Nat},(∀ i,i < k→f i≤g i)→SI f k≤SI g k:=by
    intro f g k
    induction k with
    | zero=>intro _;exact Int.le_refl _
    | succ k ih =>
      intro h
      have h1:=ih fun i hi=>h i (by omega)
      have h2:=h k (by omega)
      show SI f k+f k≤SI g k+g k;omega
  rw [key hn hr]
  refine mono fun v hv=>?_
  have:=h0 v hv
  split<;>omega
theorem sumY_SI:sumY ys=SI (fun v=>ys.getD v 0) ys.length:=by
  have:∀ i,i≤ys.length→sumY (ys.take i)=SI (fun v=>ys.getD v 0) i:=by
    intro i
    induction i with
    | zero=>intro _;simp [sumY,SI]
    | succ i ih =>
      intro hi
      rw [sumY_take (by omega),ih (by omega)]
      rfl
  have h:=this ys.length (Nat.le_refl _)
  rwa [List.take_length] at h
theorem grAdd_cons {a b:Int} {g:Gp}:grAdd a b (g::gs)=(if a∈g.ms∧b∈g.ms then g.z else 0)+grAdd a b gs:=by
  have:=grAdd_app (a:=a) (b:=b) (l:=[g]) (k:=gs)
  rw [show [g]++gs=g::gs from rfl] at this
  rw [this]
  congr 1
  unfold grAdd;simp only [List.foldl_cons,List.foldl_nil,Int.zero_add]
theorem sumG_cons {g:Gp}:sumG (g::gs)=g.z*((g.ms.length / 2:Nat):Int)+sumG gs:=by
  have:=sumG_app (l:=[g]) (k:=gs)
  rw [show [g]++gs=g::gs from rfl] at this
  rw [this]
  congr 1
  unfold sumG;simp only [List.foldl_cons,List.foldl_nil,Int.zero_add]
def grSum (l:List E) (gs:List Gp):Int:=(l.map fun e=>grAdd e.a e.b gs).foldr (·+·) 0
theorem grSum_le (hn:(endsL l).Nodup):∀ {gs:List Gp},(∀ g∈gs,0≤g.z)→grSum l gs≤sumG gs
  | [],_=>by
    have:grSum l []=0:=by
      unfold grSum
      clear hn
      induction l with
      | nil=>rfl
      | cons e l ih=>simp only [List.map_cons,List.foldr_cons];rw [ih];rfl
    rw [this];exact Int.le_refl _
  | g::gs,h=>by
    have ih:=grSum_le hn (gs:=gs) fun x hx=>h x (List.mem_cons_of_mem _ hx)
    have hz:=h g List.mem_cons_self
    have e1:grSum l (g::gs)=g.z*((l.filter fun e=>decide (e.a∈g.ms∧e.b∈g.ms)).length:Int)+grSum l gs:=by
      unfold grSum
      clear hn ih
      induction l with
      | nil=>simp
      | cons e l ih =>
        simp only [List.map_cons,List.foldr_cons];rw [ih,grAdd_cons]
        by_cases q:e.a∈g.ms∧e.b∈g.ms
        · rw [if_pos q,List.filter_cons,if_pos (decide_eq_true q),List.length_cons]
          push_cast
          rw [Int.mul_add,Int.mul_one];omega
        · rw [if_neg q,List.filter_cons,if_neg (by rw [decide_eq_false q];decide)]
          omega
    rw [e1,sumG_cons]
    have h2:2*(l.filter fun e=>decide (e.a∈g.ms∧e.b∈g.ms)).length≤g.ms.length:=by
      rw [← endsL_len]
      refine nsubI_len ?_ fun x hx=>?_
      · have:(endsL (l.filter fun e=>decide (e.a∈g.ms∧e.b∈g.ms))).Sublist (endsL l):=by
          clear hn ih e1
          induction l with
          | nil=>exact List.Sublist.refl _
          | cons e l ih =>
            rw [List.filter_cons];split
            · rw [endsL_cons,endsL_cons];exact (ih.cons_cons _).cons_cons _
            · rw [endsL_cons];exact (ih.cons _).cons _
        exact hn.sublist this
      · obtain ⟨e,he,q⟩:=endsL_mem.1 hx
        have:=(List.mem_filter.1 he).2;simp only [decide_eq_true_eq] at this
        rcases q with q | q<;>rw [q]
        · exact this.1
        · exact this.2
    have h3:((l.filter fun e=>decide (e.a∈g.ms∧e.b∈g.ms)).length:Int)≤((g.ms.length / 2:Nat):Int):=by omega
    have:=Int.mul_le_mul_of_nonneg_left h3 hz;omega
theorem scal_cons {e:E}:scal (sumS (e::l))=scalar e.w1 e.w2 e.w3+scal (sumS l):=by
  show scalar (e.w1+(sumS l).x) (e.w2+(sumS l).y) (e.w3+(sumS l).z)=_+scalar (sumS l).x (sumS l).y (sumS l).z;unfold scalar;omega
theorem weak_dual (p:PfOk size es ys gs) (h:Mt es P l):2*scal (sumS l)≤weightL ys gs:=by
  obtain ⟨⟨g,hy,_⟩,p1,p2,p3⟩:=p
  have hE:∀ e∈l,EOk size e:=fun e he=>gok_mem g (h.1 e he).1
  have nd:(endsL l).Nodup:=endsL_nd (fun e he q=>by have:=hE e he;unfold EOk at this;omega) h.2
  have rng:∀ x∈endsL l,0≤x∧x < ys.length:=fun x hx=>by
    obtain ⟨e,he,q⟩:=endsL_mem.1 hx;have:=hE e he;unfold EOk at this
    rcases q with q | q<;>omega
  have h1:=sumI_le (f:=fun x=>ys.getD x.toNat 0) nd rng fun v hv=>by
    show 0≤ys.getD ((v:Int).toNat) 0;rw [Int.toNat_natCast];exact (p1 v hv).1
  have h2:=grSum_le nd (gs:=gs) fun x hx=>by
    obtain ⟨i,hi,e⟩:=mem_getD (d:=g0) hx;have:=(p2 i hi).1.1;rw [e] at this;omega
  have h3:2*scal (sumS l)≤sumI (fun x=>ys.getD x.toNat 0) (endsL l)+grSum l gs:=by
    have hs:∀ e∈l,0≤slackL ys gs e:=fun e he=>by
      obtain ⟨i,hi,q⟩:=mem_getD (d:=e0) (h.1 e he).1;have:=p3 i hi;rw [q] at this;exact this
    clear h1 h2 nd rng hE h
    induction l with
    | nil=>exact Int.le_refl _
    | cons e l ih =>
      have ih:=ih fun f hf=>hs f (List.mem_cons_of_mem _ hf)
      have h4:=hs e List.mem_cons_self;unfold slackL at h4;rw [scal_cons];have e1:grSum (e::l) gs=grAdd e.a e.b gs+grSum l gs:=rfl
      have e2:sumI (fun x=>ys.getD x.toNat 0) (endsL (e::l))=ys.getD e.a.toNat 0+(ys.getD e.b.toNat 0+sumI (fun x=>ys.getD x.toNat 0) (endsL l)):=rfl
      rw [e1,e2];omega
  have h5:SI (fun v=>ys.getD ((v:Int)).toNat 0) ys.length=sumY ys:=by
    rw [sumY_SI]
    exact SI_congr fun v _=>by rw [Int.toNat_natCast]
  unfold weightL;rw [← h5];exact Int.le_trans h3 (Int.add_le_add h1 h2)
def edL (es:List E) (m:List Cp):List E:=m.map fun c=>es.getD (edgeIx es c.a c.b).toNat e0
theorem edL_worth:scal (sumS (edL es m))=worthL es m:=by
  induction m with
  | nil=>rfl
  | cons c m ih =>
    have:worthL es (c::m)=worthL es [c]+worthL es m:=worthL_app (a:=[c]) (b:=m);rw [this,← ih];show scal (sumS (_::edL es m))=_;rw [scal_cons]
    congr 1
    unfold worthL;simp only [List.foldl_cons,List.foldl_nil,Int.zero_add]
theorem ix_join {a b:Int} (h:0≤edgeIx es a b):(edgeIx es a b).toNat < es.length∧Join a b (es.getD (edgeIx es a b).toNat e0):=by
  unfold edgeIx at *;rcases firstIx_cases (p:=Join a b) e0 es with ⟨h1,_⟩ | ⟨i,h1,h2,h3,_⟩
  · omega
  · rw [h1,Int.toNat_natCast]
    exact ⟨h2,h3⟩
theorem edL_mt (g:MOk size es m):Mt es (fun _=>True) (edL es m):=by
  have one:∀ i,i < m.length→0≤edgeIx es (m.getD i c0).a (m.getD i c0).b:=fun i hi=>(g.2 i hi).2.1
  refine ⟨fun e he=>?_,?_⟩
  · obtain ⟨c,hc,rfl⟩:=List.mem_map.1 he
    obtain ⟨i,hi,rfl⟩:=mem_getD (d:=c0) hc;exact ⟨getD_mem (d:=e0) (ix_join (one i hi)).1,trivial,trivial⟩
  · unfold edL
    rw [List.pairwise_map,List.pairwise_iff_getElem];intro i j hi hj hij
    have ei:m[i]=m.getD i c0:=by simp [List.getD,hi]
    have ej:m[j]=m.getD j c0:=by simp [List.getD,hj]
    rw [ei,ej];have ji:=(ix_join (one i hi)).2;have jj:=(ix_join (one j hj)).2;obtain ⟨_,_,_,n1,n2⟩:=g.2 j hj
    have mi:m.getD i c0∈m.take j:=by
      rw [← ei]
      exact List.mem_take_iff_getElem.2 ⟨i,by omega,rfl⟩
    have in1:(m.getD i c0).a∈metL (m.take j):=List.mem_flatMap.2 ⟨_,mi,by simp⟩
    have in2:(m.getD i c0).b∈metL (m.take j):=List.mem_flatMap.2 ⟨_,mi,by simp⟩
    have a1:(m.getD i c0).a≠(m.getD j c0).a:=fun q=>n1 (q ▸ in1)
    have a2:(m.getD i c0).a≠(m.getD j c0).b:=fun q=>n2 (q ▸ in1)
    have a3:(m.getD i c0).b≠(m.getD j c0).a:=fun q=>n1 (q ▸ in2)
    have a4:(m.getD i c0).b≠(m.getD j c0).b:=fun q=>n2 (q ▸ in2)
    unfold Apart
    rcases ji with ⟨x1,x2⟩ | ⟨x1,x2⟩<;>rcases jj with ⟨y1,y2⟩ | ⟨y1,y2⟩<;>rw [x1,x2,y1,y2]<;>first | exact ⟨a1,a2,a3,a4⟩ | exact ⟨a2,a1,a4,a3⟩ | exact ⟨a3,a4,a1,a2⟩ | exact ⟨a4,a3,a2,a1⟩
theorem scal_bet {a b:S3} (ha:(0≤a.y∧a.y < 300)∧0≤a.z∧a.z < 300) (hb:(0≤b.y∧b.y < 300)∧0≤b.z∧b.z < 300):bet a b↔scal b < scal a:=by
  unfold bet scal scalar;constructor
  · intro h;omega
  · intro h;omega
theorem sumS_in (g:GOk size es) (h:Mt es P l):(0≤(sumS l).y∧(sumS l).y < 300)∧0≤(sumS l).z∧(sumS l).z < 300:=by
  have hE:∀ e∈l,EOk size e:=fun e he=>gok_mem g (h.1 e he).1
  have nd:(endsL l).Nodup:=endsL_nd (fun e he q=>by have:=hE e he;unfold EOk at this;omega) h.2
  have h1:=nodup_len' (n:=9) nd fun x hx=>by
    obtain ⟨e,he,q⟩:=endsL_mem.1 hx;have:=hE e he;have:=g.1;unfold EOk at *
    rcases q with q | q<;>omega
  rw [endsL_len] at h1
  have:(0≤(sumS l).y∧(sumS l).y≤50*l.length)∧0≤(sumS l).z∧(sumS l).z≤50*l.length:=by
    clear h1 nd h
    induction l with
    | nil=>exact ⟨⟨Int.le_refl _,Int.le_refl _⟩,Int.le_refl _,Int.le_refl _⟩
    | cons e l ih =>
      have ih:=ih fun f hf=>hE f (List.mem_cons_of_mem _ hf)
      have he:=hE e List.mem_cons_self;unfold EOk at he;have e1:(sumS (e::l)).y=e.w2+(sumS l).y:=rfl;have e2:(sumS (e::l)).z=e.w3+(sumS l).z:=rfl;rw [e1,e2,List.length_cons]
      push_cast
      omega
  omega
theorem cert_best {w:S3} (c:CertOk size es m ys gs) (b:Best es (fun v=>¬ v∈([]:List Int)) w):worthL es m=scal w∧sumS (edL es m)=w:=by
  obtain ⟨p,g,e⟩:=c;obtain ⟨⟨l,h1,h2⟩,h3⟩:=b
  have hm:Mt es (fun v=>¬ v∈([]:List Int)) (edL es m):=⟨fun e he=>⟨((edL_mt g).1 e he).1,List.not_mem_nil,List.not_mem_nil⟩,(edL_mt g).2⟩
  have i1:=sumS_in g.1 h1;have i2:=sumS_in g.1 hm;have d:=weak_dual p h1;have n:=h3 _ hm;rw [h2] at i1 d;rw [scal_bet i2 i1,edL_worth] at n
  refine ⟨by omega,bet_eq (h3 _ hm) fun q=>?_⟩
  rw [scal_bet i1 i2,edL_worth] at q;omega
end
end Go.Proofs.Ytafhipglhnfgnaa.Ab
set_option linter.unusedSimpArgs false
set_option linter.unusedVariables false
set_option linter.unnecessarySimpa false
set_option maxHeartbeats 4000000
namespace Go.Proofs.Ytafhipglhnfgnaa.Ab
open Go.RowKit
inductive Tg where
  | y | n | m | rg (i:Nat) | lk (i:Nat) | tb | lb | ah | rt
abbrev Tags:=Nat→Option Tg
structure Has (g:Tags) (h:Heap) (τ:Tg) (sz:Nat) (ty:TypeId) (v:Value) (rws:List (List Value)):Prop where
  len:∀ r∈rws,r.length=sz
  is:(v=nilV∧rws=[])∨∃ c,g c=some τ∧v=.slice (some ⟨c,0,none⟩) rws.length rws.length∧h[c]?=some ⟨rws.flatten,sz,ty,true⟩
def TagOk (b:Nat) (g:Tags) (h:Heap):Prop:=∀ c τ,g c=some τ→(b≤c+1∧c≠b)∧c < h.length
structure Tn (b:Nat) (T:Tg→Prop) (g:Tags) (h:Heap) (g':Tags) (h':Heap):Prop where
  len:h.length≤h'.length
  blk:∀ c,c < h.length→c≠b→(∀ τ,g c=some τ→¬ T τ)→h'[c]?=h[c]?
  tag:∀ c τ,¬ T τ→g c=some τ→g' c=some τ
  new:∀ c τ,c < h.length→g' c=some τ→g c=some τ
  ok:TagOk b g' h'
def FarV (v:Value) (n:Nat):Prop:=∃ c m,n≤c∧v=.slice (some ⟨c,0,none⟩) m m
section
variable {g g' g2:Tags} {h h' h2:Heap} {b sz i k:Nat} {τ:Tg} {T U:Tg→Prop} {ty:TypeId} {v:Value} {rws:List (List Value)}
theorem Has.own (a:Has g h τ sz ty v rws):(v=nilV∧rws=[])∨∃ c,g c=some τ∧v=.slice (some ⟨c,0,none⟩) rws.length rws.length∧Own h c (c+1) sz ty v rws:=by
  rcases a.is with q | ⟨c,h1,h2,h3⟩
  · exact .inl q
  · exact .inr ⟨c,h1,h2,a.len,.inr ⟨c,Nat.le_refl _,Nat.lt_succ_self _,h2,h3⟩⟩
theorem Has.rows (a:Has g h τ sz ty v rws):Rows h sz v rws:=by
  rcases a.own with ⟨rfl,rfl⟩ | ⟨c,_,_,o⟩
  · exact Rows.nil
  · exact o.rows
theorem Has.nil:Has g h τ sz ty nilV []:=⟨fun _ h=>(by cases h),.inl ⟨rfl,rfl⟩⟩
theorem Has.up (a:Has g h τ sz ty v rws) (hp:h <+: h'):Has g h' τ sz ty v rws:=by
  refine ⟨a.len,?_⟩;rcases a.is with q | ⟨c,h1,h2,h3⟩
  · exact .inl q
  · exact .inr ⟨c,h1,h2,pre_get hp h3⟩
theorem TagOk.up (a:TagOk b g h) (hp:h <+: h'):TagOk b g h':=fun c τ hc=>⟨(a c τ hc).1,Nat.lt_of_lt_of_le (a c τ hc).2 (pre_len hp)⟩
theorem Tn.refl (ok:TagOk b g h):Tn b T g h g h:=⟨Nat.le_refl _,fun _ _ _ _=>rfl,fun _ _ _ q=>q,fun _ _ _ q=>q,ok⟩
theorem Tn.trans (a:Tn b T g h g' h') (c:Tn b T g' h' g2 h2):Tn b T g h g2 h2:=by
  refine ⟨Nat.le_trans a.len c.len,fun x hx hb hT=>?_,fun x τ hT q=>c.tag x τ hT (a.tag x τ hT q),fun x τ hx q=>a.new x τ hx (c.new x τ (Nat.lt_of_lt_of_le hx a.len) q),c.ok⟩
  rw [c.blk x (Nat.lt_of_lt_of_le hx a.len) hb fun τ q=>hT τ (a.new x τ hx q),a.blk x hx hb hT]
theorem Tn.mono (a:Tn b T g h g' h') (hu:∀ τ,T τ→U τ):Tn b U g h g' h' :=
  ⟨a.len,fun c hc hb q=>a.blk c hc hb fun τ k=>fun t=>q τ k (hu τ t),fun c τ q=>a.tag c τ fun t=>q (hu τ t),a.new,a.ok⟩
theorem Tn.up (ok:TagOk b g h) (hp:h <+: h'):Tn b T g h g h' :=
  ⟨pre_len hp,fun c hc _ _=>get_of_pre hp hc,fun _ _ _ q=>q,fun _ _ _ q=>q,ok.up hp⟩
theorem Has.tn (a:Has g h τ sz ty v rws) (ok:TagOk b g h) (f:Tn b T g h g' h') (hT:¬ T τ):Has g' h' τ sz ty v rws:=by
  refine ⟨a.len,?_⟩;rcases a.is with q | ⟨c,h1,h2,h3⟩
  · exact .inl q
  · refine .inr ⟨c,f.tag c τ hT h1,h2,?_⟩
    have hc:=ok c τ h1
    rw [f.blk c hc.2 (by omega) fun τ' q=>by rw [h1] at q;cases q;exact hT]
    exact h3
theorem Has.st {vs : List Value} (a : Has g h τ sz ty v rws) (ok : TagOk b g h) (hi : i < rws.length) (hk : k + vs.length ≤ sz) :
    ∃ h',stC h (elemP v sz i k) vs=some h'∧Tn b (·=τ) g h g h'∧h'.length=h.length∧h'[b]?=h[b]?∧Has g h' τ sz ty v (rws.set i (putAt rws[i] k vs)):=by
  rcases a.own with ⟨_,rfl⟩ | ⟨c,h1,h2,o⟩
  · simp at hi
  · obtain ⟨h',e1,e2,e3⟩:=o.st hi hk
    have hcb:=ok c τ h1;have hlen:(rws.set i (putAt rws[i] k vs)).length=rws.length:=List.length_set ..
    refine ⟨h',e1,⟨Nat.le_of_eq e2.len.symm,fun x hx hb q=>e2.blk x ?_,fun _ _ _ q=>q,fun _ _ _ q=>q,fun x t q=>by rw [e2.len];exact ok x t q⟩,e2.len,e2.blk b (by omega),e3.len,.inr ⟨c,h1,by rw [hlen];exact h2,?_⟩⟩
    · have:x≠c:=fun e=>by subst e;exact q τ h1 rfl
      omega
    · rcases e3.is with ⟨q,_⟩ | ⟨c',l1,l2,_,l4⟩
      · rw [h2] at q;cases q
      · have:c'=c:=by omega
        rw [← this];exact l4
theorem Has.push {cs : List Value} (a : Has g h τ sz ty v rws) (ok : TagOk b g h) (hb : b < h.length) (hc : cs.length = sz) (hl : rws.length < lim) :
    ∃ v' h' g',appLW h sz ty 1 v (some cs)=some (v',h')∧Tn b (·=τ) g h g' h'∧h'[b]?=h[b]?∧Has g' h' τ sz ty v' (rws++[cs])∧∀ n,FarV v n→FarV v' n:=by
  rcases a.own with ⟨rfl,rfl⟩ | ⟨c,h1,h2,o⟩
  · have o:Own h h.length h.length sz ty nilV []:=Own.nil
    obtain ⟨v',h',e1,e2,e3,e4,e5⟩:=push_is o (Nat.le_refl _) [cs] (fun r hr=>by rw [List.mem_singleton.1 hr];exact hc) (by simp) (by simp;omega)
    rw [List.flatten_cons,List.flatten_nil,List.append_nil] at e1;rcases e4 with ⟨_,t1,t2,t3⟩ | ⟨q,_⟩
    · have nb:∀ x,x < h.length→h'[x]?=h[x]?:=fun x hx=>e3 x hx (.inr (Nat.zero_le _))
      refine ⟨v',h',fun x=>if x=h.length then some τ else g x,e1,⟨e2,fun x hx _ _=>nb x hx,fun x t _ q=>?_,fun x t hx q=>?_,fun x t q=>?_⟩,nb b hb,⟨e5.len,?_⟩,fun n ⟨_,_,_,q⟩=>(by cases q)⟩
      · show (if x=h.length then some τ else g x)=some t
        rw [if_neg (by have:=(ok x t q).2;omega)]
        exact q
      · have q':(if x=h.length then some τ else g x)=some t:=q
        rw [if_neg (by omega)] at q'
        exact q'
      · have q':(if x=h.length then some τ else g x)=some t:=q
        by_cases e:x=h.length
        · subst e;exact ⟨by omega,by omega⟩
        · rw [if_neg e] at q'
          have:=ok x t q'
          exact ⟨this.1,by omega⟩
      · rcases e5.is with ⟨_,q⟩ | ⟨c',l1,l2,l3,l4⟩
        · simp at q
        · have:c'=h.length:=by omega
          subst this;exact .inr ⟨h.length,if_pos rfl,l3,l4⟩
    · exact absurd rfl q
  · obtain ⟨v',h',e1,e2,e3,e4,e5⟩:=push_is o (by have:=(ok c τ h1).2;omega) [cs] (fun r hr=>by rw [List.mem_singleton.1 hr];exact hc) (by simp) (by simp;omega)
    rw [List.flatten_cons,List.flatten_nil,List.append_nil] at e1;have hcb:=ok c τ h1
    have tv:tlo v=c∧thi v=c+1:=by rw [h2];exact ⟨rfl,rfl⟩
    rcases e4 with ⟨q,_⟩ | ⟨_,t1,t2,t3⟩
    · rw [h2] at q;cases q
    · have nb:∀ x,x < h.length→x≠c→h'[x]?=h[x]?:=fun x hx hne=>e3 x hx (by omega)
      refine ⟨v',h',g,e1,⟨e2,fun x hx _ q=>nb x hx fun e=>?_,fun _ _ _ q=>q,fun _ _ _ q=>q,fun x t q=>by rw [t1];exact ok x t q⟩,nb b hb (by omega),⟨e5.len,?_⟩,fun n q=>?_⟩
      · subst e;exact q τ h1 rfl
      · rcases e5.is with ⟨_,q⟩ | ⟨c',l1,l2,l3,l4⟩
        · simp at q
        · have:c'=c:=by omega
          subst this;exact .inr ⟨c',h1,l3,l4⟩
      · obtain ⟨c2,m2,z1,z2⟩:=q
        rw [h2] at z2
        injection z2 with z2
        injection z2 with z2
        injection z2 with z2
        rcases e5.is with ⟨_,q⟩ | ⟨c',l1,l2,l3,l4⟩
        · simp at q
        · exact ⟨c',_,by omega,l3⟩
theorem Has.take {lo hi:Nat} (o:Own h lo hi sz ty v rws) (hlo:∀ c,lo≤c→c < hi→g c=some τ):Has g h τ sz ty v rws:=by
  refine ⟨o.len,?_⟩;rcases o.is with q | ⟨c,l1,l2,l3,l4⟩
  · exact .inl q
  · exact .inr ⟨c,hlo c l1 l2,l3,l4⟩
end
structure Lk where
  f:Nat
  t:Nat
def l0:Lk:=⟨0,0⟩
def lkR (x:Lk):List Value:=[.int .i64 (x.f:Nat),.int .i64 (x.t:Nat)]
theorem lkR_len (x:Lk):(lkR x).length=2:=rfl
def Lk.rev (x:Lk):Lk:=⟨x.t,x.f⟩
def IsE (es:List E) (e:Nat) (x:Lk):Prop:=e < es.length∧((x.f=vA es e∧x.t=vB es e)∨(x.f=vB es e∧x.t=vA es e))
theorem IsE.rev {es:List E} {e:Nat} {x:Lk} (h:IsE es e x):IsE es e x.rev:=⟨h.1,h.2.symm.imp (fun q=>⟨q.2,q.1⟩) fun q=>⟨q.2,q.1⟩⟩
def upI:Option Nat→Int
  | some p=>p
  | none=>-1
structure RV where
  ev:Value
  yv:Value
  nv:Value
  mv:Value
  rv:Nat→Value
  lv:Nat→Value
  bs:Nat→Nat
def BsOk (s:Sv) (bs:Nat→Nat):Prop:=∀ t i,IsTop s t→s.mate t=none→Wi s i t→Wi s (s.base t) i→bs i=s.base i
structure Nd where
  rv:Value
  lv:Value
  base:Int
  z:Int
  up:Int
  gone:Bool
def nd0:Nd:=⟨nilV,nilV,0,0,0,false⟩
def ndR (x:Nd):List Value:=[x.rv,x.lv,.int .i64 x.base,.int .i64 x.z,.int .i64 x.up,.bool x.gone]
def mkNd (s:Sv) (V:RV) (i:Nat):Nd:=⟨V.rv i,V.lv i,(V.bs i:Nat),s.z i,upI (s.up i),s.gone i⟩
def ndsOf (s:Sv) (V:RV):List Nd:=(List.range s.N).map (mkNd s V)
theorem nds_len {s:Sv} {V:RV}:(ndsOf s V).length=s.N:=by unfold ndsOf;simp
theorem nds_get {s:Sv} {V:RV} {i:Nat} (h:i < s.N):(ndsOf s V).getD i nd0=mkNd s V i:=by unfold ndsOf;simp [h]
def runB (s:Sv) (V:RV) (k:Nat) (dn:Bool):Blk:=⟨[.int .i64 (s.n:Nat),V.ev,V.yv,V.nv,V.mv,.int .i64 (k:Nat),.bool dn],7,y_l10Run,true⟩
def p7 (b k:Nat):Value:=.pointer (some ⟨b,k,some 7⟩)
def LnkOk (es:List E) (s:Sv) (i:Nat) (L:List Lk):Prop:=L.length=(s.lnk i).length∧∀ j,j < L.length→IsE es ((s.lnk i).getD j 0) (L.getD j l0)
def natI (l:List Nat):List Int:=l.map fun v:Nat=>(v:Int)
structure Rn (g:Tags) (h:Heap) (b:Nat) (es:List E) (s:Sv) (M:List Lk) (k:Nat) (dn:Bool) (V:RV):Prop where
  ok:TagOk b g h
  blk:h[b]?=some (runB s V k dn)
  e:Rows (h.take (b - 1)) 5 V.ev (edges es)
  y:Has g h .y 1 y_int V.yv (ints (ysOf s))
  nd:Has g h .n 6 y_l10Node V.nv ((ndsOf s V).map ndR)
  m:Has g h .m 2 y_l10Link V.mv (M.map lkR)
  rg:∀ i,i < s.N→Has g h (.rg i) 1 y_int (V.rv i) (ints (natI (s.mem i)))
  lk:∀ i,i < s.N→∃ L,Has g h (.lk i) 2 y_l10Link (V.lv i) (L.map lkR)∧LnkOk es s i L
section
variable {g:Tags} {h h':Heap} {b i k v:Nat} {es:List E} {s:Sv} {M:List Lk} {dn:Bool} {V:RV}
theorem Rn.up (R:Rn g h b es s M k dn V) (hp:h <+: h'):Rn g h' b es s M k dn V:=by
  have hb:=lt_of_get R.blk
  refine ⟨R.ok.up hp,pre_get hp R.blk,?_,R.y.up hp,R.nd.up hp,R.m.up hp,fun i hi=>(R.rg i hi).up hp,fun i hi=>?_⟩
  · have:h'.take (b - 1)=h.take (b - 1):=by
      obtain ⟨t,rfl⟩:=hp
      rw [List.take_append_of_le_length (by omega)]
    rw [this];exact R.e
  · obtain ⟨L,h1,h2⟩:=R.lk i hi
    exact ⟨L,h1.up hp,h2⟩
theorem Rn.bl (R:Rn g h b es s M k dn V):b < h.length:=lt_of_get R.blk
theorem Rn.ev (R:Rn g h b es s M k dn V):Rows h 5 V.ev (edges es):=R.e.up (List.take_prefix (b - 1) h)
theorem Rn.chk (R:Rn g h b es s M k dn V):chkV h (p7 b 0)=some (p7 b 0):=by simp [chkV,ldC,p7,R.blk,runB]
theorem Rn.fa (R:Rn g h b es s M k dn V):∀ i j,faV h (p7 b i) j=some (p7 b (i+j)):=fun i j=>by simp [faV,p7,R.blk,runB]
theorem Rn.ld0 (R:Rn g h b es s M k dn V):ldC h (p7 b 0) 1=some [.int .i64 (s.n:Nat)]:=by simp [ldC,p7,R.blk,runB]
theorem Rn.ld1 (R:Rn g h b es s M k dn V):ldC h (p7 b 1) 1=some [V.ev]:=by simp [ldC,p7,R.blk,runB]
theorem Rn.ld2 (R:Rn g h b es s M k dn V):ldC h (p7 b 2) 1=some [V.yv]:=by simp [ldC,p7,R.blk,runB]
theorem Rn.ld3 (R:Rn g h b es s M k dn V):ldC h (p7 b 3) 1=some [V.nv]:=by simp [ldC,p7,R.blk,runB]
theorem Rn.ld4 (R:Rn g h b es s M k dn V):ldC h (p7 b 4) 1=some [V.mv]:=by simp [ldC,p7,R.blk,runB]
theorem Rn.ld5 (R:Rn g h b es s M k dn V):ldC h (p7 b 5) 1=some [.int .i64 (k:Nat)]:=by simp [ldC,p7,R.blk,runB]
theorem Rn.ld6 (R:Rn g h b es s M k dn V):ldC h (p7 b 6) 1=some [.bool dn]:=by simp [ldC,p7,R.blk,runB]
theorem Rn.nln (R:Rn g h b es s M k dn V):lnV h V.nv=some (.int .i64 (s.N:Nat)):=by rw [R.nd.rows.lnm,nds_len]
theorem Rn.mln (R:Rn g h b es s M k dn V):lnV h V.mv=some (.int .i64 (M.length:Nat)):=R.m.rows.lnm
theorem Rn.eln (R:Rn g h b es s M k dn V):lnV h V.ev=some (.int .i64 (es.length:Nat)):=R.ev.lnm
theorem Rn.nia (R:Rn g h b es s M k dn V) (hi:i < s.N):iaV h 6 V.nv (.int .i64 (i:Nat))=some (elemP V.nv 6 i 0):=(R.nd.rows.el nd0 (by rw [nds_len];exact hi)).1
theorem Rn.nfa (R:Rn g h b es s M k dn V) (hi:i < s.N):∀ o j,faV h (elemP V.nv 6 i o) j=some (elemP V.nv 6 i (o+j)):=(R.nd.rows.el nd0 (by rw [nds_len];exact hi)).2.1
theorem Rn.nld (R:Rn g h b es s M k dn V) (hi:i < s.N):ldC h (elemP V.nv 6 i 0) 6=some (ndR (mkNd s V i)):=by
  have:=(R.nd.rows.el nd0 (i:=i) (by rw [nds_len];exact hi)).2.2
  rw [nds_get hi] at this;exact this
theorem Rn.ncell (R:Rn g h b es s M k dn V) (hi:i < s.N) {o:Nat} (ho:o < 6):ldC h (elemP V.nv 6 i o) 1=some [(ndR (mkNd s V i)).getD o undef]:=by
  have:=R.nd.rows.cell nd0 (i:=i) (o:=o) (by rw [nds_len];exact hi) ho
  rw [nds_get hi] at this;exact this
theorem Rn.n2 (R:Rn g h b es s M k dn V) (hi:i < s.N):ldC h (elemP V.nv 6 i 2) 1=some [.int .i64 (V.bs i:Nat)]:=R.ncell hi (by omega)
theorem Rn.n3 (R:Rn g h b es s M k dn V) (hi:i < s.N):ldC h (elemP V.nv 6 i 3) 1=some [.int .i64 (s.z i)]:=R.ncell hi (by omega)
theorem Rn.n4 (R:Rn g h b es s M k dn V) (hi:i < s.N):ldC h (elemP V.nv 6 i 4) 1=some [.int .i64 (upI (s.up i))]:=R.ncell hi (by omega)
theorem Rn.n5 (R:Rn g h b es s M k dn V) (hi:i < s.N):ldC h (elemP V.nv 6 i 5) 1=some [.bool (s.gone i)]:=R.ncell hi (by omega)
theorem Rn.yia (R:Rn g h b es s M k dn V) (hv:v < s.n):iaV h 1 V.yv (.int .i64 (v:Nat))=some (elemP V.yv 1 v 0)∧ldC h (elemP V.yv 1 v 0) 1=some [.int .i64 (s.y v)]:=by
  have hl:v < (ysOf s).length:=by unfold ysOf;simp;exact hv
  have:=R.y.rows.el (f:=fun n:Int=>[.int .i64 n]) (l:=ysOf s) 0 hl
  rw [ys_get hv] at this;exact ⟨this.1,this.2.2⟩
theorem Rn.mia (R:Rn g h b es s M k dn V) (hi:i < M.length):iaV h 2 V.mv (.int .i64 (i:Nat))=some (elemP V.mv 2 i 0)∧(∀ o j,faV h (elemP V.mv 2 i o) j=some (elemP V.mv 2 i (o+j)))∧ldC h (elemP V.mv 2 i 0) 2=some (lkR (M.getD i l0)):=R.m.rows.el l0 hi
theorem Rn.m0 (R:Rn g h b es s M k dn V) (hi:i < M.length):ldC h (elemP V.mv 2 i 0) 1=some [.int .i64 ((M.getD i l0).f:Nat)]:=R.m.rows.cell l0 hi (by omega)
theorem Rn.m1 (R:Rn g h b es s M k dn V) (hi:i < M.length):ldC h (elemP V.mv 2 i 1) 1=some [.int .i64 ((M.getD i l0).t:Nat)]:=R.m.rows.cell l0 hi (by omega)
end
section
variable {X:CallF} {g:Tags} {h:Heap} {b k v t:Nat} {es:List E} {s:Sv} {M:List Lk} {dn:Bool} {V:RV}
theorem k_l10Top (R:Rn g h b es s M k dn V) (hu:UpOk s) (hv:v < s.N):C T X n_spec_l10Top [p7 b 0,.int .i64 (v:Nat)] h=some (.int .i64 (top s v:Nat),h):=by
  refine C_go t_spec_l10Top rfl ?_;unfold F_spec_l10Top;simp only [go_sem]
  refine w_meas (s.N - v) (fun m t loc h'=>h'=h∧t 0=p7 b 0∧∃ u:Nat,t 1=.int .i64 (u:Nat)∧u < s.N∧m=s.N - u∧top s u=top s v) ⟨rfl,rfl,v,rfl,hv,rfl,rfl⟩ ?_
  rintro m t loc h' ⟨rfl,t0,u,t1,hul,hm,ht⟩
  cases hup:s.up u with
  | none =>
    have n4:=R.n4 hul;rw [hup] at n4
    have hn:¬ (upI none≥0):=by show ¬ ((-1:Int)≥0);omega
    have hs:=top_self hu hup;simp only [t0,t1,R.chk,R.fa,R.ld3,R.nia hul,R.nfa hul,n4,hn,Nat.zero_add,go_sem];rw [← ht,hs]
  | some p =>
    have n4:=R.n4 hul;rw [hup] at n4;have hp:=hu _ _ hup
    have hn:upI (some p)≥0:=by show ((p:Int)≥0);omega
    simp only [t0,t1,R.chk,R.fa,R.ld3,R.nia hul,R.nfa hul,n4,hn,Nat.zero_add,go_sem]
    exact ⟨s.N - p,by omega,p,rfl,hp.2,rfl,by rw [← top_step hu hup];exact ht⟩
end
end Go.Proofs.Ytafhipglhnfgnaa.Ab
set_option linter.unusedSimpArgs false
set_option linter.unusedVariables false
set_option linter.unnecessarySimpa false
set_option maxHeartbeats 4000000
namespace Go.Proofs.Ytafhipglhnfgnaa.Ab
open Go.RowKit
noncomputable def tP (p:Prop):Bool:=@decide p (Classical.propDecidable p)
theorem tP_t {p:Prop} (h:p):tP p=true:=by unfold tP;exact @decide_eq_true p (Classical.propDecidable p) h
theorem tP_f {p:Prop} (h:¬ p):tP p=false:=by unfold tP;exact @decide_eq_false p (Classical.propDecidable p) h
structure Sm (s:Sv):Prop where
  n:s.n≤9
  N:s.N≤400
  y:∀ v,v < s.n→-100000000≤s.y v∧s.y v≤100000000
  z:∀ p,p < s.N→-100000000≤s.z p∧s.z p≤100000000
def mateR (s:Sv) (i:Nat) (x:Lk):Option Lk:=if top s x.f=i then some x else if top s x.t=i then some x.rev else none
def mateL (s:Sv) (i:Nat) (M:List Lk):Option Lk:=M.findSome? (mateR s i)
structure MtOk (es:List E) (s:Sv) (M:List Lk):Prop where
  of:∀ x∈M,∃ e,IsE es e x∧s.mate (top s x.f)=some e∧s.mate (top s x.t)=some e∧top s x.f≠top s x.t∧IsTop s (top s x.f)∧IsTop s (top s x.t)
  all:∀ t e,IsTop s t→s.mate t=some e→∃ x∈M,IsE es e x
  nd:M.Pairwise fun x y=>∀ e,IsE es e x→¬ IsE es e y
  le:M.length≤400
theorem zSum_low {s:Sv} {a c:Nat}:∀ {k},k≤s.n→zSum s a c k=0
  | 0,_=>rfl
  | k+1,h=>by
    unfold zSum
    rw [zSum_low (by omega),if_neg (fun q=>by omega)]
    rfl
theorem zSum_bnd {s:Sv} (hs:Sm s) {a c:Nat}:∀ {k},k≤s.N→-100000000*(k:Int)≤zSum s a c k∧zSum s a c k≤100000000*(k:Int)
  | 0,_=>by unfold zSum;omega
  | k+1,h=>by
    have ih:=zSum_bnd hs (a:=a) (c:=c) (k:=k) (by omega)
    have hz:=hs.z k (by omega)
    unfold zSum
    split<;>omega
theorem ends_lt {es:List E} {s:Sv} (K:Ok es s) {e:Nat} {x:Lk} (h:IsE es e x):x.f < s.n∧x.t < s.n:=by
  have:=K.ed e h.1
  rcases h.2 with ⟨h1,h2⟩ | ⟨h1,h2⟩<;>omega
theorem isE_uniq {es:List E} {size:Int} (g:GOk size es) {e e':Nat} {x:Lk} (h:IsE es e x) (h':IsE es e' x):e=e':=by
  have a1:=gok_int g h.1;have a2:=gok_int g h'.1;have i1:=edge_ix g h.1;have i2:=edge_ix g h'.1
  have e1:vA es e=vA es e'∧vB es e=vB es e':=by
    rcases h.2 with ⟨h1,h2⟩ | ⟨h1,h2⟩<;>rcases h'.2 with ⟨h3,h4⟩ | ⟨h3,h4⟩<;>omega
  rw [a1.1,a1.2.1,e1.1,e1.2,← a2.1,← a2.2.1] at i1;have:(e:Int)=e':=i1.symm.trans i2;omega
theorem isE_jn {es:List E} {s:Sv} {e a c:Nat} (hj:Jn es s e a c):∀ {x:Lk},IsE es e x→(Wi s x.f a∧Wi s x.t c)∨(Wi s x.t a∧Wi s x.f c):=fun h=>by
  rcases h.2 with ⟨h1,h2⟩ | ⟨h1,h2⟩<;>rcases hj.2 with ⟨h3,h4⟩ | ⟨h3,h4⟩<;>rw [h1,h2]
  · exact .inl ⟨h3,h4⟩
  · exact .inr ⟨h3,h4⟩
  · exact .inr ⟨h3,h4⟩
  · exact .inl ⟨h3,h4⟩
section
variable {es:List E} {s:Sv} {M:List Lk} {i e:Nat} {x:Lk}
theorem mateL_some (K:Ok es s) (m:MtOk es s M) (h:mateL s i M=some x):IsTop s i∧∃ e,IsE es e x∧s.mate i=some e∧top s x.f=i∧IsTop s (top s x.t)∧s.mate (top s x.t)=some e∧top s x.t≠i:=by
  obtain ⟨u,hu,hr⟩:=List.exists_of_findSome?_eq_some h;obtain ⟨e,h1,h2,h3,h4,h5,h6⟩:=m.of u hu;unfold mateR at hr;split at hr
  · next c =>
    cases hr;rw [c] at h2 h4 h5
    exact ⟨h5,e,h1,h2,c,h6,h3,fun q=>h4 q.symm⟩
  · split at hr
    · next c =>
      cases hr;rw [c] at h3 h4 h6;exact ⟨h6,e,h1.rev,h3,c,h5,h2,h4⟩
    · cases hr
theorem mateL_none (K:Ok es s) (m:MtOk es s M) (h:mateL s i M=none) (ht:IsTop s i):s.mate i=none:=by
  cases hm:s.mate i with
  | none=>rfl
  | some e =>
    exfalso;obtain ⟨u,hu,h1⟩:=m.all i e ht hm;have h2:=List.findSome?_eq_none_iff.1 h u hu;obtain ⟨_,o,ho,hne,hmo,hj⟩:=K.mate i e ht hm;have hi:=K.upOk;unfold mateR at h2;rcases isE_jn hj h1 with ⟨q,_⟩ | ⟨q,_⟩
    · rw [if_pos (top_of hi q ht.2.1)] at h2;cases h2
    · by_cases c:top s u.f=i
      · rw [if_pos c] at h2;cases h2
      · rw [if_neg c,if_pos (top_of hi q ht.2.1)] at h2;cases h2
theorem mateL_iff (K:Ok es s) (m:MtOk es s M) (ht:IsTop s i):(mateL s i M).isSome=true↔∃ e,s.mate i=some e:=by
  constructor
  · intro h
    cases hm:mateL s i M with
    | none=>rw [hm] at h;cases h
    | some x=>obtain ⟨_,e,_,h2,_⟩:=mateL_some K m hm;exact ⟨e,h2⟩
  · rintro ⟨e,he⟩
    cases hm:mateL s i M with
    | none=>rw [mateL_none K m hm ht] at he;cases he
    | some x=>rfl
end
section
variable {X:CallF} {g:Tags} {h:Heap} {b k v t i:Nat} {es:List E} {s:Sv} {M:List Lk} {dn:Bool} {V:RV}
open Classical in
theorem k_l10Within (R:Rn g h b es s M k dn V) (hu:UpOk s) (hv:v < s.N):C T X n_spec_l10Within [p7 b 0,.int .i64 (v:Nat),.int .i64 (t:Nat)] h=some (.bool (tP (Wi s v t)),h):=by
  refine C_go t_spec_l10Within rfl ?_;unfold F_spec_l10Within;simp only [go_sem]
  refine w_meas (s.N+1) (fun m t' loc h'=>h'=h∧t' 0=p7 b 0∧t' 2=.int .i64 (t:Nat)∧((∃ u:Nat,t' 1=.int .i64 (u:Nat)∧u < s.N∧m+u=s.N+1+v∧v≤u∧(Wi s u t↔Wi s v t))∨(t' 1=.int .i64 (-1)∧¬ Wi s v t))) ⟨rfl,rfl,rfl,.inl ⟨v,rfl,hv,by omega,Nat.le_refl _,Iff.rfl⟩⟩ ?_
  rintro m t' loc h' ⟨rfl,t0,t2,⟨u,t1,hul,hm,hvu,hw⟩ | ⟨t1,hw⟩⟩
  · by_cases c:(u:Int)=(t:Int)
    · have e:u=t:=by omega
      subst e
      have hc:((u:Int)≥0):=by omega
      have hy:Wi s v u:=hw.1 (.refl _);simp only [t0,t1,t2,hc,go_sem];exact (tP_t hy).symm
    · have hc:((u:Int)≥0):=by omega
      have n4:=R.n4 hul
      cases hup:s.up u with
      | none =>
        rw [hup] at n4;have n4':ldC h' (elemP V.nv 6 u 4) 1=some [.int .i64 (-1)]:=n4
        have hn:¬ Wi s v t:=fun q=>by
          have:=(hw.2 q).top_eq hup;omega
        simp only [t0,t1,t2,c,hc,R.chk,R.fa,R.ld3,R.nia hul,R.nfa hul,n4',Nat.zero_add,go_sem]
        exact ⟨m - 1,by omega,.inr hn⟩
      | some p =>
        rw [hup] at n4;have n4':ldC h' (elemP V.nv 6 u 4) 1=some [.int .i64 (p:Nat)]:=n4;have hp:=hu _ _ hup
        have hw':Wi s p t↔Wi s v t:=by
          rw [← hw];constructor
          · exact fun q=>.step hup q
          · intro q
            cases q with
            | refl=>omega
            | step e q=>rw [hup] at e;cases e;exact q
        simp only [t0,t1,t2,c,hc,R.chk,R.fa,R.ld3,R.nia hul,R.nfa hul,n4',Nat.zero_add,go_sem]
        exact ⟨m - (p - u),by omega,p,rfl,hp.2,by omega,by omega,hw'⟩
  · have hc:¬ ((-1:Int)=(t:Int)):=by omega
    simp only [t0,t1,t2,hc,go_sem];exact (tP_f hw).symm
theorem up_nn {o:Option Nat}:(upI o < 0)↔o=none:=by
  cases o with
  | none=>exact ⟨fun _=>rfl,fun _=>by show (-1:Int) < 0;omega⟩
  | some p=>exact ⟨fun q=>by have:(p:Int) < 0:=q;omega,fun q=>by cases q⟩
open Classical in
theorem k_l10IsTop (R:Rn g h b es s M k dn V) (hi:i < s.N):C T X n_spec_l10IsTop [p7 b 0,.int .i64 (i:Nat)] h=some (.bool (tP (IsTop s i)),h):=by
  refine C_go t_spec_l10IsTop rfl ?_;unfold F_spec_l10IsTop;have n5:=R.n5 hi;have n4:=R.n4 hi
  cases hg:s.gone i with
  | true =>
    rw [hg] at n5;simp only [R.chk,R.fa,R.ld3,R.nia hi,R.nfa hi,n5,Nat.zero_add,List.prefix_refl,go_sem]
    exact (tP_f fun q=>by rw [q.2.2] at hg;cases hg).symm
  | false =>
    rw [hg] at n5
    by_cases c:upI (s.up i) < 0
    · simp only [R.chk,R.fa,R.ld3,R.nia hi,R.nfa hi,n5,n4,c,Nat.zero_add,List.prefix_refl,go_sem]
      exact (tP_t ⟨hi,up_nn.1 c,hg⟩).symm
    · simp only [R.chk,R.fa,R.ld3,R.nia hi,R.nfa hi,n5,n4,c,Nat.zero_add,List.prefix_refl,go_sem]
      exact (tP_f fun q=>c (up_nn.2 q.2.1)).symm
def mateV (o:Option Lk):Value:=.tuple ⟨[.agg ⟨lkR (o.getD l0)⟩,.bool o.isSome]⟩
theorem k_l10Mate (R:Rn g h b es s M k dn V) (hu:UpOk s) (hM:∀ x∈M,x.f < s.N∧x.t < s.N) (hl:M.length≤400):C T X n_spec_l10Mate [p7 b 0,.int .i64 (i:Nat)] h=some (mateV (mateL s i M),h):=by
  refine C_go t_spec_l10Mate rfl ?_;unfold F_spec_l10Mate mateV;simp only [go_sem]
  refine w_for M.length (fun j t loc h'=>h'=h∧t 0=p7 b 0∧t 1=.int .i64 (i:Nat)∧t 6=.int .i64 (j:Nat)∧loc 4=some [.int .i64 0,.int .i64 0]∧∀ q,q < j→mateR s i (M.getD q l0)=none) ⟨rfl,rfl,rfl,rfl,rfl,fun q hq=>by omega⟩ ?_
  rintro j t loc h' hj ⟨rfl,t0,t1,t6,l4,hq⟩;simp only [t0,t6,R.chk,R.fa,R.ld4,R.mln,Nat.zero_add,go_sem]
  refine w_open (by simp only [go_sem];rfl) ?_ ?_<;>intro hc
  · have hj1:j < M.length:=by omega
    have hw:IntKind.i64.wrap ((j:Int)+1)=((j+1:Nat):Int):=w64 (by omega) (by omega)
    obtain ⟨m1,m2,m3⟩:=R.mia hj1;obtain ⟨hx1,hx2⟩:=hM _ (getD_mem (d:=l0) hj1);obtain ⟨x,hx⟩:∃ x,x=M.getD j l0:=⟨_,rfl⟩;rw [← hx] at m3 hx1 hx2;have c1:=k_l10Top (X:=X) R hu hx1;have c2:=k_l10Top (X:=X) R hu hx2
    have found:∀ y,mateR s i x=some y→mateL s i M=some y:=fun y hy=>by
      unfold mateL
      have e:M=M.take j++x::M.drop (j+1):=by rw [hx,List.getD_eq_getElem?_getD,List.getElem?_eq_getElem hj1,Option.getD_some,← List.drop_eq_getElem_cons hj1,List.take_append_drop]
      rw [e,List.findSome?_append]
      have:(M.take j).findSome? (mateR s i)=none:=by
        rw [List.findSome?_eq_none_iff];intro u hu';obtain ⟨q,hq1,hq2⟩:=mem_getD (d:=l0) hu';rw [List.length_take] at hq1
        have:=hq q (by omega)
        rw [← hq2]
        have e2:(M.take j).getD q l0=M.getD q l0:=by simp [List.getD_eq_getElem?_getD,List.getElem?_take,show q < j by omega]
        rw [e2];exact this
      rw [this];simp [hy]
    by_cases d1:(top s x.f:Int)=(i:Int)
    · have hm:=found x (by unfold mateR;rw [if_pos (by omega)])
      rw [hm];simp only [t0,t1,t6,l4,R.chk,R.fa,R.ld4,m1,m2,m3,lkR,c1,d1,Nat.zero_add,List.prefix_refl,go_sem];rfl
    · by_cases d2:(top s x.t:Int)=(i:Int)
      · have hm:=found x.rev (by unfold mateR;rw [if_neg (by omega),if_pos (by omega)])
        rw [hm];simp only [t0,t1,t6,l4,R.chk,R.fa,R.ld4,m1,m2,m3,lkR,c1,c2,d1,d2,Nat.zero_add,List.prefix_refl,go_sem];rfl
      · simp only [t0,t1,t6,l4,R.chk,R.fa,R.ld4,m1,m2,m3,lkR,c1,c2,d1,d2,hw,Nat.zero_add,List.prefix_refl,go_sem]
        refine ⟨hj1,fun q hq'=>?_⟩
        by_cases e:q=j
        · rw [e,← hx]
          unfold mateR
          rw [if_neg (by omega),if_neg (by omega)]
        · exact hq q (by omega)
  · have hm:mateL s i M=none:=by
      unfold mateL;rw [List.findSome?_eq_none_iff];intro u hu';obtain ⟨q,hq1,hq2⟩:=mem_getD (d:=l0) hu';rw [← hq2]
      exact hq q (by omega)
    rw [hm];simp only [t0,t1,t6,l4,go_sem];rfl
def baseR (s:Sv) (bs:Nat→Nat) (M:List Lk) (i:Nat):Nat:=match mateL s i M with
  | some x=>x.f
  | none=>bs i
theorem k_l10Base (R:Rn g h b es s M k dn V) (hu:UpOk s) (hM:∀ x∈M,x.f < s.N∧x.t < s.N) (hl:M.length≤400) (hi:i < s.N):C T X n_spec_l10Base [p7 b 0,.int .i64 (i:Nat)] h=some (.int .i64 ((baseR s V.bs M i:Nat):Int),h):=by
  have c:=k_l10Mate (X:=X) (i:=i) R hu hM hl;unfold mateV at c;refine C_go t_spec_l10Base rfl ?_;unfold F_spec_l10Base baseR
  cases hm:mateL s i M with
  | some x =>
    rw [hm] at c;simp only [Option.getD_some,Option.isSome_some,lkR] at c;simp only [c,R.chk,R.fa,R.ld3,R.nia hi,R.nfa hi,R.n2 hi,Nat.zero_add,List.prefix_refl,go_sem]
  | none =>
    rw [hm] at c;simp only [Option.getD_none,Option.isSome_none,lkR] at c;simp only [c,R.chk,R.fa,R.ld3,R.nia hi,R.nfa hi,R.n2 hi,Nat.zero_add,List.prefix_refl,go_sem]
def leastI (a b:Int):Int:=if a < 0∨b < a then b else a
theorem k_l10Least {a c:Int}:C T X n_spec_l10Least [.int .i64 a,.int .i64 c] h=some (.int .i64 (leastI a c),h):=by
  refine C_go t_spec_l10Least rfl ?_;unfold F_spec_l10Least leastI
  by_cases c1:a < 0
  · rw [if_pos (.inl c1)]
    simp only [c1,go_sem]
  · by_cases c2:c < a
    · rw [if_pos (.inr c2)]
      simp only [c1,c2,go_sem]
    · rw [if_neg (by omega)]
      simp only [c1,c2,go_sem]
end
end Go.Proofs.Ytafhipglhnfgnaa.Ab
set_option linter.unusedSimpArgs false
set_option linter.unusedVariables false
set_option linter.unnecessarySimpa false
set_option maxHeartbeats 4000000
namespace Go.Proofs.Ytafhipglhnfgnaa.Ab
open Go.RowKit
section
variable {X:CallF} {g:Tags} {h:Heap} {b k v t i:Nat} {es:List E} {s:Sv} {M:List Lk} {dn:Bool} {V:RV}
open Classical in
theorem k_l10Slack {size:Int} (R:Rn g h b es s M k dn V) (K:Ok es s) (hs:Sm s) (gk:GOk size es) (hi:i < es.length):C T X n_spec_l10Slack [p7 b 0,edgeV (es.getD i e0)] h=some (.int .i64 (slk es s i),h):=by
  obtain ⟨hE,hEB⟩:=K.ed i hi;obtain ⟨ga,gb,_⟩:=gok_int gk hi;obtain ⟨w0,w1⟩:=gok_w gk hi;have hu:=K.upOk;have nN:=K.nN;have cs:=k_spec_Scalar (X:=X) (h:=h) (e:=es.getD i e0) (eok_w (gok_mem gk (getD_mem (d:=e0) hi)));obtain ⟨q,hq⟩:∃ q,q=es.getD i e0:=⟨_,rfl⟩;have hsc:scalar (es.getD i e0).w1 (es.getD i e0).w2 (es.getD i e0).w3=vW es i:=rfl;rw [hsc] at cs;rw [← hq] at cs ga gb ⊢;unfold edgeV edgeR at cs ⊢;rw [ga,gb] at cs ⊢;obtain ⟨y1,y2⟩:=hs.y _ hE;obtain ⟨y3,y4⟩:=hs.y _ hEB.1;obtain ⟨a1,a2⟩:=R.yia hE;obtain ⟨b1,b2⟩:=R.yia hEB.1
  have x1:IntKind.i64.wrap (s.y (vA es i)+s.y (vB es i))=s.y (vA es i)+s.y (vB es i):=w64 (by omega) (by omega)
  have x2:IntKind.i64.wrap (2*vW es i)=2*vW es i:=w64 (by omega) (by omega)
  have x3:IntKind.i64.wrap (s.y (vA es i)+s.y (vB es i) - 2*vW es i)=s.y (vA es i)+s.y (vB es i) - 2*vW es i:=w64 (by omega) (by omega)
  refine C_go t_spec_l10Slack rfl ?_;unfold F_spec_l10Slack;simp only [cs,R.chk,R.fa,R.ld0,R.ld2,a1,a2,b1,b2,x1,x2,x3,Nat.zero_add,List.prefix_refl,zeros,fillAt,go_sem]
  refine w_for (s.N - s.n) (fun j t' loc h'=>h'=h∧t' 0=p7 b 0∧t' 6=.int .i64 ((s.n+j:Nat):Int)∧loc 3=some [.int .i64 (vA es i:Int),.int .i64 (vB es i:Int),.int .i64 q.w1,.int .i64 q.w2,.int .i64 q.w3]∧t' 5=.int .i64 (s.y (vA es i)+s.y (vB es i) - 2*vW es i+zSum s (vA es i) (vB es i) (s.n+j))) ⟨rfl,rfl,rfl,rfl,by rw [zSum_low (by omega),Int.add_zero];rfl⟩ ?_
  rintro j t' loc h' hj ⟨rfl,t0,t6,l3,t5⟩;simp only [t0,t6,R.chk,R.fa,R.ld3,R.nln,Nat.zero_add,go_sem]
  refine w_open (by simp only [go_sem];rfl) ?_ ?_<;>intro hc
  · have hj1:s.n+j < s.N:=by omega
    have h9:=hs.N
    have hw:IntKind.i64.wrap (((s.n+j:Nat):Int)+1)=((s.n+(j+1):Nat):Int):=w64 (by omega) (by omega)
    have n5:=R.n5 hj1;have n3:=R.n3 hj1
    have d1:=k_l10Within (X:=X) (t:=s.n+j) R hu (v:=vA es i) (by omega)
    have d2:=k_l10Within (X:=X) (t:=s.n+j) R hu (v:=vB es i) (by omega)
    obtain ⟨z1,z2⟩:=hs.z _ hj1
    obtain ⟨z3,z4⟩:=zSum_bnd hs (a:=vA es i) (c:=vB es i) (k:=s.n+j) (by omega)
    have h9:=hs.N;have zs:zSum s (vA es i) (vB es i) (s.n+(j+1))=zSum s (vA es i) (vB es i) (s.n+j)+if s.n≤s.n+j∧Wi s (vA es i) (s.n+j)∧Wi s (vB es i) (s.n+j) then s.z (s.n+j) else 0:=rfl
    cases hg:s.gone (s.n+j) with
    | true =>
      rw [hg] at n5
      have nw:¬ (s.n≤s.n+j∧Wi s (vA es i) (s.n+j)∧Wi s (vB es i) (s.n+j)):=fun q=>by
        rcases q.2.1.last with e | ⟨m,e,_⟩
        · omega
        · have:=(K.up _ _ e).2.1.2.2;rw [hg] at this;cases this
      rw [if_neg nw,Int.add_zero] at zs;simp only [t0,t5,t6,l3,R.chk,R.fa,R.ld3,R.nia hj1,R.nfa hj1,n5,hw,Nat.zero_add,List.prefix_refl,go_sem]
      exact ⟨by omega,by rw [zs]⟩
    | false =>
      rw [hg] at n5
      by_cases c1:Wi s (vA es i) (s.n+j)
      · rw [tP_t c1] at d1
        by_cases c2:Wi s (vB es i) (s.n+j)
        · rw [tP_t c2] at d2
          rw [if_pos ⟨by omega,c1,c2⟩] at zs
          have x4:IntKind.i64.wrap (s.y (vA es i)+s.y (vB es i) - 2*vW es i+zSum s (vA es i) (vB es i) (s.n+j)+s.z (s.n+j))=s.y (vA es i)+s.y (vB es i) - 2*vW es i+zSum s (vA es i) (vB es i) (s.n+j)+s.z (s.n+j):=w64 (by omega) (by omega)
          simp only [t0,t5,t6,l3,R.chk,R.fa,R.ld3,R.nia hj1,R.nfa hj1,n5,n3,d1,d2,x4,hw,Nat.zero_add,List.prefix_refl,go_sem]
          exact ⟨by omega,by rw [zs,Int.add_assoc]⟩
        · rw [tP_f c2] at d2
          rw [if_neg (fun q=>c2 q.2.2),Int.add_zero] at zs
          simp only [t0,t5,t6,l3,R.chk,R.fa,R.ld3,R.nia hj1,R.nfa hj1,n5,d1,d2,hw,Nat.zero_add,List.prefix_refl,go_sem]
          exact ⟨by omega,by rw [zs]⟩
      · rw [tP_f c1] at d1
        rw [if_neg (fun q=>c1 q.2.1),Int.add_zero] at zs
        simp only [t0,t5,t6,l3,R.chk,R.fa,R.ld3,R.nia hj1,R.nfa hj1,n5,d1,hw,Nat.zero_add,List.prefix_refl,go_sem]
        exact ⟨by omega,by rw [zs]⟩
  · have:s.n+j=s.N:=by omega
    simp only [t5,go_sem];rw [this];rfl
def FirstOk (s:Sv) (L:List Nat) (i:Nat):Prop:=IsTop s i∧s.z i=0∧(L=[]∨L.getD i 0=2)
theorem k_l10First {lv : Value} {L : List Nat} (R : Rn g h b es s M k dn V) (hs : Sm s) (nN : s.n ≤ s.N) (hL : Rows h 1 lv (ints (natI L))) (hl : L = [] ∨ L.length = s.N) :
    ∃ r:Int,C T X n_spec_l10First [p7 b 0,lv] h=some (.int .i64 r,h)∧((r=-1∧∀ i,s.n≤i→i < s.N→¬ FirstOk s L i)∨∃ i:Nat,r=i∧s.n≤i∧i < s.N∧FirstOk s L i):=by
  suffices hx:∃ w hh,C T X n_spec_l10First [p7 b 0,lv] h=some (w,hh)∧hh=h∧∃ r:Int,w=.int .i64 r∧((r=-1∧∀ i,s.n≤i→i < s.N→¬ FirstOk s L i)∨∃ i:Nat,r=i∧s.n≤i∧i < s.N∧FirstOk s L i) by
    obtain ⟨w,hh,c,rfl,r,rfl,q⟩:=hx;exact ⟨r,c,q⟩
  refine C_ex t_spec_l10First rfl ?_;unfold F_spec_l10First;simp only [R.chk,R.fa,R.ld0,Nat.zero_add,go_sem]
  refine w_for (s.N - s.n) (fun j t' loc h'=>h'=h∧t' 0=p7 b 0∧t' 1=lv∧t' 5=.int .i64 ((s.n+j:Nat):Int)∧∀ q,s.n≤q→q < s.n+j→¬ FirstOk s L q) ⟨rfl,rfl,rfl,rfl,fun q h1 h2=>by omega⟩ ?_
  rintro j t' loc h' hj ⟨rfl,t0,t1,t5,hq⟩;have h9:=hs.N;simp only [t0,t5,R.chk,R.fa,R.ld3,R.nln,Nat.zero_add,go_sem]
  refine w_open (by simp only [go_sem];rfl) ?_ ?_<;>intro hc
  · have hj1:s.n+j < s.N:=by omega
    have hw:IntKind.i64.wrap (((s.n+j:Nat):Int)+1)=((s.n+(j+1):Nat):Int):=w64 (by omega) (by omega)
    have n3:=R.n3 hj1;have d1:=k_l10IsTop (X:=X) R hj1
    have next:¬ FirstOk s L (s.n+j)→∀ q,s.n≤q→q < s.n+(j+1)→¬ FirstOk s L q:=fun hn q h1 h2=>by
      by_cases e:q=s.n+j
      · rw [e];exact hn
      · exact hq q h1 (by omega)
    by_cases c1:IsTop s (s.n+j)
    rotate_left
    · rw [tP_f c1] at d1
      simp only [t0,t1,t5,R.chk,R.fa,R.ld3,R.nia hj1,R.nfa hj1,n3,d1,hw,Nat.zero_add,List.prefix_refl,go_sem]
      exact ⟨by omega,next fun q=>c1 q.1⟩
    rw [tP_t c1] at d1
    by_cases c2:s.z (s.n+j)=0
    rotate_left
    · simp only [t0,t1,t5,R.chk,R.fa,R.ld3,R.nia hj1,R.nfa hj1,n3,d1,c2,hw,Nat.zero_add,List.prefix_refl,go_sem]
      exact ⟨by omega,next fun q=>c2 q.2.1⟩
    have hln:lnV h' lv=some (.int .i64 (L.length:Nat)):=by
      have:=hL.ln;rw [ints_len] at this;unfold natI at this;rw [List.length_map] at this;exact this
    by_cases c3:(L.length:Int)=0
    · simp only [t0,t1,t5,hln,R.chk,R.fa,R.ld3,R.nia hj1,R.nfa hj1,n3,d1,c2,c3,hw,Nat.zero_add,List.prefix_refl,go_sem]
      exact ⟨_,rfl,.inr ⟨s.n+j,rfl,by omega,hj1,c1,c2,.inl (List.length_eq_zero_iff.1 (by omega))⟩⟩
    · have hll:L.length=s.N:=by
        rcases hl with q | q
        · rw [q] at c3;simp at c3
        · exact q
      have hlj:s.n+j < (natI L).length:=by unfold natI;rw [List.length_map];omega
      have el:=hL.el (f:=fun n:Int=>[.int .i64 n]) (l:=natI L) 0 hlj
      have hg:(natI L).getD (s.n+j) 0=((L.getD (s.n+j) 0:Nat):Int):=by
        unfold natI
        simp [List.getD_eq_getElem?_getD,show s.n+j < L.length by omega]
      rw [hg] at el
      by_cases c4:((L.getD (s.n+j) 0:Nat):Int)=2
      · simp only [t0,t1,t5,hln,el.1,el.2.2,R.chk,R.fa,R.ld3,R.nia hj1,R.nfa hj1,n3,d1,c2,c3,c4,hw,Nat.zero_add,List.prefix_refl,go_sem]
        exact ⟨_,rfl,.inr ⟨s.n+j,rfl,by omega,hj1,c1,c2,.inr (by omega)⟩⟩
      · simp only [t0,t1,t5,hln,el.1,el.2.2,R.chk,R.fa,R.ld3,R.nia hj1,R.nfa hj1,n3,d1,c2,c3,c4,hw,Nat.zero_add,List.prefix_refl,go_sem]
        refine ⟨by omega,next fun q=>?_⟩
        rcases q.2.2 with e | e
        · rw [e] at c3;simp at c3
        · omega
  · simp only [go_sem]
    exact ⟨_,rfl,.inl ⟨rfl,fun i h1 h2=>hq i h1 (by omega)⟩⟩
end
end Go.Proofs.Ytafhipglhnfgnaa.Ab
set_option linter.unusedSimpArgs false
set_option linter.unusedVariables false
set_option linter.unnecessarySimpa false
set_option maxHeartbeats 4000000
namespace Go.Proofs.Ytafhipglhnfgnaa.Ab
open Go.RowKit
structure Tl (es:List E) (s:Sv) (l:Lb) (L:List Nat) (A:List Lk) (Q:List Nat):Prop where
  ln:L.length=s.N∧A.length=s.N∧Q.length=s.N
  lab:∀ t,t < s.N→L.getD t 0=l.lab t
  ah:∀ t o,t < s.N→l.ahead t=some o→∃ e,l.byE t=some e∧IsE es e (A.getD t l0)∧top s (A.getD t l0).f=o∧top s (A.getD t l0).t=t
  rt:∀ t,t < s.N→l.lab t≠0→∃ ws,IsWay l ws∧ws.getD 0 0=t∧Q.getD t 0=ws.getD (ws.length - 1) 0
def slv (c n:Nat):Value:=.slice (some ⟨c,0,none⟩) n n
def p3 (b k:Nat):Value:=.pointer (some ⟨b,k,some 3⟩)
structure Tp (h:Heap) (lo N:Nat) (L:List Nat) (A:List Lk) (Q:List Nat):Prop where
  blk:h[lo+3]?=some ⟨[slv lo N,slv (lo+1) N,slv (lo+2) N],3,y_l10Tops,true⟩
  l:Own h lo (lo+1) 1 y_int (slv lo N) (ints (natI L))
  a:Own h (lo+1) (lo+2) 2 y_l10Link (slv (lo+1) N) (A.map lkR)
  q:Own h (lo+2) (lo+3) 1 y_int (slv (lo+2) N) (ints (natI Q))
  ln:L.length=N∧A.length=N∧Q.length=N
theorem natI_get {l:List Nat} {i:Nat} (h:i < l.length):(natI l).getD i 0=((l.getD i 0:Nat):Int):=by
  unfold natI;simp [List.getD_eq_getElem?_getD,h]
theorem natI_len {l:List Nat}:(natI l).length=l.length:=by unfold natI;rw [List.length_map]
section
variable {h h':Heap} {lo N i:Nat} {L Q:List Nat} {A:List Lk}
theorem Tp.up (P:Tp h lo N L A Q) (hp:h <+: h'):Tp h' lo N L A Q:=⟨pre_get hp P.blk,P.l.up hp,P.a.up hp,P.q.up hp,P.ln⟩
theorem Tp.tn {g g':Tags} {b:Nat} {T:Tg→Prop} (P:Tp h lo N L A Q) (f:Tn b T g h g' h') (hb:b < lo) (hg:∀ c,lo≤c→c < lo+4→g c=none):Tp h' lo N L A Q:=by
  have hl:=lt_of_get P.blk
  have key:∀ c,lo≤c→c < lo+4→h'[c]?=h[c]?:=fun c h1 h2=>f.blk c (by omega) (by omega) fun τ q=>by rw [hg c h1 h2] at q;cases q
  have own:∀ {c sz:Nat} {ty:TypeId} {v:Value} {rws:List (List Value)},lo≤c→c < lo+4→Own h c (c+1) sz ty v rws→Own h' c (c+1) sz ty v rws:=fun h1 h2 o=>by
    refine ⟨o.len,?_⟩;rcases o.is with q | ⟨x,l1,l2,l3,l4⟩
    · exact .inl q
    · exact .inr ⟨x,l1,l2,l3,by rw [key x (by omega) (by omega)];exact l4⟩
  exact ⟨by rw [key _ (by omega) (by omega)];exact P.blk,own (by omega) (by omega) P.l,own (by omega) (by omega) P.a,own (by omega) (by omega) P.q,P.ln⟩
theorem Tp.chk (P:Tp h lo N L A Q):chkV h (p3 (lo+3) 0)=some (p3 (lo+3) 0):=by simp [chkV,ldC,p3,P.blk]
theorem Tp.fa (P:Tp h lo N L A Q):∀ i j,faV h (p3 (lo+3) i) j=some (p3 (lo+3) (i+j)):=fun i j=>by simp [faV,p3,P.blk]
theorem Tp.ld0 (P:Tp h lo N L A Q):ldC h (p3 (lo+3) 0) 1=some [slv lo N]:=by simp [ldC,p3,P.blk]
theorem Tp.ld1 (P:Tp h lo N L A Q):ldC h (p3 (lo+3) 1) 1=some [slv (lo+1) N]:=by simp [ldC,p3,P.blk]
theorem Tp.ld2 (P:Tp h lo N L A Q):ldC h (p3 (lo+3) 2) 1=some [slv (lo+2) N]:=by simp [ldC,p3,P.blk]
theorem nat_el {v:Value} {l:List Nat} (r:Rows h 1 v (ints (natI l))) (hi:i < l.length):iaV h 1 v (.int .i64 (i:Nat))=some (elemP v 1 i 0)∧ldC h (elemP v 1 i 0) 1=some [.int .i64 ((l.getD i 0:Nat):Int)]:=by
  have el:=r.el (f:=fun n:Int=>[.int .i64 n]) (l:=natI l) 0 (i:=i) (by rw [natI_len];exact hi)
  rw [natI_get hi] at el;exact ⟨el.1,el.2.2⟩
theorem nat_ln {v:Value} {l:List Nat} (r:Rows h 1 v (ints (natI l))):lnV h v=some (.int .i64 (l.length:Nat)):=by
  have:=r.ln;rw [ints_len,natI_len] at this;exact this
theorem Tp.lel (P:Tp h lo N L A Q) (hi:i < N):iaV h 1 (slv lo N) (.int .i64 (i:Nat))=some (elemP (slv lo N) 1 i 0)∧ldC h (elemP (slv lo N) 1 i 0) 1=some [.int .i64 ((L.getD i 0:Nat):Int)]:=nat_el P.l.rows (by rw [P.ln.1];exact hi)
theorem Tp.qel (P:Tp h lo N L A Q) (hi:i < N):iaV h 1 (slv (lo+2) N) (.int .i64 (i:Nat))=some (elemP (slv (lo+2) N) 1 i 0)∧ldC h (elemP (slv (lo+2) N) 1 i 0) 1=some [.int .i64 ((Q.getD i 0:Nat):Int)]:=nat_el P.q.rows (by rw [P.ln.2.2];exact hi)
theorem Tp.ael (P:Tp h lo N L A Q) (hi:i < N):iaV h 2 (slv (lo+1) N) (.int .i64 (i:Nat))=some (elemP (slv (lo+1) N) 2 i 0)∧(∀ o j,faV h (elemP (slv (lo+1) N) 2 i o) j=some (elemP (slv (lo+1) N) 2 i (o+j)))∧ldC h (elemP (slv (lo+1) N) 2 i 0) 2=some (lkR (A.getD i l0)) :=
  P.a.rows.el l0 (by rw [P.ln.2.1];exact hi)
theorem Tp.a0 (P:Tp h lo N L A Q) (hi:i < N):ldC h (elemP (slv (lo+1) N) 2 i 0) 1=some [.int .i64 ((A.getD i l0).f:Nat)]:=P.a.rows.cell l0 (by rw [P.ln.2.1];exact hi) (by omega)
end
section
variable {es:List E} {s:Sv} {l:Lb} {rk:Nat→Nat} {t:Nat} {L Q:List Nat} {A:List Lk} {ws:List Nat}
theorem way_lb (F:Fo es s l rk):∀ {ws:List Nat},IsWay l ws→l.lab (ws.getD 0 0)≠0→∀ t∈ws,l.lab t≠0∧rk t≤rk (ws.getD 0 0)
  | [a],_,h0,t,ht=>by
    rw [List.mem_singleton.1 ht];exact ⟨h0,Nat.le_refl _⟩
  | a::o::xs,h,h0,t,ht=>by
    obtain ⟨h1,h2⟩:=h;have ha:l.lab a≠0:=h0;obtain ⟨r1,r2,_⟩:=F.rkAhead ha h1;rcases List.mem_cons.1 ht with e | ht
    · rw [e];exact ⟨ha,Nat.le_refl _⟩
    · have:=way_lb F (ws:=o::xs) h2 r2 t ht
      refine ⟨this.1,?_⟩;have h3:rk t≤rk o:=this.2;show rk t≤rk a;omega
theorem Tl.root_iff (T:Tl es s l L A Q) (F:Fo es s l rk) (ht:t < s.N) (h0:l.lab t≠0):Q.getD t 0=t↔l.ahead t=none:=by
  obtain ⟨ws,w1,w2,w3⟩:=T.rt t ht h0;rw [w3]
  match ws,w1,w2 with
  | [a],w1,w2 =>
    have e:a=t:=w2;subst e
    exact ⟨fun _=>w1,fun _=>rfl⟩
  | a::o::xs,w1,w2 =>
    have e:a=t:=w2;subst e;obtain ⟨h1,h2⟩:=w1;have r:=F.rkAhead h0 h1;constructor
    · intro q
      exfalso
      have hm:(a::o::xs).getD ((a::o::xs).length - 1) 0∈o::xs:=by
        have:(a::o::xs).getD ((a::o::xs).length - 1) 0=(o::xs).getD ((o::xs).length - 1) 0:=by simp
        rw [this]
        exact getD_mem (d:=0) (by simp)
      have:=(way_lb F (ws:=o::xs) h2 r.2.1 _ hm).2;rw [q] at this;have h3:rk a≤rk o:=this;omega
    · intro q
      rw [q] at h1;cases h1
end
section
variable {X:CallF} {g:Tags} {h:Heap} {b k t lo:Nat} {es:List E} {s:Sv} {l:Lb} {rk:Nat→Nat} {M:List Lk} {dn:Bool} {V:RV} {L Q:List Nat} {A:List Lk} {ws:List Nat}
theorem way_nd' (F:Fo es s l rk):∀ {ws:List Nat},IsWay l ws→l.lab (ws.getD 0 0)≠0→ws.Nodup
  | [a],_,_=>by simp
  | a::o::xs,h,h0=>by
    obtain ⟨h1,h2⟩:=h;have ha:l.lab a≠0:=h0;obtain ⟨r1,r2,_⟩:=F.rkAhead ha h1
    refine List.nodup_cons.2 ⟨fun q=>?_,way_nd' F (ws:=o::xs) h2 r2⟩
    have h3:rk a≤rk o:=(way_lb F (ws:=o::xs) h2 r2 a q).2;omega
theorem way_len (F:Fo es s l rk) (hw:IsWay l ws) (h0:l.lab (ws.getD 0 0)≠0):ws.length≤s.N:=by
  have h1:=nsub_len (a:=ws) (b:=List.range s.N) (way_nd' F hw h0) fun t ht=>List.mem_range.2 (F.top t (way_lb F hw h0 t ht).1).1
  rwa [List.length_range] at h1
theorem k_l10Way (R : Rn g h b es s M k dn V) (K : Ok es s) (hs : Sm s) (P : Tp h lo s.N L A Q) (D : Tl es s l L A Q) (F : Fo es s l rk) (hw : IsWay l ws) (h0 : l.lab (ws.getD 0 0) ≠ 0) :
    ∃ v h',C T X n_spec_l10Way [p7 b 0,p3 (lo+3) 0,.int .i64 (ws.getD 0 0:Nat)] h=some (v,h')∧h <+: h'∧Own h' h.length h'.length 1 y_int v (ints (natI ws)):=by
  refine C_ex t_spec_l10Way rfl ?_;unfold F_spec_l10Way;have hu:=K.upOk;have h9:=hs.N;have hlen:=way_len F hw h0
  obtain ⟨a0,ws',hws⟩:∃ a ws',ws=a::ws':=by
    cases ws with
    | nil=>exact hw.elim
    | cons a ws'=>exact ⟨a,ws',rfl⟩
  have ha0:ws.getD 0 0=a0:=by rw [hws];rfl
  have hlab:=way_lb F hw h0;simp only [zeros,fillAt,go_sem]
  refine w_meas ws.length (fun m t' loc h'=>t' 0=p7 b 0∧t' 1=p3 (lo+3) 0∧h <+: h'∧∃ (pre rest:List Nat) (c:Nat) (v:Value),t' 2=.int .i64 (c:Nat)∧t' 7=v∧ws=pre++c::rest∧IsWay l (c::rest)∧m=rest.length+1∧Own h' h.length h'.length 1 y_int v (ints (natI (pre++[c])))) ⟨rfl,rfl,List.prefix_append _ _,[],ws',a0,.slice (some ⟨h.length,0,none⟩) 1 1,by rw [← ha0];rfl,rfl,hws,by rw [← hws];exact hw,by rw [hws];rfl,?_⟩ ?_
  · rw [ha0]
    have:=Own.made (h:=h) (ty:=y_int) (rws:=ints (natI ([]++[a0]))) (sz:=1) (fun r hr=>by simp [ints,natI] at hr;rw [hr];rfl)
    simpa [ints,natI] using this
  · rintro m t' loc h' ⟨t0,t1,hp,pre,rest,c,v,t2,t7,hw1,hw2,hm,o⟩
    have R':=R.up hp;have P':=P.up hp
    have hc:=hlab c (by rw [hw1];simp)
    have hcN:c < s.N:=(F.top c hc.1).1;have hri:=D.root_iff F hcN hc.1;obtain ⟨q1,q2⟩:=P'.qel hcN
    have hlen2:(pre++[c]).length≤s.N:=by
      rw [hw1] at hlen;simp only [List.length_append,List.length_cons,List.length_nil] at hlen ⊢;omega
    cases rest with
    | nil =>
      have ha:l.ahead c=none:=hw2
      have hq:((Q.getD c 0:Nat):Int)=(c:Int):=by rw [hri.2 ha]
      simp only [t0,t1,t2,t7,P'.chk,P'.fa,P'.ld2,q1,q2,hq,Nat.zero_add,go_sem];refine ⟨o.live,?_⟩;obtain ⟨f1,f2⟩:=o.fin hp;rw [hw1];exact ⟨f1,f2⟩
    | cons o' rest =>
      obtain ⟨ha,hw3⟩:=hw2
      have hq:¬ ((Q.getD c 0:Nat):Int)=(c:Int):=fun q=>by
        have:=hri.1 (by omega)
        rw [ha] at this;cases this
      obtain ⟨e,e1,e2,e3,e4⟩:=D.ah c o' hcN ha;obtain ⟨x1,x2⟩:=ends_lt K e2;have nN:=K.nN;obtain ⟨a1,a2,a3⟩:=P'.ael hcN;have a4:=P'.a0 hcN
      have ct:=k_l10Top (X:=X) R' hu (v:=(A.getD c l0).f) (by omega)
      rw [e3] at ct
      obtain ⟨v2,h2,c3,p1,p2,o2⟩:=o.push1 (pre_len hp) [.int .i64 (o':Nat)] rfl (by rw [ints_len,natI_len];unfold lim;omega)
      rw [Nat.max_eq_right p1] at o2;simp only [t0,t1,t2,t7,P'.chk,P'.fa,P'.ld1,P'.ld2,q1,q2,hq,a1,a2,a4,ct,zeros,fillAt,c3,Nat.zero_add,List.prefix_refl,go_sem]
      refine ⟨rest.length+1,by rw [hm];simp,pre_push hp (Nat.le_refl _) p1 p2,pre++[c],rest,o',v2,rfl,rfl,by rw [hw1];simp,hw3,rfl,?_⟩
      simpa [ints,natI] using o2
end
end Go.Proofs.Ytafhipglhnfgnaa.Ab
set_option linter.unusedSimpArgs false
set_option linter.unusedVariables false
set_option linter.unnecessarySimpa false
set_option maxHeartbeats 4000000
namespace Go.Proofs.Ytafhipglhnfgnaa.Ab
open Go.RowKit
theorem gset {α:Type} {l:List α} {i j:Nat} {v d:α}:(l.set i v).getD j d=if i=j∧j < l.length then v else l.getD j d:=by
  rw [List.getD_eq_getElem?_getD,List.getD_eq_getElem?_getD,List.getElem?_set]
  by_cases h:i=j
  · subst h
    by_cases q:i < l.length
    · rw [if_pos rfl,if_pos q,if_pos ⟨rfl,q⟩];rfl
    · rw [if_pos rfl,if_neg q,if_neg (fun k=>q k.2),List.getElem?_eq_none (by omega)]
  · rw [if_neg h,if_neg (fun k=>h k.1)]
theorem gset_self {α:Type} {l:List α} {i:Nat} {v d:α} (h:i < l.length):(l.set i v).getD i d=v:=by rw [gset,if_pos ⟨rfl,h⟩]
theorem gset_ne {α:Type} {l:List α} {i j:Nat} {v d:α} (h:i≠j):(l.set i v).getD j d=l.getD j d:=by rw [gset,if_neg (fun k=>h k.1)]
def cnt0 (N:Nat) (l:Lb):Nat:=((List.range N).filter fun t=>decide (l.lab t=0)).length
theorem filt_lt {p q:Nat→Bool}:∀ {l:List Nat},(∀ x∈l,q x=true→p x=true)→(∃ x∈l,p x=true∧q x=false)→(l.filter q).length < (l.filter p).length
  | [],_,h=>by obtain ⟨x,hx,_⟩:=h;cases hx
  | a::l,h1,h2=>by
    have le:(l.filter q).length≤(l.filter p).length:=by
      have:∀ {l:List Nat},(∀ x∈l,q x=true→p x=true)→(l.filter q).length≤(l.filter p).length:=by
        intro l
        induction l with
        | nil=>intro _;exact Nat.le_refl _
        | cons b l ih =>
          intro h
          have ih:=ih fun x hx=>h x (List.mem_cons_of_mem _ hx)
          have hb:=h b List.mem_cons_self;rw [List.filter_cons,List.filter_cons]
          cases hq:q b with
          | true=>rw [hb hq];simpa using ih
          | false =>
            cases p b<;>simp<;>omega
      exact this fun x hx=>h1 x (List.mem_cons_of_mem _ hx)
    rw [List.filter_cons,List.filter_cons]
    by_cases c:p a=true∧q a=false
    · rw [c.1,c.2]
      simp;omega
    · have ih:=filt_lt (l:=l) (fun x hx=>h1 x (List.mem_cons_of_mem _ hx)) (by
        obtain ⟨x,hx,hp⟩:=h2;rcases List.mem_cons.1 hx with e | e
        · rw [e] at hp;exact absurd hp c
        · exact ⟨x,e,hp⟩)
      cases hq:q a with
      | true=>rw [h1 a List.mem_cons_self hq];simpa using ih
      | false =>
        cases hp:p a with
        | true=>exact absurd ⟨hp,hq⟩ c
        | false=>simpa using ih
def Pass (es:List E) (s:Sv) (l:Lb) (e:Nat):Prop:=Tight es s e→top s (vA es e)≠top s (vB es e)→¬ ((l.lab (top s (vA es e))=1∧l.lab (top s (vB es e))≠2)∨(l.lab (top s (vB es e))=1∧l.lab (top s (vA es e))≠2))
section
variable {es:List E} {s:Sv} {l:Lb} {rk:Nat→Nat} {a b c e f t:Nat} {L Q:List Nat} {A:List Lk} {x y:Lk}
theorem pass_stuck (K:Ok es s) (h:∀ e,e < es.length→Pass es s l e):Stuck es s l:=by
  intro e a b he ht hj ha hb hab la;have hu:=K.upOk;have hp:=h e he ht;rcases hj.2 with ⟨w1,w2⟩ | ⟨w1,w2⟩
  · have e1:=top_of hu w1 ha.2.1
    have e2:=top_of hu w2 hb.2.1;rw [e1,e2] at hp;apply Classical.byContradiction
    intro q;exact hp hab (.inl ⟨la,q⟩)
  · have e1:=top_of hu w1 ha.2.1
    have e2:=top_of hu w2 hb.2.1;rw [e1,e2] at hp;apply Classical.byContradiction
    intro q;exact hp (Ne.symm hab) (.inr ⟨la,q⟩)
theorem way_grow (hb:l.lab b=0) (hc:l.lab c=0) (F:Fo es s l rk):∀ {ws:List Nat},IsWay l ws→l.lab (ws.getD 0 0)≠0→IsWay (growL l a b c e f) ws
  | [t],h,h0=>by
    have h0':l.lab t≠0:=h0
    have n1:t≠c:=fun q=>h0' (q ▸ hc)
    have n2:t≠b:=fun q=>h0' (q ▸ hb)
    show (if t=c then some b else if t=b then some a else l.ahead t)=none;rw [if_neg n1,if_neg n2];exact h
  | t::o::xs,h,h0=>by
    have h0':l.lab t≠0:=h0
    have n1:t≠c:=fun q=>h0' (q ▸ hc)
    have n2:t≠b:=fun q=>h0' (q ▸ hb)
    have r:=F.rkAhead h0' h.1;refine ⟨?_,way_grow hb hc F (ws:=o::xs) h.2 r.2.1⟩;show (if t=c then some b else if t=b then some a else l.ahead t)=some o;rw [if_neg n1,if_neg n2];exact h.1
theorem grow_tl (D : Tl es s l L A Q) (F : Fo es s l rk) (ha : IsTop s a) (hb : IsTop s b) (hc : IsTop s c) (la : l.lab a = 1) (lb : l.lab b = 0) (lc : l.lab c = 0) (hbc : b ≠ c) (he : IsE es e x) (hf : IsE es f y)
    (x1:top s x.f=a) (x2:top s x.t=b) (y1:top s y.f=b) (y2:top s y.t=c):Tl es s (growL l a b c e f) ((L.set b 2).set c 1) ((A.set b x).set c y) ((Q.set b (Q.getD a 0)).set c (Q.getD a 0)):=by
  have hab:a≠b:=fun q=>by rw [q,lb] at la;cases la
  have hac:a≠c:=fun q=>by rw [q,lc] at la;cases la
  obtain ⟨n1,n2,n3⟩:=D.ln;have bN:=hb.1;have cN:=hc.1
  obtain ⟨wa,w1,w2,w3⟩:=D.rt a ha.1 (by omega)
  have wg:=way_grow (a:=a) (e:=e) (f:=f) lb lc F w1 (by rw [w2];omega)
  obtain ⟨wt,hwa⟩:∃ wt,wa=a::wt:=by
    cases wa with
    | nil=>exact w1.elim
    | cons z wt=>exact ⟨wt,by have:z=a:=w2;rw [this]⟩
  have wb:IsWay (growL l a b c e f) (b::wa):=by
    rw [hwa] at wg ⊢;refine ⟨?_,wg⟩;show (if b=c then some b else if b=b then some a else l.ahead b)=some a;rw [if_neg hbc,if_pos rfl]
  have wc:IsWay (growL l a b c e f) (c::b::wa):=⟨if_pos rfl,wb⟩
  have last1:(b::wa).getD ((b::wa).length - 1) 0=wa.getD (wa.length - 1) 0:=by rw [hwa];simp
  have last2:(c::b::wa).getD ((c::b::wa).length - 1) 0=wa.getD (wa.length - 1) 0:=by rw [hwa];simp
  refine ⟨⟨by rw [List.length_set,List.length_set];exact n1,by rw [List.length_set,List.length_set];exact n2,by rw [List.length_set,List.length_set];exact n3⟩,fun t ht=>?_,fun t o ht ho=>?_,fun t ht h0=>?_⟩
  · show _=if t=c then 1 else if t=b then 2 else l.lab t
    by_cases q1:t=c
    · rw [if_pos q1,q1,gset_self (by rw [List.length_set];omega)]
    · rw [if_neg q1,gset_ne (Ne.symm q1)]
      by_cases q2:t=b
      · rw [if_pos q2,q2,gset_self (by omega)]
      · rw [if_neg q2,gset_ne (Ne.symm q2)]
        exact D.lab t ht
  · have ho':(if t=c then some b else if t=b then some a else l.ahead t)=some o:=ho
    show ∃ e',(if t=c then some f else if t=b then some e else l.byE t)=some e'∧_
    by_cases q1:t=c
    · rw [if_pos q1] at ho' ⊢
      cases ho'
      rw [q1,gset_self (by rw [List.length_set];omega)]
      exact ⟨f,rfl,hf,y1,y2⟩
    · rw [if_neg q1] at ho' ⊢
      rw [gset_ne (Ne.symm q1)]
      by_cases q2:t=b
      · rw [if_pos q2] at ho' ⊢
        cases ho'
        rw [q2,gset_self (by omega)]
        exact ⟨e,rfl,he,x1,x2⟩
      · rw [if_neg q2] at ho' ⊢
        rw [gset_ne (Ne.symm q2)];exact D.ah t o ht ho'
  · by_cases q1:t=c
    · rw [q1,gset_self (by rw [List.length_set];omega)]
      exact ⟨_,wc,rfl,by rw [last2,w3]⟩
    · rw [gset_ne (Ne.symm q1)]
      by_cases q2:t=b
      · rw [q2,gset_self (by omega)]
        exact ⟨_,wb,rfl,by rw [last1,w3]⟩
      · rw [gset_ne (Ne.symm q2)]
        have h0':l.lab t≠0:=fun q=>h0 (by show (if t=c then 1 else if t=b then 2 else l.lab t)=0;rw [if_neg q1,if_neg q2,q])
        obtain ⟨ws,v1,v2,v3⟩:=D.rt t ht h0'
        exact ⟨ws,way_grow lb lc F v1 (by rw [v2];exact h0'),v2,v3⟩
theorem grow_cnt {N:Nat} (hb:b < N) (lb:l.lab b=0) (hbc:b≠c) (lc:l.lab c=0):cnt0 N (growL l a b c e f) < cnt0 N l:=by
  refine filt_lt (fun t _ h=>?_) ⟨b,List.mem_range.2 hb,by simpa using lb,?_⟩
  · simp only [growL,decide_eq_true_eq] at h ⊢
    split at h
    · cases h
    · split at h
      · cases h
      · simpa using h
  · simp only [growL,hbc,if_false,if_true,decide_eq_false_iff_not]
    omega
theorem fresh_tl (h1:L.length=s.N∧A.length=s.N∧Q.length=s.N) (h2:∀ j,j < s.N→L.getD j 0=(freshL s).lab j) (h3:∀ j,j < s.N→(freshL s).lab j≠0→Q.getD j 0=j):Tl es s (freshL s) L A Q :=
  ⟨h1,h2,fun t o _ h=>(by cases h),fun t ht h0=>⟨[t],rfl,rfl,h3 t ht h0⟩⟩
end
section
variable {h:Heap} {lo N i:Nat} {L Q:List Nat} {A:List Lk}
theorem natI_set {l:List Nat} {i v:Nat}:natI (l.set i v)=(natI l).set i (v:Int):=by unfold natI;rw [List.map_set]
theorem ints_setV {l:List Int} {i:Nat} {v:Int}:(ints l).set i [.int .i64 v]=ints (l.set i v):=by unfold ints;rw [List.map_set]
theorem Tp.stl (P:Tp h lo N L A Q) (hi:i < N) (v:Nat):∃ h',stC h (elemP (slv lo N) 1 i 0) [.int .i64 (v:Nat)]=some h'∧Same lo (lo+4) h h'∧Tp h' lo N (L.set i v) A Q:=by
  have hl:i < (ints (natI L)).length:=by rw [ints_len,natI_len,P.ln.1];exact hi
  obtain ⟨h',e1,e2,e3⟩:=P.l.st (k:=0) (vs:=[.int .i64 (v:Nat)]) hl (by simp)
  refine ⟨h',e1,e2.wide (Nat.le_refl _) (by omega),⟨by rw [e2.blk _ (.inr (by omega))];exact P.blk,?_,P.a.same e2 (.inr (by omega)),P.q.same e2 (.inr (by omega)),by rw [List.length_set];exact P.ln⟩⟩
  have hr:(ints (natI L))[i]=[.int .i64 ((natI L).getD i 0)]:=by simp [ints,List.getD_eq_getElem?_getD,show i < (natI L).length by rw [natI_len,P.ln.1];exact hi]
  rw [hr] at e3;have hp:putAt [Value.int .i64 ((natI L).getD i 0)] 0 [.int .i64 (v:Nat)]=[.int .i64 ((v:Nat):Int)]:=rfl;rw [hp,ints_setV,← natI_set] at e3;exact e3
theorem Tp.stq (P:Tp h lo N L A Q) (hi:i < N) (v:Nat):∃ h',stC h (elemP (slv (lo+2) N) 1 i 0) [.int .i64 (v:Nat)]=some h'∧Same lo (lo+4) h h'∧Tp h' lo N L A (Q.set i v):=by
  have hl:i < (ints (natI Q)).length:=by rw [ints_len,natI_len,P.ln.2.2];exact hi
  obtain ⟨h',e1,e2,e3⟩:=P.q.st (k:=0) (vs:=[.int .i64 (v:Nat)]) hl (by simp)
  refine ⟨h',e1,e2.wide (by omega) (by omega),⟨by rw [e2.blk _ (.inr (by omega))];exact P.blk,P.l.same e2 (.inl (by omega)),P.a.same e2 (.inl (by omega)),?_,by rw [List.length_set];exact P.ln⟩⟩
  have hr:(ints (natI Q))[i]=[.int .i64 ((natI Q).getD i 0)]:=by simp [ints,List.getD_eq_getElem?_getD,show i < (natI Q).length by rw [natI_len,P.ln.2.2];exact hi]
  rw [hr] at e3;have hp:putAt [Value.int .i64 ((natI Q).getD i 0)] 0 [.int .i64 (v:Nat)]=[.int .i64 ((v:Nat):Int)]:=rfl;rw [hp,ints_setV,← natI_set] at e3;exact e3
theorem Tp.sta (P:Tp h lo N L A Q) (hi:i < N) (x:Lk):∃ h',stC h (elemP (slv (lo+1) N) 2 i 0) (lkR x)=some h'∧Same lo (lo+4) h h'∧Tp h' lo N L (A.set i x) Q:=by
  have hl:i < (A.map lkR).length:=by rw [List.length_map,P.ln.2.1];exact hi
  obtain ⟨h',e1,e2,e3⟩:=P.a.st (k:=0) (vs:=lkR x) hl (by simp [lkR])
  refine ⟨h',e1,e2.wide (by omega) (by omega),⟨by rw [e2.blk _ (.inr (by omega))];exact P.blk,P.l.same e2 (.inl (by omega)),?_,P.q.same e2 (.inr (by omega)),by rw [List.length_set];exact P.ln⟩⟩
  have hr:(A.map lkR)[i]=lkR (A.getD i l0):=map_at (d:=l0) (by rw [P.ln.2.1];exact hi)
  rw [hr] at e3;have hp:putAt (lkR (A.getD i l0)) 0 (lkR x)=lkR x:=rfl;rw [hp,← List.map_set] at e3;exact e3
end
end Go.Proofs.Ytafhipglhnfgnaa.Ab
