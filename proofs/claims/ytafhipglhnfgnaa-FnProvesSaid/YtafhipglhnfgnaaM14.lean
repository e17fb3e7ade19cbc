/- Joined: K24, K17, K25, S18, S19, P1, P2, P4, P17. No conditions. -/
import Derived.Test.YtafhipglhnfgnaaM13
import Derived.Test.YtafhipglhnfgnaaM11
set_option linter.unusedSimpArgs false
set_option linter.unusedVariables false
set_option linter.unnecessarySimpa false
set_option maxHeartbeats 4000000
namespace Go.Proofs.Ytafhipglhnfgnaa.Ab
open Go.RowKit
section
variable {X:CallF} {h:Heap} {v w ev yv gv:Value} {ys:List Int} {gs:List Gp} {es:List E} {g:Gp} {size:Int}
open Classical in
theorem k_spec_ProofOk (he:Rows h 5 ev (edges es)) (hy:Rows h 1 yv (ints ys)) (hg:RowsG h gv gs) (hl:es.length≤lim) (hb:PfBnd ys gs):C T X n_spec_ProofOk [graphV size ev,proofV yv gv] h=some (.bool (decide (PfOk size es ys gs)),h):=by
  have hk:=k_spec_GraphOk (X:=X) (size:=size) he hl;obtain ⟨hyl,hgl,hml⟩:=hb;refine C_go t_spec_ProofOk rfl ?_;unfold F_spec_ProofOk
  by_cases g1:GOk size es
  rotate_left
  · have hr:¬ PfOk size es ys gs:=fun h=>g1 h.1.1
    unfold graphV at hk;unfold graphV proofV;simp only [hk,g1,hr,go_sem]
  by_cases g2:(ys.length:Int)=size
  rotate_left
  · have hr:¬ PfOk size es ys gs:=fun h=>g2 h.1.2.1
    unfold graphV at hk;unfold graphV proofV;simp only [hk,g1,ints_ln hy,g2,hr,go_sem]
  by_cases g3:(8:Int) < gs.length
  · have hr:¬ PfOk size es ys gs:=fun h=>by have:=h.1.2.2;omega
    unfold graphV at hk;unfold graphV proofV;simp only [hk,g1,ints_ln hy,hg.ln,g2,g3,hr,go_sem]
  have hs:=g1.1
  have hws:IntKind.i64.wrap (size - 1)=size - 1:=w64 (by omega) (by omega)
  unfold graphV at hk;unfold graphV proofV;simp only [hk,g1,ints_ln hy,hg.ln,g2,g3,go_sem]
  refine w_for ys.length (fun i t loc h'=>h'=h∧loc 2=some [.int .i64 size,ev]∧loc 3=some [yv,gv]∧t 5=.int .i64 i∧∀ j,j < i→0≤ys.getD j 0∧ys.getD j 0≤1000000000) ⟨rfl,rfl,rfl,rfl,fun j hj=>by omega⟩ ?_
  rintro i t loc h' hi ⟨rfl,l2,l3,t5,hall⟩;simp only [l3,t5,ints_ln hy,go_sem]
  refine w_open (by simp only [go_sem];rfl) ?_ ?_<;>intro hc
  · have hi1:i < ys.length:=by omega
    have hw:IntKind.i64.wrap ((i:Int)+1)=((i+1:Nat):Int):=w64 (by omega) (by omega)
    have hel:=int_el hy hi1
    by_cases b1:0≤ys.getD i 0∧ys.getD i 0≤1000000000
    · have b1':(decide (0≤ys.getD i 0) && decide (ys.getD i 0≤1000000000))=true:=by simp only [Bool.and_eq_true,decide_eq_true_eq];exact b1
      simp only [l2,l3,t5,hel.1,hel.2,k_spec_l01In,b1',hw,go_sem];exact ⟨hi1,below_succ hall b1⟩
    · have hr:¬ PfOk size es ys gs:=fun h=>b1 (h.2.1 i hi1)
      have b1':(decide (0≤ys.getD i 0) && decide (ys.getD i 0≤1000000000))=false:=by simp only [Bool.and_eq_false_iff,decide_eq_false_iff_not];omega
      simp only [l2,l3,t5,hel.1,hel.2,k_spec_l01In,b1',hr,go_sem]
  have hil:i=ys.length:=by omega
  subst hil;simp only [l2,l3,go_sem]
  refine w_for gs.length (fun i t loc h2=>h2=h'∧loc 2=some [.int .i64 size,ev]∧loc 3=some [yv,gv]∧t 6=.int .i64 i∧∀ j,j < i→GrOk size (gs.getD j g0)∧∀ k,k < j→Nest (gs.getD k g0).ms (gs.getD j g0).ms) ⟨rfl,rfl,rfl,rfl,fun j hj=>by omega⟩ ?_
  rintro i t loc h2 hi ⟨rfl,l2,l3,t6,hallG⟩;simp only [l3,t6,hg.ln,go_sem]
  refine w_open (by simp only [go_sem];rfl) ?_ ?_<;>intro hc
  · have hi1:i < gs.length:=by omega
    have hw:IntKind.i64.wrap ((i:Int)+1)=((i+1:Nat):Int):=w64 (by omega) (by omega)
    obtain ⟨x,e1,e2,e3,e4,e5,e6⟩:=hg.el hi1;obtain ⟨G,hG⟩:∃ G,G=gs.getD i g0:=⟨_,rfl⟩;rw [← hG] at e3 e5 e6
    have hmi:G.ms.length≤1048576:=by rw [hG];exact hml _ (getD_mem (d:=g0) hi1)
    have hno:¬ GrOk size G→¬ PfOk size es ys gs:=fun hn h=>hn (by rw [hG];exact (h.2.2.1 i hi1).1)
    have hmd:((G.ms.length:Nat):Int).tmod 2=((G.ms.length%2:Nat):Int):=rfl
    by_cases a1:(G.ms.length:Int) < 3
    · have hr:=hno fun h=>by have:=h.1.1;omega
      simp only [l2,l3,t6,e1,e3,e6.cells,ints_ln e6,a1,hr,go_sem]
    by_cases a2:((G.ms.length%2:Nat):Int)=0
    · have hr:=hno fun h=>by have:=h.1.2.1;omega
      simp only [l2,l3,t6,e1,e3,e6.cells,ints_ln e6,hmd,a1,a2,hr,go_sem]
    by_cases a4:size < (G.ms.length:Int)
    · have hr:=hno fun h=>by have:=grOk_len h hs.1;omega
      simp only [l2,l3,t6,e1,e3,e6.cells,ints_ln e6,hmd,a1,a2,a4,hr,go_sem]
    by_cases a3:1≤G.z∧G.z≤1000000000
    rotate_left
    · have hr:=hno fun h=>a3 h.1.2.2
      have a3':(decide (1≤G.z) && decide (G.z≤1000000000))=false:=by simp only [Bool.and_eq_false_iff,decide_eq_false_iff_not];omega
      simp only [l2,l3,t6,e1,e3,e6.cells,ints_ln e6,hmd,k_spec_l01In,a1,a2,a4,a3',hr,go_sem]
    have a3':(decide (1≤G.z) && decide (G.z≤1000000000))=true:=by simp only [Bool.and_eq_true,decide_eq_true_eq];exact a3
    simp only [l2,l3,t6,e1,e3,e6.cells,ints_ln e6,hmd,k_spec_l01In,a1,a2,a4,a3',go_sem]
    refine w_for G.ms.length (fun k t loc h3=>h3=h2∧loc 2=some [.int .i64 size,ev]∧loc 3=some [yv,gv]∧loc 7=some [x,.int .i64 G.z]∧t 6=.int .i64 i∧t 8=.int .i64 k∧∀ j,j < k→(0≤G.ms.getD j 0∧G.ms.getD j 0≤size - 1)∧(0 < j→G.ms.getD (j - 1) 0 < G.ms.getD j 0)) ⟨rfl,rfl,rfl,rfl,rfl,rfl,fun j hj=>by omega⟩ ?_
    rintro k t loc h3 hk ⟨rfl,l2,l3,l7,t6,t8,hallM⟩;simp only [l7,t8,ints_ln e6,go_sem]
    refine w_open (by simp only [go_sem];rfl) ?_ ?_<;>intro hc
    · have hk1:k < G.ms.length:=by omega
      have hw2:IntKind.i64.wrap ((k:Int)+1)=((k+1:Nat):Int):=w64 (by omega) (by omega)
      have hel:=int_el e6 hk1
      by_cases b1:0≤G.ms.getD k 0∧G.ms.getD k 0≤size - 1
      rotate_left
      · have hr:=hno fun h=>b1 (h.2 k hk1).1
        have b1':(decide (0≤G.ms.getD k 0) && decide (G.ms.getD k 0≤size - 1))=false:=by simp only [Bool.and_eq_false_iff,decide_eq_false_iff_not];omega
        simp only [l2,l3,l7,t6,t8,hel.1,hel.2,k_spec_l01In,hws,b1',hr,List.prefix_refl,go_sem]
      have b1':(decide (0≤G.ms.getD k 0) && decide (G.ms.getD k 0≤size - 1))=true:=by simp only [Bool.and_eq_true,decide_eq_true_eq];exact b1
      rcases Nat.eq_zero_or_pos k with hz | hp
      · have hz':¬ (0:Int) < k:=by omega
        simp only [l2,l3,l7,t6,t8,hel.1,hel.2,k_spec_l01In,hws,b1',hz',hw2,List.prefix_refl,go_sem]
        exact ⟨hk1,below_succ hallM ⟨b1,fun hp=>by omega⟩⟩
      · have hp':(0:Int) < k:=by omega
        have hw1:IntKind.i64.wrap ((k:Int) - 1)=((k - 1:Nat):Int):=by rw [w64 (by omega) (by omega)];omega
        have hel2:=int_el e6 (show k - 1 < G.ms.length by omega)
        by_cases b2:G.ms.getD k 0≤G.ms.getD (k - 1) 0
        · have hr:=hno fun h=>by have:=(h.2 k hk1).2 hp;omega
          simp only [l2,l3,l7,t6,t8,hel.1,hel.2,hel2.1,hel2.2,k_spec_l01In,hws,b1',hp',hw1,b2,hr,List.prefix_refl,go_sem]
        · simp only [l2,l3,l7,t6,t8,hel.1,hel.2,hel2.1,hel2.2,k_spec_l01In,hws,b1',hp',hw1,b2,hw2,List.prefix_refl,go_sem]
          exact ⟨hk1,below_succ hallM ⟨b1,fun hp=>by omega⟩⟩
    have hkG:k=G.ms.length:=by omega
    subst hkG
    have hGr:GrOk size G:=⟨⟨by omega,by omega,a3.1,a3.2⟩,hallM⟩
    simp only [l2,l3,l7,t6,go_sem]
    refine w_for i (fun k t loc h4=>h4=h3∧loc 2=some [.int .i64 size,ev]∧loc 3=some [yv,gv]∧loc 7=some [x,.int .i64 G.z]∧t 6=.int .i64 i∧t 9=.int .i64 k∧∀ j,j < k→Nest (gs.getD j g0).ms G.ms) ⟨rfl,rfl,rfl,rfl,rfl,rfl,fun j hj=>by omega⟩ ?_
    rintro k t loc h4 hk ⟨rfl,l2,l3,l7,t6,t9,hallN⟩;simp only [t6,t9,go_sem]
    refine w_open (by simp only [go_sem];rfl) ?_ ?_<;>intro hc
    · have hk1:k < i:=by omega
      have hw2:IntKind.i64.wrap ((k:Int)+1)=((k+1:Nat):Int):=w64 (by omega) (by omega)
      obtain ⟨z,f1,f2,f3,f4,f5,f6⟩:=hg.el (i:=k) (by omega)
      have hmk:=hml _ (getD_mem (d:=g0) (show k < gs.length by omega))
      have w1:=k_spec_l11Nested (X:=X) f6 e6 (by unfold lim;omega) (by unfold lim;omega)
      have hnc:=nest_cnt (grOk_asc (hallG k hk1).1) (grOk_asc hGr)
      by_cases c1:Nest (gs.getD k g0).ms G.ms
      · have hd:(decide (cntIn (gs.getD k g0).ms G.ms=0) || (decide (cntIn (gs.getD k g0).ms G.ms=(gs.getD k g0).ms.length) || decide (cntIn (gs.getD k g0).ms G.ms=G.ms.length)))=true:=by
          simp only [Bool.or_eq_true,decide_eq_true_eq];exact hnc.1 c1
        rw [hd] at w1;simp only [l2,l3,l7,t6,t9,f1,f2,f4,w1,hw2,List.prefix_refl,go_sem];exact ⟨hk1,below_succ hallN c1⟩
      · have hd:(decide (cntIn (gs.getD k g0).ms G.ms=0) || (decide (cntIn (gs.getD k g0).ms G.ms=(gs.getD k g0).ms.length) || decide (cntIn (gs.getD k g0).ms G.ms=G.ms.length)))=false:=by
          rw [Bool.eq_false_iff];simp only [ne_eq,Bool.or_eq_true,decide_eq_true_eq]
          exact fun h=>c1 (hnc.2 h)
        have hr:¬ PfOk size es ys gs:=fun h=>c1 (by rw [hG];exact (h.2.2.1 i hi1).2 k hk1)
        rw [hd] at w1;simp only [l2,l3,l7,t6,t9,f1,f2,f4,w1,hr,List.prefix_refl,go_sem]
    · have hki:k=i:=by omega
      subst hki;simp only [l2,l3,t6,hw,go_sem];rw [hG] at hGr hallN;exact ⟨hi1,below_succ hallG ⟨hGr,hallN⟩⟩
  have hig:i=gs.length:=by omega
  subst hig
  have fit:=pfFit_of (by omega) (by omega) hall hs fun i hi=>(hallG i hi).1
  simp only [l2,l3,go_sem]
  refine w_for es.length (fun i t loc h3=>h3=h2∧loc 2=some [.int .i64 size,ev]∧loc 3=some [yv,gv]∧t 10=.int .i64 i∧∀ j,j < i→0≤slackL ys gs (es.getD j e0)) ⟨rfl,rfl,rfl,rfl,fun j hj=>by omega⟩ ?_
  rintro i t loc h3 hi ⟨rfl,l2,l3,t10,hallS⟩;simp only [l2,t10,he.lnm,go_sem];unfold lim at hl
  refine w_open (by simp only [go_sem];rfl) ?_ ?_<;>intro hc
  · have hi1:i < es.length:=by omega
    have hw:IntKind.i64.wrap ((i:Int)+1)=((i+1:Nat):Int):=w64 (by omega) (by omega)
    have hel:=edge_el he hi1;have cs:=k_spec_l11Slack (X:=X) hy hg fit (gok_mem g1 (getD_mem (d:=e0) hi1)) g2;unfold edgeV edgeR proofV at cs
    by_cases b1:slackL ys gs (es.getD i e0) < 0
    · have hr:¬ PfOk size es ys gs:=fun h=>by have:=h.2.2.2 i hi1;omega
      simp only [l2,l3,t10,hel.1,hel.2.2.1,cs,b1,hr,List.prefix_refl,go_sem]
    · simp only [l2,l3,t10,hel.1,hel.2.2.1,cs,b1,hw,List.prefix_refl,go_sem]
      exact ⟨hi1,below_succ hallS (by omega)⟩
  · have hr:PfOk size es ys gs:=⟨⟨g1,g2,by omega⟩,hall,hallG,fun j hj=>hallS j (by omega)⟩
    simp only [hr,go_sem]
theorem pfOk_fit (p:PfOk size es ys gs):PfFit ys gs :=
  pfFit_of (by have:=p.1.1.1;have:=p.1.2.1;omega) p.1.2.2 p.2.1 p.1.1.1 fun i hi=>(p.2.2.1 i hi).1
theorem weight_bnd (f:PfFit ys gs):0≤weightL ys gs∧weightL ys gs≤100000000000:=by
  have h1:=sumY_bnd f.y ys.length (Nat.le_refl _);have h2:=sumG_bnd f.g gs.length (Nat.le_refl _);rw [List.take_length] at h1 h2;have:=f.yl;have:=f.gl;unfold weightL;omega
theorem half_fits {W:Int} (h:0≤W∧W≤100000000000):IntKind.i64.wrap (W.tdiv 2)=W.tdiv 2:=by
  obtain ⟨k,rfl⟩:=Int.eq_ofNat_of_zero_le h.1
  rw [show ((k:Int).tdiv 2)=((k / 2:Nat):Int) from rfl]
  exact w64 (by omega) (by omega)
open Classical in
noncomputable def boundL (size:Int) (es:List E) (ys:List Int) (gs:List Gp):Int:=if PfOk size es ys gs then (weightL ys gs).tdiv 2 else 0
open Classical in
theorem k_impl_Bound (he:Rows h 5 ev (edges es)) (hy:Rows h 1 yv (ints ys)) (hg:RowsG h gv gs) (hl:es.length≤lim) (hb:PfBnd ys gs):C T X n_impl_Bound [graphV size ev,proofV yv gv] h=some (.int .i64 (boundL size es ys gs),h):=by
  have hk:=k_impl_ProofOk (X:=X) (size:=size) he hy hg hl hb;refine C_go t_impl_Bound rfl ?_;unfold F_impl_Bound boundL
  by_cases p:PfOk size es ys gs
  · have f:=pfOk_fit p
    have hwb:=weight_bnd f
    have cw:=k_impl_weight (X:=X) hy hg f fun i hi=>(p.2.2.1 i hi).1.1.2.1
    obtain ⟨W,hW⟩:∃ W,W=weightL ys gs:=⟨_,rfl⟩;rw [← hW] at cw hwb ⊢;have hw2:=half_fits hwb;unfold graphV proofV at *;simp only [hk,p,cw,hw2,go_sem]
  · unfold graphV proofV at *
    simp only [hk,p,go_sem]
end
end Go.Proofs.Ytafhipglhnfgnaa.Ab
set_option linter.unusedSimpArgs false
set_option linter.unusedVariables false
set_option linter.unnecessarySimpa false
set_option maxHeartbeats 4000000
namespace Go.Proofs.Ytafhipglhnfgnaa.Ab
open Go.RowKit
def metL (m:List Cp):List Int:=m.flatMap fun c=>[c.a,c.b]
theorem metL_snoc {m:List Cp} {c:Cp}:metL (m++[c])=metL m++[c.a,c.b]:=by simp [metL]
theorem metL_len {m:List Cp}:(metL m).length=2*m.length:=by
  unfold metL
  induction m with
  | nil=>rfl
  | cons c m ih=>simp only [List.flatMap_cons,List.length_append,ih,List.length_cons,List.length_nil];omega
def CpOk (es:List E) (m:List Cp) (i:Nat):Prop:=(m.getD i c0).a < (m.getD i c0).b∧0≤edgeIx es (m.getD i c0).a (m.getD i c0).b∧(0 < i→(m.getD (i - 1) c0).a < (m.getD i c0).a)∧¬ (m.getD i c0).a∈metL (m.take i)∧¬ (m.getD i c0).b∈metL (m.take i)
def MOk (size:Int) (es:List E) (m:List Cp):Prop:=GOk size es∧∀ i,i < m.length→CpOk es m i
theorem nodup_len':∀ {n:Nat} {l:List Int},l.Nodup→(∀ x∈l,0≤x∧x < n)→l.length≤n
  | 0,[],_,_=>Nat.le_refl _
  | 0,a::l,_,h=>by have:=h a List.mem_cons_self;omega
  | n+1,l,hn,h=>by
    by_cases hm:(n:Int)∈l
    · have h1:=List.length_erase_of_mem hm
      have h2:=nodup_len' (n:=n) (hn.erase (n:Int)) fun x hx=>by
        obtain ⟨h3,h4⟩:=(hn.mem_erase_iff).1 hx;have:=h x h4;omega
      omega
    · have:=nodup_len' (n:=n) hn fun x hx=>by
        have h3:=h x hx
        have:x≠n:=fun e=>hm (e ▸ hx)
        omega
      omega
theorem mok_met {size:Int} {es:List E} {m:List Cp} (g:MOk size es m):∀ i,i≤m.length→(metL (m.take i)).Nodup∧∀ x∈metL (m.take i),0≤x∧x < size:=by
  intro i
  induction i with
  | zero=>intro _;simp [metL]
  | succ i ih =>
    intro hi
    obtain ⟨h1,h2⟩:=ih (by omega)
    obtain ⟨c1,c2,c3,c4,c5⟩:=g.2 i (by omega)
    rw [take_getD (d:=c0) (by omega),metL_snoc]
    obtain ⟨e,he,hj⟩:=edgeIx_ge.1 c2;have hE:=gok_mem g.1 he;unfold EOk at hE
    refine ⟨?_,fun x hx=>?_⟩
    · rw [List.nodup_append]
      refine ⟨h1,?_,fun x hx y hy e=>?_⟩
      · simp only [List.nodup_cons,List.mem_singleton,List.not_mem_nil,not_false_eq_true,List.nodup_nil,and_true]
        omega
      · simp only [List.mem_cons,List.not_mem_nil,or_false] at hy
        subst e;rcases hy with rfl | rfl
        · exact c4 hx
        · exact c5 hx
    · rcases List.mem_append.1 hx with hx | hx
      · exact h2 x hx
      · simp only [List.mem_cons,List.not_mem_nil,or_false] at hx
        rcases hj with ⟨j1,j2⟩ | ⟨j1,j2⟩<;>rcases hx with rfl | rfl<;>omega
theorem mok_len {size:Int} {es:List E} {m:List Cp} (g:MOk size es m):2*(m.length:Int)≤size:=by
  obtain ⟨h1,h2⟩:=mok_met g m.length (Nat.le_refl _);rw [List.take_length] at h1 h2;have hs:=g.1.1
  have:=nodup_len' (n:=size.toNat) h1 fun x hx=>by have:=h2 x hx;omega
  rw [metL_len] at this;omega
section
variable {X:CallF} {h:Heap} {ev mv:Value} {es:List E} {m:List Cp} {size:Int}
open Classical in
theorem k_impl_MatchOk (he:Rows h 5 ev (edges es)) (hm:Rows h 2 mv (cps m)) (hl:es.length≤lim) (hml:m.length≤1048576):C T X n_impl_MatchOk [graphV size ev,mv] h=some (.bool (decide (MOk size es m)),h):=by
  have hk:=k_impl_GraphOk (X:=X) (size:=size) he hl;refine C_go t_impl_MatchOk rfl ?_;unfold F_impl_MatchOk
  by_cases g:GOk size es
  rotate_left
  · have hr:¬ MOk size es m:=fun h=>g h.1
    unfold graphV at hk ⊢;simp only [hk,g,hr,go_sem]
  have hk':=hk;unfold graphV at hk ⊢;simp only [hk,g,hm.lnm,go_sem]
  refine w_for m.length (fun i t loc h'=>t 1=mv∧loc 2=some [.int .i64 size,ev]∧t 11=mv∧t 12=.int .i64 m.length∧t 13=.int .i64 i∧h <+: h'∧(∀ j,j < i→CpOk es m j)∧∃ v,t 5=v∧Acc h 1 y_int v (ints (metL (m.take i))) h') ⟨rfl,rfl,rfl,rfl,rfl,List.prefix_refl _,fun j hj=>by omega,_,rfl,Acc.nil⟩ ?_
  rintro i t loc h' hi ⟨t1,l2,t11,t12,t13,hp,hall,v,t5,ha⟩;simp only [t12,t13,go_sem]
  refine w_open (by simp only [go_sem];rfl) ?_ ?_<;>intro hc
  · have hi1:i < m.length:=by omega
    have hw:IntKind.i64.wrap ((i:Int)+1)=((i+1:Nat):Int):=w64 (by omega) (by omega)
    have hel:=cp_el (hm.up hp) hi1
    have hneg:¬ CpOk es m i→¬ MOk size es m:=fun hn g=>hn (g.2 i hi1)
    have hat:=k_impl_edgeAt (X:=X) (size:=size) (x:=(m.getD i c0).a) (y:=(m.getD i c0).b) (he.up hp) hl;unfold graphV at hat
    have hml2:(metL (m.take i)).length≤2097152:=by rw [metL_len];simp;omega
    have ha1:=k_impl_hasInt (X:=X) (n:=(m.getD i c0).a) ha.rows (by unfold lim;omega)
    have ha2:=k_impl_hasInt (X:=X) (n:=(m.getD i c0).b) ha.rows (by unfold lim;omega)
    by_cases h1:(m.getD i c0).b≤(m.getD i c0).a
    · have hr:=hneg fun h=>by have:=h.1;omega
      simp only [t1,l2,t5,t11,t12,t13,hel.1,hel.2.2.1,hat,ha1,ha2,List.prefix_refl,h1,hr,go_sem];exact finish_flat rfl hp
    by_cases h2:edgeIx es (m.getD i c0).a (m.getD i c0).b < 0
    · have hr:=hneg fun h=>by have:=h.2.1;omega
      simp only [t1,l2,t5,t11,t12,t13,hel.1,hel.2.2.1,hat,ha1,ha2,List.prefix_refl,h1,h2,hr,go_sem];exact finish_flat rfl hp
    have pos:(0 < i→(m.getD (i - 1) c0).a < (m.getD i c0).a)→¬ (m.getD i c0).a∈metL (m.take i)→¬ (m.getD i c0).b∈metL (m.take i)→CpOk es m i:=fun a b c=>⟨by omega,by omega,a,b,c⟩
    rcases Nat.eq_zero_or_pos i with hz | hpi
    · have hz':¬ (0:Int) < i:=by omega
      by_cases h4:(m.getD i c0).a∈metL (m.take i)
      · have hr:=hneg fun h=>h.2.2.2.1 h4
        simp only [t1,l2,t5,t11,t12,t13,hel.1,hel.2.2.1,hat,ha1,ha2,List.prefix_refl,h1,h2,hz',h4,hr,go_sem];exact finish_flat rfl hp
      by_cases h5:(m.getD i c0).b∈metL (m.take i)
      · have hr:=hneg fun h=>h.2.2.2.2 h5
        simp only [t1,l2,t5,t11,t12,t13,hel.1,hel.2.2.1,hat,ha1,ha2,List.prefix_refl,h1,h2,hz',h4,h5,hr,go_sem];exact finish_flat rfl hp
      have hP:=pos (fun h=>by omega) h4 h5
      obtain ⟨v',hh',c,ha'⟩:=ha.push [[.int .i64 (m.getD i c0).a],[.int .i64 (m.getD i c0).b]] (by simp) (by simp) (by rw [ints_len];simp;unfold lim;omega)
      simp only [List.flatten_cons,List.flatten_nil,List.append_nil,List.cons_append,List.nil_append,List.length_cons,List.length_nil,Nat.zero_add,Nat.reduceAdd] at c;simp only [t1,l2,t5,t11,t12,t13,hel.1,hel.2.2.1,hat,ha1,ha2,List.prefix_refl,h1,h2,hz',h4,h5,c,hw,go_sem];refine ⟨hi1,ha'.up,below_succ hall hP,_,rfl,?_⟩;rw [take_getD (d:=c0) hi1,metL_snoc,← ints_app];exact ha'
    · have hp':(0:Int) < i:=by omega
      have hw1:IntKind.i64.wrap ((i:Int) - 1)=((i - 1:Nat):Int):=by rw [w64 (by omega) (by omega)];omega
      have hel2:=cp_el (hm.up hp) (show i - 1 < m.length by omega)
      by_cases h3:(m.getD i c0).a≤(m.getD (i - 1) c0).a
      · have hr:=hneg fun h=>by have:=h.2.2.1 hpi;omega
        simp only [t1,l2,t5,t11,t12,t13,hel.1,hel.2.2.1,hat,ha1,ha2,List.prefix_refl,hw1,hel2.1,hel2.2.1,hel2.2.2.2.1,h1,h2,hp',h3,hr,go_sem];exact finish_flat rfl hp
      by_cases h4:(m.getD i c0).a∈metL (m.take i)
      · have hr:=hneg fun h=>h.2.2.2.1 h4
        simp only [t1,l2,t5,t11,t12,t13,hel.1,hel.2.2.1,hat,ha1,ha2,List.prefix_refl,hw1,hel2.1,hel2.2.1,hel2.2.2.2.1,h1,h2,hp',h3,h4,hr,go_sem];exact finish_flat rfl hp
      by_cases h5:(m.getD i c0).b∈metL (m.take i)
      · have hr:=hneg fun h=>h.2.2.2.2 h5
        simp only [t1,l2,t5,t11,t12,t13,hel.1,hel.2.2.1,hat,ha1,ha2,List.prefix_refl,hw1,hel2.1,hel2.2.1,hel2.2.2.2.1,h1,h2,hp',h3,h4,h5,hr,go_sem];exact finish_flat rfl hp
      have hP:=pos (fun h=>by omega) h4 h5
      obtain ⟨v',hh',c,ha'⟩:=ha.push [[.int .i64 (m.getD i c0).a],[.int .i64 (m.getD i c0).b]] (by simp) (by simp) (by rw [ints_len];simp;unfold lim;omega)
      simp only [List.flatten_cons,List.flatten_nil,List.append_nil,List.cons_append,List.nil_append,List.length_cons,List.length_nil,Nat.zero_add,Nat.reduceAdd] at c;simp only [t1,l2,t5,t11,t12,t13,hel.1,hel.2.2.1,hat,ha1,ha2,List.prefix_refl,hw1,hel2.1,hel2.2.1,hel2.2.2.2.1,h1,h2,hp',h3,h4,h5,c,hw,go_sem];refine ⟨hi1,ha'.up,below_succ hall hP,_,rfl,?_⟩;rw [take_getD (d:=c0) hi1,metL_snoc,← ints_app];exact ha'
  · have hr:MOk size es m:=⟨g,fun j hj=>hall j (by omega)⟩
    simp only [hr,go_sem];exact finish_flat rfl hp
open Classical in
theorem k_spec_MatchOk (he:Rows h 5 ev (edges es)) (hm:Rows h 2 mv (cps m)) (hl:es.length≤lim) (hml:m.length≤1048576):C T X n_spec_MatchOk [graphV size ev,mv] h=some (.bool (decide (MOk size es m)),h):=by
  have hk:=k_spec_GraphOk (X:=X) (size:=size) he hl;refine C_go t_spec_MatchOk rfl ?_;unfold F_spec_MatchOk
  by_cases g:GOk size es
  rotate_left
  · have hr:¬ MOk size es m:=fun h=>g h.1
    unfold graphV at hk ⊢;simp only [hk,g,hr,go_sem]
  have hk':=hk;unfold graphV at hk ⊢
  by_cases hm9:(9:Int) < m.length
  · have hr:¬ MOk size es m:=fun h=>by have:=mok_len h;have:=g.1;omega
    simp only [hk,g,hm.lnm,hm9,hr,go_sem]
  simp only [hk,g,hm.lnm,hm9,zeros,fillAt,go_sem]
  refine w_for m.length (fun i t loc h'=>t 1=mv∧loc 2=some [.int .i64 size,ev]∧t 6=.int .i64 i∧h <+: h'∧(∀ j,j < i→CpOk es m j)∧∃ v,t 5=v∧Acc h 1 y_int v (ints (metL (m.take i))) h') ⟨rfl,rfl,rfl,List.prefix_append _ _,fun j hj=>by omega,_,rfl,Acc.new⟩ ?_
  rintro i t loc h' hi ⟨t1,l2,t6,hp,hall,v,t5,ha⟩;simp only [t1,t6,(hm.up hp).lnm,go_sem]
  refine w_open (by simp only [go_sem];rfl) ?_ ?_<;>intro hc
  · have hi1:i < m.length:=by omega
    have hw:IntKind.i64.wrap ((i:Int)+1)=((i+1:Nat):Int):=w64 (by omega) (by omega)
    have hel:=cp_el (hm.up hp) hi1
    have hneg:¬ CpOk es m i→¬ MOk size es m:=fun hn g=>hn (g.2 i hi1)
    have hat:=k_spec_l08At (X:=X) (size:=size) (x:=(m.getD i c0).a) (y:=(m.getD i c0).b) (he.up hp) hl;unfold graphV at hat
    have hml2:(metL (m.take i)).length≤2097152:=by rw [metL_len];simp;omega
    have ha1:=k_spec_l03In (X:=X) (n:=(m.getD i c0).a) ha.rows (by unfold lim;omega)
    have ha2:=k_spec_l03In (X:=X) (n:=(m.getD i c0).b) ha.rows (by unfold lim;omega)
    by_cases h1:(m.getD i c0).b≤(m.getD i c0).a
    · have hr:=hneg fun h=>by have:=h.1;omega
      simp only [t1,l2,t5,t6,hel.1,hel.2.2.1,hat,ha1,ha2,List.prefix_refl,h1,hr,go_sem];exact finish_flat rfl hp
    have pos:¬ edgeIx es (m.getD i c0).a (m.getD i c0).b < 0→(0 < i→(m.getD (i - 1) c0).a < (m.getD i c0).a)→¬ (m.getD i c0).a∈metL (m.take i)→¬ (m.getD i c0).b∈metL (m.take i)→CpOk es m i:=fun d a b c=>⟨by omega,by omega,a,b,c⟩
    rcases Nat.eq_zero_or_pos i with hz | hpi
    · have hz':¬ (0:Int) < i:=by omega
      by_cases h2:edgeIx es (m.getD i c0).a (m.getD i c0).b < 0
      · have hr:=hneg fun h=>by have:=h.2.1;omega
        simp only [t1,l2,t5,t6,hel.1,hel.2.2.1,hat,ha1,ha2,List.prefix_refl,h1,h2,hz',hr,go_sem];exact finish_flat rfl hp
      by_cases h4:(m.getD i c0).a∈metL (m.take i)
      · have hr:=hneg fun h=>h.2.2.2.1 h4
        simp only [t1,l2,t5,t6,hel.1,hel.2.2.1,hat,ha1,ha2,List.prefix_refl,h1,h2,hz',h4,hr,go_sem];exact finish_flat rfl hp
      by_cases h5:(m.getD i c0).b∈metL (m.take i)
      · have hr:=hneg fun h=>h.2.2.2.2 h5
        simp only [t1,l2,t5,t6,hel.1,hel.2.2.1,hat,ha1,ha2,List.prefix_refl,h1,h2,hz',h4,h5,hr,go_sem];exact finish_flat rfl hp
      have hP:=pos h2 (fun h=>by omega) h4 h5
      obtain ⟨v',hh',c,ha'⟩:=ha.push [[.int .i64 (m.getD i c0).a],[.int .i64 (m.getD i c0).b]] (by simp) (by simp) (by rw [ints_len];simp;unfold lim;omega)
      simp only [List.flatten_cons,List.flatten_nil,List.append_nil,List.cons_append,List.nil_append,List.length_cons,List.length_nil,Nat.zero_add,Nat.reduceAdd] at c;simp only [t1,l2,t5,t6,hel.1,hel.2.2.1,hat,ha1,ha2,List.prefix_refl,h1,h2,hz',h4,h5,c,hw,go_sem];refine ⟨hi1,ha'.up,below_succ hall hP,_,rfl,?_⟩;rw [take_getD (d:=c0) hi1,metL_snoc,← ints_app];exact ha'
    · have hp':(0:Int) < i:=by omega
      have hw1:IntKind.i64.wrap ((i:Int) - 1)=((i - 1:Nat):Int):=by rw [w64 (by omega) (by omega)];omega
      have hel2:=cp_el (hm.up hp) (show i - 1 < m.length by omega)
      by_cases h3:(m.getD i c0).a≤(m.getD (i - 1) c0).a
      · have hr:=hneg fun h=>by have:=h.2.2.1 hpi;omega
        simp only [t1,l2,t5,t6,hel.1,hel.2.2.1,hat,ha1,ha2,List.prefix_refl,hw1,hel2.1,hel2.2.1,hel2.2.2.2.1,h1,hp',h3,hr,go_sem];exact finish_flat rfl hp
      by_cases h2:edgeIx es (m.getD i c0).a (m.getD i c0).b < 0
      · have hr:=hneg fun h=>by have:=h.2.1;omega
        simp only [t1,l2,t5,t6,hel.1,hel.2.2.1,hat,ha1,ha2,List.prefix_refl,h1,h2,hw1,hel2.1,hel2.2.1,hel2.2.2.2.1,hp',h3,hr,go_sem];exact finish_flat rfl hp
      by_cases h4:(m.getD i c0).a∈metL (m.take i)
      · have hr:=hneg fun h=>h.2.2.2.1 h4
        simp only [t1,l2,t5,t6,hel.1,hel.2.2.1,hat,ha1,ha2,List.prefix_refl,hw1,hel2.1,hel2.2.1,hel2.2.2.2.1,h1,h2,hp',h3,h4,hr,go_sem];exact finish_flat rfl hp
      by_cases h5:(m.getD i c0).b∈metL (m.take i)
      · have hr:=hneg fun h=>h.2.2.2.2 h5
        simp only [t1,l2,t5,t6,hel.1,hel.2.2.1,hat,ha1,ha2,List.prefix_refl,hw1,hel2.1,hel2.2.1,hel2.2.2.2.1,h1,h2,hp',h3,h4,h5,hr,go_sem];exact finish_flat rfl hp
      have hP:=pos h2 (fun h=>by omega) h4 h5
      obtain ⟨v',hh',c,ha'⟩:=ha.push [[.int .i64 (m.getD i c0).a],[.int .i64 (m.getD i c0).b]] (by simp) (by simp) (by rw [ints_len];simp;unfold lim;omega)
      simp only [List.flatten_cons,List.flatten_nil,List.append_nil,List.cons_append,List.nil_append,List.length_cons,List.length_nil,Nat.zero_add,Nat.reduceAdd] at c;simp only [t1,l2,t5,t6,hel.1,hel.2.2.1,hat,ha1,ha2,List.prefix_refl,hw1,hel2.1,hel2.2.1,hel2.2.2.2.1,h1,h2,hp',h3,h4,h5,c,hw,go_sem];refine ⟨hi1,ha'.up,below_succ hall hP,_,rfl,?_⟩;rw [take_getD (d:=c0) hi1,metL_snoc,← ints_app];exact ha'
  · have hr:MOk size es m:=⟨g,fun j hj=>hall j (by omega)⟩
    simp only [hr,go_sem];exact finish_flat rfl hp
end
section
variable {X:CallF} {h:Heap} {ev mv:Value} {es:List E} {m:List Cp} {size:Int}
end
end Go.Proofs.Ytafhipglhnfgnaa.Ab
set_option linter.unusedSimpArgs false
set_option linter.unusedVariables false
set_option linter.unnecessarySimpa false
set_option maxHeartbeats 4000000
namespace Go.Proofs.Ytafhipglhnfgnaa.Ab
open Go.RowKit
def worthL (es:List E) (m:List Cp):Int:=m.foldl (fun s c=>s+scalar (es.getD (edgeIx es c.a c.b).toNat e0).w1 (es.getD (edgeIx es c.a c.b).toNat e0).w2 (es.getD (edgeIx es c.a c.b).toNat e0).w3) 0
def scAt (es:List E) (c:Cp):Int:=scalar (es.getD (edgeIx es c.a c.b).toNat e0).w1 (es.getD (edgeIx es c.a c.b).toNat e0).w2 (es.getD (edgeIx es c.a c.b).toNat e0).w3
theorem worthL_take {es:List E} {m:List Cp} {i:Nat} (hi:i < m.length):worthL es (m.take (i+1))=worthL es (m.take i)+scAt es (m.getD i c0):=by
  unfold worthL;rw [take_getD (d:=c0) hi,List.foldl_append];rfl
theorem ix_lt {es:List E} {a b:Int} (h:0≤edgeIx es a b):∃ k:Nat,edgeIx es a b=k∧k < es.length:=by
  unfold edgeIx at *;rcases firstIx_cases (p:=Join a b) e0 es with ⟨h1,_⟩ | ⟨i,h1,h2,_⟩
  · omega
  · exact ⟨i,h1,h2⟩
theorem scAt_bnd {size:Int} {es:List E} {m:List Cp} (g:MOk size es m) {i:Nat} (hi:i < m.length):0≤scAt es (m.getD i c0)∧scAt es (m.getD i c0)≤5000000:=by
  obtain ⟨k,h1,h2⟩:=ix_lt (g.2 i hi).2.1;have hE:=gok_mem g.1 (getD_mem (d:=e0) h2);unfold EOk at hE;unfold scAt;rw [h1];simp only [Int.toNat_natCast];unfold scalar;omega
theorem worthL_bnd {size:Int} {es:List E} {m:List Cp} (g:MOk size es m):∀ i,i≤m.length→0≤worthL es (m.take i)∧worthL es (m.take i)≤5000000*i:=by
  intro i
  induction i with
  | zero=>intro _;simp [worthL]
  | succ i ih =>
    intro hi
    have h1:=ih (by omega)
    have h2:=scAt_bnd g (show i < m.length by omega)
    rw [worthL_take (by omega)]
    omega
def CertOk (size:Int) (es:List E) (m:List Cp) (ys:List Int) (gs:List Gp):Prop:=PfOk size es ys gs∧MOk size es m∧2*worthL es m=weightL ys gs
section
variable {X:CallF} {h:Heap} {v w ev yv gv mv:Value} {ys:List Int} {gs:List Gp} {es:List E} {m:List Cp} {size:Int}
theorem k_spec_l11Worth (he:Rows h 5 ev (edges es)) (hm:Rows h 2 mv (cps m)) (hl:es.length≤lim) (hml:m.length≤1048576) (g:MOk size es m):C T X n_spec_l11Worth [graphV size ev,mv] h=some (.int .i64 (worthL es m),h):=by
  have hgl:=mok_len g;have g11:=g.1.1;have hwb:=worthL_bnd g;refine C_go t_spec_l11Worth rfl ?_;unfold F_spec_l11Worth graphV;simp only [go_sem]
  refine w_for m.length (fun i t loc h'=>h'=h∧t 1=mv∧loc 2=some [.int .i64 size,ev]∧t 5=.int .i64 (worthL es (m.take i))∧t 6=.int .i64 i) ⟨rfl,rfl,rfl,rfl,rfl⟩ ?_
  rintro i t loc h' hi ⟨rfl,t1,l2,t5,t6⟩;simp only [t1,t6,hm.lnm,go_sem]
  refine w_open (by simp only [go_sem];rfl) ?_ ?_<;>intro hc
  · have hi1:i < m.length:=by omega
    have hw:IntKind.i64.wrap ((i:Int)+1)=((i+1:Nat):Int):=w64 (by omega) (by omega)
    have hel:=cp_el hm hi1;have cat:=k_spec_l08At (X:=X) (size:=size) (x:=(m.getD i c0).a) (y:=(m.getD i c0).b) he hl;obtain ⟨k,h1,h2⟩:=ix_lt (g.2 i hi1).2.1;rw [h1] at cat;have hek:=edge_el he h2;have hWk:=eok_w (gok_mem g.1 (getD_mem (d:=e0) h2));have csc:=k_spec_Scalar (X:=X) (h:=h') hWk
    have hsc:scalar (es.getD k e0).w1 (es.getD k e0).w2 (es.getD k e0).w3=scAt es (m.getD i c0):=by unfold scAt;rw [h1];rfl
    rw [hsc] at csc;have hst:=worthL_take (es:=es) hi1
    have b1:=hwb i (by omega)
    have b2:=scAt_bnd g hi1
    have hw2:IntKind.i64.wrap (worthL es (m.take i)+scAt es (m.getD i c0))=worthL es (m.take (i+1)):=by rw [hst];exact w64 (by omega) (by omega)
    unfold graphV at cat;unfold edgeV edgeR at csc;simp only [t1,l2,t5,t6,hel.1,hel.2.1,hel.2.2.2.1,hel.2.2.2.2,cat,hek.1,hek.2.2.1,csc,hw2,hw,List.prefix_refl,go_sem];exact hi1
  · have hil:i=m.length:=by omega
    subst hil;rw [List.take_length] at t5;simp only [t5,go_sem]
open Classical in
theorem k_spec_Certifies (he : Rows h 5 ev (edges es)) (hm : Rows h 2 mv (cps m)) (hy : Rows h 1 yv (ints ys)) (hg : RowsG h gv gs) (hl : es.length ≤ lim) (hml : m.length ≤ 1048576) (hb : PfBnd ys gs) :
    C T X n_spec_Certifies [graphV size ev,mv,proofV yv gv] h=some (.bool (decide (CertOk size es m ys gs)),h):=by
  have k1:=k_spec_ProofOk (X:=X) (size:=size) he hy hg hl hb;have k2:=k_spec_MatchOk (X:=X) (size:=size) he hm hl hml;refine C_go t_spec_Certifies rfl ?_;unfold F_spec_Certifies
  by_cases p:PfOk size es ys gs
  rotate_left
  · have hr:¬ CertOk size es m ys gs:=fun h=>p h.1
    unfold graphV proofV at *;simp only [k1,p,hr,List.prefix_refl,go_sem]
  by_cases g:MOk size es m
  rotate_left
  · have hr:¬ CertOk size es m ys gs:=fun h=>g h.2.1
    unfold graphV proofV at *;simp only [k1,k2,p,g,hr,List.prefix_refl,go_sem]
  have f:=pfOk_fit p;have hwb:=weight_bnd f;have cw:=k_spec_l11Sum (X:=X) hy hg f;have c2:=k_spec_l11Worth (X:=X) he hm hl hml g;have b1:=worthL_bnd g m.length (Nat.le_refl _);rw [List.take_length] at b1;have hgl:=mok_len g;have g11:=g.1.1
  have hw2:IntKind.i64.wrap (2*worthL es m)=2*worthL es m:=w64 (by omega) (by omega)
  by_cases q:2*worthL es m=weightL ys gs
  · have hr:CertOk size es m ys gs:=⟨p,g,q⟩
    unfold graphV proofV at *;simp only [k1,k2,p,g,cw,c2,hw2,decide_eq_true q,hr,List.prefix_refl,go_sem]
  · have hr:¬ CertOk size es m ys gs:=fun h=>q h.2.2
    unfold graphV proofV at *;simp only [k1,k2,p,g,cw,c2,hw2,q,hr,List.prefix_refl,go_sem]
open Classical in
theorem k_impl_Certifies (he : Rows h 5 ev (edges es)) (hm : Rows h 2 mv (cps m)) (hy : Rows h 1 yv (ints ys)) (hg : RowsG h gv gs) (hl : es.length ≤ lim) (hml : m.length ≤ 1048576) (hb : PfBnd ys gs) :
    C T X n_impl_Certifies [graphV size ev,mv,proofV yv gv] h=some (.bool (decide (CertOk size es m ys gs)),h):=by
  have k1:=k_impl_ProofOk (X:=X) (size:=size) he hy hg hl hb;have k2:=k_impl_MatchOk (X:=X) (size:=size) he hm hl hml;refine C_go t_impl_Certifies rfl ?_;unfold F_impl_Certifies
  by_cases p:PfOk size es ys gs
  rotate_left
  · have hr:¬ CertOk size es m ys gs:=fun h=>p h.1
    unfold graphV proofV at *;simp only [k1,p,hr,List.prefix_refl,go_sem]
  by_cases g:MOk size es m
  rotate_left
  · have hr:¬ CertOk size es m ys gs:=fun h=>g h.2.1
    unfold graphV proofV at *;simp only [k1,k2,p,g,hr,List.prefix_refl,go_sem]
  have f:=pfOk_fit p;have hwt:=weight_bnd f
  have cw:=k_impl_weight (X:=X) hy hg f fun i hi=>(p.2.2.1 i hi).1.1.2.1
  have hwb:=worthL_bnd g;have hgl:=mok_len g;have g11:=g.1.1;unfold graphV proofV at *;simp only [k1,k2,p,g,hm.lnm,go_sem]
  refine w_for m.length (fun i t loc h'=>h'=h∧loc 3=some [.int .i64 size,ev]∧loc 5=some [yv,gv]∧t 7=.int .i64 (worthL es (m.take i))∧t 20=mv∧t 21=.int .i64 m.length∧t 22=.int .i64 i) ⟨rfl,rfl,rfl,rfl,rfl,rfl,rfl⟩ ?_
  rintro i t loc h' hi ⟨rfl,l3,l5,t7,t20,t21,t22⟩;simp only [t21,t22,go_sem]
  refine w_open (by simp only [go_sem];rfl) ?_ ?_<;>intro hc
  · have hi1:i < m.length:=by omega
    have hw:IntKind.i64.wrap ((i:Int)+1)=((i+1:Nat):Int):=w64 (by omega) (by omega)
    have hel:=cp_el hm hi1;have cat:=k_impl_edgeAt (X:=X) (size:=size) (x:=(m.getD i c0).a) (y:=(m.getD i c0).b) he hl;obtain ⟨k,h1,h2⟩:=ix_lt (g.2 i hi1).2.1;rw [h1] at cat;have hek:=edge_el he h2;have hWk:=eok_w (gok_mem g.1 (getD_mem (d:=e0) h2));have csc:=k_impl_Scalar (X:=X) (h:=h') hWk
    have hsc:scalar (es.getD k e0).w1 (es.getD k e0).w2 (es.getD k e0).w3=scAt es (m.getD i c0):=by unfold scAt;rw [h1];rfl
    rw [hsc] at csc;have hst:=worthL_take (es:=es) hi1
    have b1:=hwb i (by omega)
    have b2:=scAt_bnd g hi1
    have hw2:IntKind.i64.wrap (worthL es (m.take i)+scAt es (m.getD i c0))=worthL es (m.take (i+1)):=by rw [hst];exact w64 (by omega) (by omega)
    unfold graphV at cat;unfold edgeV edgeR at csc;simp only [l3,l5,t7,t20,t21,t22,hel.1,hel.2.2.1,cat,hek.1,hek.2.2.1,csc,hw2,hw,List.prefix_refl,go_sem];exact hi1
  · have hil:i=m.length:=by omega
    subst hil;have b1:=hwb m.length (Nat.le_refl _);rw [List.take_length] at t7 b1
    have hw2:IntKind.i64.wrap (2*worthL es m)=2*worthL es m:=w64 (by omega) (by omega)
    by_cases q:2*worthL es m=weightL ys gs
    · have hr:CertOk size es m ys gs:=⟨p,g,q⟩
      simp only [l5,t7,cw,hw2,decide_eq_true q,hr,List.prefix_refl,go_sem]
    · have hr:¬ CertOk size es m ys gs:=fun h=>q h.2.2
      simp only [l5,t7,cw,hw2,q,hr,List.prefix_refl,go_sem]
end
end Go.Proofs.Ytafhipglhnfgnaa.Ab
set_option linter.unusedSimpArgs false
set_option linter.unusedVariables false
set_option linter.unnecessarySimpa false
set_option maxHeartbeats 4000000
namespace Go.Proofs.Ytafhipglhnfgnaa.Ab
open Go.RowKit
theorem gokS_lt {size:Int} {es:List E} (g:GOk size es) {i:Nat}:∀ j,i < j→j < es.length→ELt (es.getD i e0) (es.getD j e0)
  | j+1,h,hj=>by
    have h1:=(g.2 (j+1) hj).2 (by omega)
    rw [Nat.add_sub_cancel] at h1
    by_cases e:i=j
    · rw [e];exact h1
    · have h2:=gokS_lt g (i:=i) j (by omega) (by omega)
      unfold ELt at *;omega
theorem edge_ix {size:Int} {es:List E} (g:GOk size es) {e:Nat} (he:e < es.length):edgeIx es (es.getD e e0).a (es.getD e e0).b=e:=by
  refine firstIx_at (d:=e0) he (.inl ⟨rfl,rfl⟩) fun j hj hJ=>?_
  have h1:=gokS_lt g e hj he;have h2:=(g.2 e he).1
  have h3:=(g.2 j (by omega)).1
  unfold ELt at h1;unfold EOk at h2 h3
  rcases hJ with q | q<;>omega
theorem gok_ed {size:Int} {es:List E} {n:Nat} (g:GOk size es) (hn:size=n):∀ e,e < es.length→vA es e < n∧vB es e < n∧vA es e≠vB es e:=fun e he=>by
  have h:=(g.2 e he).1;unfold EOk at h;unfold vA vB;omega
theorem gok_int {size:Int} {es:List E} (g:GOk size es) {e:Nat} (he:e < es.length):(es.getD e e0).a=(vA es e:Int)∧(es.getD e e0).b=(vB es e:Int)∧vA es e < vB es e:=by
  have h:=(g.2 e he).1;unfold EOk at h;unfold vA vB;omega
theorem gok_w {size:Int} {es:List E} (g:GOk size es) {e:Nat} (he:e < es.length):0≤vW es e∧vW es e≤4515050:=by
  have h:=(g.2 e he).1;unfold EOk at h;unfold vW scalar;omega
def cpAt (es:List E) (m:Nat→Option Nat) (v:Nat):Option Cp:=match m v with
  | some e=>if vA es e=v then some ⟨(v:Int),(vB es e:Int)⟩ else none
  | none=>none
def cplL (es:List E) (n:Nat) (m:Nat→Option Nat):List Cp:=(List.range n).filterMap (cpAt es m)
section
variable {es:List E} {s s':Sv} {n:Nat} {m:Nat→Option Nat} {v e p:Nat} {size Y M:Int}
theorem cpAt_some {c:Cp} (h:cpAt es m v=some c):∃ e,m v=some e∧vA es e=v∧c=⟨(v:Int),(vB es e:Int)⟩:=by
  unfold cpAt at h
  cases hm:m v with
  | none=>rw [hm] at h;cases h
  | some e =>
    rw [hm] at h;simp only at h
    by_cases q:vA es e=v
    · rw [if_pos q] at h;exact ⟨e,rfl,q,(Option.some.inj h).symm⟩
    · rw [if_neg q] at h;cases h
def CApart (c d:Cp):Prop:=c.a < d.a∧d.a≠c.b∧d.b≠c.a∧d.b≠c.b
theorem mok_of {l:List Cp} (g:GOk size es) (h1:∀ c∈l,c.a < c.b∧0≤edgeIx es c.a c.b) (h2:l.Pairwise CApart):MOk size es l:=by
  have hp:∀ i j,i < j→j < l.length→CApart (l.getD i c0) (l.getD j c0):=fun i j hij hj=>by
    have:=List.pairwise_iff_getElem.1 h2 i j (by omega) hj hij
    simpa [List.getD,hj,show i < l.length by omega] using this
  refine ⟨g,fun i hi=>?_⟩
  obtain ⟨q1,q2⟩:=h1 _ (getD_mem (d:=c0) hi)
  have out:∀ x,x∈metL (l.take i)→∃ j,j < i∧(x=(l.getD j c0).a∨x=(l.getD j c0).b):=fun x hx=>by
    unfold metL at hx;obtain ⟨c,hc,hx⟩:=List.mem_flatMap.1 hx;obtain ⟨j,hj,e⟩:=mem_getD (d:=c0) hc;rw [List.length_take] at hj
    have e2:(l.take i).getD j c0=l.getD j c0:=by
      rw [List.getD_eq_getElem?_getD,List.getElem?_take,if_pos (by omega),← List.getD_eq_getElem?_getD]
    rw [e2] at e;subst e
    refine ⟨j,by omega,?_⟩
    simpa using hx
  refine ⟨q1,q2,fun h0=>(hp (i - 1) i (by omega) hi).1,fun hx=>?_,fun hx=>?_⟩
  · obtain ⟨j,hj,e⟩:=out _ hx
    obtain ⟨a1,a2,a3,a4⟩:=hp j i hj hi;rcases e with e | e
    · omega
    · exact a2 e
  · obtain ⟨j,hj,e⟩:=out _ hx
    obtain ⟨a1,a2,a3,a4⟩:=hp j i hj hi;rcases e with e | e
    · exact a3 e
    · exact a4 e
theorem cpl_mok (g:GOk size es) (hn:size=n) (H:Pm es n m):MOk size es (cplL es n m):=by
  refine mok_of g (fun c hc=>?_) ?_
  · obtain ⟨v,hv,h⟩:=List.mem_filterMap.1 hc
    obtain ⟨e,h1,h2,h3⟩:=cpAt_some h;obtain ⟨he,_⟩:=H.of v e (List.mem_range.1 hv) h1;obtain ⟨i1,i2,i3⟩:=gok_int g he;rw [h3,← h2,← i1,← i2]
    refine ⟨by show (es.getD e e0).a < (es.getD e e0).b;omega,?_⟩
    show 0≤edgeIx es (es.getD e e0).a (es.getD e e0).b;rw [edge_ix g he];omega
  · unfold cplL
    rw [List.pairwise_filterMap]
    refine List.Pairwise.imp_of_mem (R:=(· < ·)) (fun {v w} hv hw hvw c hc d hd=>?_) List.pairwise_lt_range
    obtain ⟨e,h1,h2,h3⟩:=cpAt_some hc;obtain ⟨f,g1,g2,g3⟩:=cpAt_some hd;obtain ⟨e1,e2,e3,_⟩:=H.of v e (List.mem_range.1 hv) h1;obtain ⟨f1,f2,f3,_⟩:=H.of w f (List.mem_range.1 hw) g1
    have ne:e≠f:=fun q=>by rw [q] at h2;omega
    subst h3 g3
    refine ⟨by show (v:Int) < w;omega,fun q=>?_,fun q=>?_,fun q=>?_⟩
    · have q':w=vB es e:=by have:(w:Int)=vB es e:=q;omega
      rw [← q',g1] at e3;exact ne (Option.some.inj e3).symm
    · have q':vB es f=v:=by have:(vB es f:Int)=v:=q;omega
      rw [q',h1] at f3;exact ne (Option.some.inj f3)
    · have q':vB es f=vB es e:=by have:(vB es f:Int)=vB es e:=q;omega
      rw [q',e3] at f3;exact ne (Option.some.inj f3)
theorem worthL_app {a b:List Cp}:worthL es (a++b)=worthL es a+worthL es b:=by
  have key:∀ (l:List Cp) (x:Int),l.foldl (fun s c=>s+scalar (es.getD (edgeIx es c.a c.b).toNat e0).w1 (es.getD (edgeIx es c.a c.b).toNat e0).w2 (es.getD (edgeIx es c.a c.b).toNat e0).w3) x=x+worthL es l:=by
    intro l;unfold worthL
    induction l with
    | nil=>intro x;simp
    | cons c l ih =>
      intro x;simp only [List.foldl_cons];rw [ih,ih (0+_)];omega
  unfold worthL;rw [List.foldl_append,key];rfl
open Classical in
theorem cpl_worth (g:GOk size es) (H:Pm es n m):worthL es (cplL es n m)=SI (fun e=>if m (vA es e)=some e then vW es e else 0) es.length:=by
  have h1:∀ k,k≤n→worthL es (cplL es k m)=SI (fun v=>SI (fun e=>if m v=some e∧vA es e=v then vW es e else 0) es.length) k:=by
    intro k
    induction k with
    | zero=>intro _;rfl
    | succ k ih =>
      intro hk
      have e1:cplL es (k+1) m=cplL es k m++[k].filterMap (cpAt es m):=by unfold cplL;rw [List.range_succ,List.filterMap_append]
      rw [e1,worthL_app,ih (by omega)]
      show _=SI _ k+SI _ es.length
      congr 1
      cases hc:cpAt es m k with
      | none =>
        have:[k].filterMap (cpAt es m)=[]:=by simp [hc]
        rw [this]
        rw [SI_congr (g:=fun _=>0) fun e _=>if_neg fun q=>?_,SI_zero]
        · rfl
        · unfold cpAt at hc
          rw [q.1] at hc;simp only [q.2,if_true] at hc;cases hc
      | some c =>
        have:[k].filterMap (cpAt es m)=[c]:=by simp [hc]
        rw [this];obtain ⟨e,h1,h2,h3⟩:=cpAt_some hc
        obtain ⟨he,_⟩:=H.of k e (by omega) h1
        obtain ⟨i1,i2,i3⟩:=gok_int g he
        rw [SI_one (a:=e) he fun i _ hi=>if_neg fun q=>hi (Option.some.inj (h1.symm.trans q.1)).symm,if_pos ⟨h1,h2⟩]
        have:edgeIx es c.a c.b=e:=by rw [h3];show edgeIx es (k:Int) (vB es e)=e;rw [← h2,← i1,← i2];exact edge_ix g he
        unfold worthL;simp only [List.foldl_cons,List.foldl_nil,this,Int.toNat_natCast,Int.zero_add];rfl
  rw [h1 n (Nat.le_refl n),SI_swap]
  refine SI_congr fun e he=>?_
  rw [SI_one (a:=vA es e) (H.ed e he).1 fun i _ hi=>if_neg fun q=>hi q.2.symm]
  by_cases c:m (vA es e)=some e
  · rw [if_pos c,if_pos ⟨c,rfl⟩]
  · rw [if_neg c,if_neg (fun q=>c q.1)]
end
end Go.Proofs.Ytafhipglhnfgnaa.Ab
set_option linter.unusedSimpArgs false
set_option linter.unusedVariables false
set_option linter.unnecessarySimpa false
set_option maxHeartbeats 4000000
namespace Go.Proofs.Ytafhipglhnfgnaa.Ab
open Go.RowKit
def ysOf (s:Sv):List Int:=(List.range s.n).map s.y
open Classical in
noncomputable def memL (s:Sv) (p:Nat):List Int:=((List.range s.n).filter fun v=>decide (Wi s v p)).map fun v:Nat=>(v:Int)
open Classical in
noncomputable def zRings (s:Sv):List Nat:=(List.range s.N).filter fun p=>decide (IsRing s p∧0 < s.z p)
noncomputable def grpOf (s:Sv) (p:Nat):Gp:=⟨memL s p,s.z p⟩
section
variable {es:List E} {s s':Sv} {n:Nat} {m:Nat→Option Nat} {v e p:Nat} {size Y M a b:Int} {ps:List Nat}
theorem zRings_mem:p∈zRings s↔IsRing s p∧0 < s.z p:=by
  unfold zRings;simp only [List.mem_filter,List.mem_range,decide_eq_true_eq]
  exact ⟨fun h=>h.2,fun h=>⟨h.1.2.1,h⟩⟩
theorem memL_mem {x:Int}:x∈memL s p↔∃ v:Nat,x=v∧v < s.n∧Wi s v p:=by
  unfold memL;simp only [List.mem_map,List.mem_filter,List.mem_range,decide_eq_true_eq];constructor
  · rintro ⟨v,h,rfl⟩;exact ⟨v,rfl,h⟩
  · rintro ⟨v,rfl,h⟩;exact ⟨v,h,rfl⟩
theorem memL_nat (hv:v < s.n):(v:Int)∈memL s p↔Wi s v p:=by
  rw [memL_mem];constructor
  · rintro ⟨w,e,_,h⟩
    have:v=w:=by omega
    rw [this];exact h
  · exact fun h=>⟨v,rfl,hv,h⟩
theorem memL_asc:(memL s p).Pairwise (· < ·):=by
  unfold memL;rw [List.pairwise_map]
  exact (List.Pairwise.filter _ List.pairwise_lt_range).imp fun h=>by omega
open Classical in
theorem memL_len:((memL s p).length:Int)=vcnt s p:=by
  unfold memL vcnt;rw [List.length_map]
  generalize s.n=k
  induction k with
  | zero=>rfl
  | succ k ih =>
    rw [List.range_succ,List.filter_append,List.length_append];show _=SI _ k+_;rw [← ih]
    by_cases h:Wi s k p
    · simp [h]
    · simp [h]
theorem sumY_app {l k:List Int}:sumY (l++k)=sumY l+sumY k:=by
  have key:∀ (l:List Int) (x:Int),l.foldl (·+·) x=x+sumY l:=by
    intro l;unfold sumY
    induction l with
    | nil=>intro x;simp
    | cons c l ih =>
      intro x;simp only [List.foldl_cons];rw [ih,ih (0+_)];omega
  unfold sumY;rw [List.foldl_append,key];rfl
theorem ys_sum:sumY (ysOf s)=SI s.y s.n:=by
  unfold ysOf
  generalize s.n=k
  induction k with
  | zero=>rfl
  | succ k ih =>
    rw [List.range_succ,List.map_append,sumY_app,ih];show _+sumY [s.y k]=SI s.y k+s.y k;unfold sumY;simp
theorem ys_get (hv:v < s.n):(ysOf s).getD v 0=s.y v:=by
  unfold ysOf;simp [List.getD,hv]
theorem sumG_perm {g g':List Gp} (h:g.Perm g'):sumG g=sumG g':=by
  unfold sumG
  exact h.foldl_eq' (fun x _ y _ z=>by omega) 0
theorem grAdd_perm {g g':List Gp} (h:g.Perm g'):grAdd a b g=grAdd a b g':=by
  unfold grAdd
  exact h.foldl_eq' (fun x _ y _ z=>by split<;>split<;>omega) 0
theorem sumG_app {l k:List Gp}:sumG (l++k)=sumG l+sumG k:=by
  have key:∀ (l:List Gp) (x:Int),l.foldl (fun s g=>s+g.z*((g.ms.length / 2:Nat):Int)) x=x+sumG l:=by
    intro l;unfold sumG
    induction l with
    | nil=>intro x;simp
    | cons c l ih =>
      intro x;simp only [List.foldl_cons];rw [ih,ih (0+_)];omega
  unfold sumG;rw [List.foldl_append,key];rfl
theorem grAdd_app {l k:List Gp}:grAdd a b (l++k)=grAdd a b l+grAdd a b k:=by
  have key:∀ (l:List Gp) (x:Int),l.foldl (fun s g=>if a∈g.ms∧b∈g.ms then s+g.z else s) x=x+grAdd a b l:=by
    intro l;unfold grAdd
    induction l with
    | nil=>intro x;simp
    | cons c l ih =>
      intro x;simp only [List.foldl_cons];split
      · rw [ih,ih (0+_)];omega
      · rw [ih]
  unfold grAdd;rw [List.foldl_append,key];rfl
open Classical in
theorem zr_weight (K:Ok es s) (hodd:∀ p,IsRing s p→vcnt s p%2=1):sumG ((zRings s).map (grpOf s))=SI (fun p=>if IsRing s p then s.z p*((vcnt s p - 1) / 2) else 0) s.N:=by
  have:∀ k,sumG (((List.range k).filter fun p=>decide (IsRing s p∧0 < s.z p)).map (grpOf s))=SI (fun p=>if IsRing s p then s.z p*((vcnt s p - 1) / 2) else 0) k:=by
    intro k
    induction k with
    | zero=>rfl
    | succ k ih =>
      rw [List.range_succ,List.filter_append,List.map_append,sumG_app,ih];show _=SI _ k+if IsRing s k then s.z k*((vcnt s k - 1) / 2) else 0
      congr 1
      by_cases h:IsRing s k
      · rw [if_pos h]
        have z0:=(K.z0 k h).1
        by_cases q:0 < s.z k
        · have e:[k].filter (fun p=>decide (IsRing s p∧0 < s.z p))=[k]:=by simp [h,q]
          rw [e];unfold sumG;simp only [List.map_cons,List.map_nil,List.foldl_cons,List.foldl_nil,Int.zero_add];show s.z k*(((memL s k).length / 2:Nat):Int)=_
          congr 1
          have h1:=memL_len (s:=s) (p:=k);have h2:=hodd k h;omega
        · have e:[k].filter (fun p=>decide (IsRing s p∧0 < s.z p))=[]:=by simp [q]
          rw [e,show s.z k=0 by omega,Int.zero_mul]
          rfl
      · have e:[k].filter (fun p=>decide (IsRing s p∧0 < s.z p))=[]:=by simp [h]
        rw [e,if_neg h];rfl
  exact this s.N
open Classical in
theorem zr_add (K:Ok es s) {u w:Nat} (hu:u < s.n) (hw:w < s.n):grAdd (u:Int) w ((zRings s).map (grpOf s))=zSum s u w s.N:=by
  have:∀ k,k≤s.N→grAdd (u:Int) w (((List.range k).filter fun p=>decide (IsRing s p∧0 < s.z p)).map (grpOf s))=zSum s u w k:=by
    intro k
    induction k with
    | zero=>intro _;rfl
    | succ k ih =>
      intro hk
      rw [List.range_succ,List.filter_append,List.map_append,grAdd_app,ih (by omega)]
      show _=zSum s u w k+_
      congr 1
      have hm:∀ x,x < s.n→((x:Int)∈(grpOf s k).ms↔Wi s x k):=fun x hx=>memL_nat hx
      by_cases c:s.n≤k∧Wi s u k∧Wi s w k
      · have hr:IsRing s k:=⟨c.1,by omega,K.wi_gone c.2.1 (K.ngone hu)⟩
        have z0:=(K.z0 k hr).1;rw [if_pos c]
        by_cases q:0 < s.z k
        · have e:[k].filter (fun p=>decide (IsRing s p∧0 < s.z p))=[k]:=by simp [hr,q]
          rw [e];unfold grAdd;simp only [List.map_cons,List.map_nil,List.foldl_cons,List.foldl_nil,Int.zero_add];rw [if_pos ⟨(hm u hu).2 c.2.1,(hm w hw).2 c.2.2⟩];rfl
        · have e:[k].filter (fun p=>decide (IsRing s p∧0 < s.z p))=[]:=by simp [q]
          rw [e,show s.z k=0 by omega]
          rfl
      · rw [if_neg c]
        by_cases q:IsRing s k∧0 < s.z k
        · have e:[k].filter (fun p=>decide (IsRing s p∧0 < s.z p))=[k]:=by simp [q]
          rw [e];unfold grAdd;simp only [List.map_cons,List.map_nil,List.foldl_cons,List.foldl_nil]
          rw [if_neg fun g=>c ⟨q.1.1,(hm u hu).1 g.1,(hm w hw).1 g.2⟩]
        · have e:[k].filter (fun p=>decide (IsRing s p∧0 < s.z p))=[]:=by simp only [List.filter_cons,decide_eq_false q];rfl
          rw [e];rfl
  exact this s.N (Nat.le_refl _)
theorem ring_three (K:Ok es s) (hp:IsRing s p):3≤(memL s p).length:=by
  obtain ⟨r1,r2,r3,r4⟩:=K.ring p hp
  have mem:∀ j∈s.mem p,s.base j < s.n∧Wi s (s.base j) j∧s.up j=some p:=fun j hj=>by
    have h:=r4 j hj;obtain ⟨h1,h2,h3,_⟩:=K.up j p h
    obtain ⟨b1,b2⟩:=K.base j (by have:=h2.2.1;omega) h3
    exact ⟨b1,b2,h⟩
  have nd:((s.mem p).map fun j=>s.base j).Nodup:=by
    rw [List.nodup_iff_pairwise_ne,List.pairwise_map]
    refine List.Pairwise.imp_of_mem (R:=(·≠·)) (fun {i j} hi hj hne q=>?_) (List.nodup_iff_pairwise_ne.1 r3)
    obtain ⟨b1,b2,b3⟩:=mem i hi;obtain ⟨c1,c2,c3⟩:=mem j hj;rw [← q] at c2
    have key:∀ {x y:Nat},Wi s x y→s.up x=some p→s.up y=some p→x=y:=fun {x y} w hx hy=>by
      cases w with
      | refl=>rfl
      | step k1 k2 =>
        rw [hx] at k1;cases k1;have h1:=k2.le K.upOk;have h2:=(K.up _ _ hy).1;omega
    rcases b2.chain c2 with g | g
    · exact hne (key g b3 c3)
    · exact hne (key g c3 b3).symm
  have h:=nsub_len (a:=(s.mem p).map fun j=>s.base j) (b:=(memL s p).map Int.toNat) nd fun x hx=>by
    obtain ⟨j,hj,rfl⟩:=List.mem_map.1 hx;obtain ⟨b1,b2,b3⟩:=mem j hj;refine List.mem_map.2 ⟨(s.base j:Int),(memL_nat b1).2 (b2.trans (.one b3)),Int.toNat_natCast _⟩
  rw [List.length_map,List.length_map] at h;omega
theorem zr_len (K:Ok es s) (h9:s.n≤9):(zRings s).length≤4:=by
  have h1:=nsub_len (a:=zRings s) (b:=ringsL s) (List.Pairwise.filter _ List.nodup_range) fun p hp=>ringsL_mem.2 (zRings_mem.1 hp).1
  have:=rings_le K;omega
theorem cert_end (g:GOk size es) (hn:size=s.n) (K:Ok es s) (L:Lo s Y) (D:Bd s Y M) (hM:M≤10000000) (F:Frz s) (O:OpenAll es s s') (hp:ps.Perm (zRings s)):CertOk size es (cplL es s.n s'.mate) (ysOf s) (ps.map (grpOf s)):=by
  obtain ⟨P,C,hw⟩:=end_worth K F O
  have h9:s.n≤9:=by have:=g.1;omega
  have hodd:∀ p,IsRing s p→vcnt s p%2=1:=fun p hr=>by rw [cnt_odd P C hr.2.1 hr.2.2];omega
  have hpm:∀ p∈ps,IsRing s p∧0 < s.z p:=fun p h=>zRings_mem.1 (hp.subset h)
  have hgd:∀ i,i < ps.length→(ps.map (grpOf s)).getD i g0=grpOf s (ps.getD i 0):=fun i hi=>by simp [List.getD,hi]
  have hlen:(ps.map (grpOf s)).length=ps.length:=List.length_map _
  have hYl:(ysOf s).length=s.n:=by unfold ysOf;simp
  refine ⟨⟨⟨g,by rw [hYl,hn],by have:=zr_len K h9;rw [hlen,hp.length_eq];omega⟩,fun j hj=>?_,fun i hi=>?_,fun i hi=>?_⟩,cpl_mok g hn P,?_⟩
  · rw [hYl] at hj
    rw [ys_get hj];have h1:=L.low j hj;have h2:=L.y0;have h3:=D.y j hj;omega
  · rw [hlen] at hi
    rw [hgd i hi];obtain ⟨q1,q2⟩:=hpm _ (getD_mem (d:=0) hi)
    refine ⟨⟨⟨ring_three K q1,?_,?_,?_⟩,fun j hj=>?_⟩,fun k hk=>?_⟩
    · have h1:=memL_len (s:=s) (p:=ps.getD i 0)
      have h2:=hodd _ q1;show (memL s (ps.getD i 0)).length%2=1;omega
    · show 1≤s.z _;omega
    · show s.z _≤_
      have h1:=D.z _ q1;have h2:=L.y0;omega
    · have hj':j < (memL s (ps.getD i 0)).length:=hj
      obtain ⟨v,e,hv,_⟩:=memL_mem.1 (getD_mem (d:=0) hj')
      refine ⟨by show 0≤(memL s (ps.getD i 0)).getD j 0∧(memL s (ps.getD i 0)).getD j 0≤size - 1;rw [e];omega,fun h0=>?_⟩
      show (memL s (ps.getD i 0)).getD (j - 1) 0 < (memL s (ps.getD i 0)).getD j 0;have ha:=memL_asc (s:=s) (p:=ps.getD i 0)
      generalize memL s (ps.getD i 0)=l at hj' ha
      have:=List.pairwise_iff_getElem.1 ha (j - 1) j (by omega) hj' (by omega)
      simpa [List.getD,hj',show j - 1 < l.length by omega] using this
    · rw [hgd k (by omega)]
      generalize ps.getD k 0=a
      generalize ps.getD i 0=b
      show Nest (memL s a) (memL s b);unfold Nest
      by_cases c:∃ x∈memL s b,x∈memL s a
      · obtain ⟨x,x1,x2⟩:=c
        obtain ⟨v,rfl,hv,w1⟩:=memL_mem.1 x1;have w2:=(memL_nat hv).1 x2;rcases w1.chain w2 with w | w
        · refine .inl fun y hy=>?_
          obtain ⟨u,rfl,hu,u1⟩:=memL_mem.1 hy;exact (memL_nat hu).2 (u1.trans w)
        · refine .inr (.inr fun y hy=>?_)
          obtain ⟨u,rfl,hu,u1⟩:=memL_mem.1 hy;exact (memL_nat hu).2 (u1.trans w)
      · exact .inr (.inl fun x h1 h2=>c ⟨x,h1,h2⟩)
  · obtain ⟨i1,i2,i3⟩:=gok_int g hi
    obtain ⟨e1,e2,e3⟩:=K.ed i hi;have:=K.feas i hi;unfold slackL;rw [grAdd_perm (hp.map _),i1,i2,zr_add K e1 e2,Int.toNat_natCast,Int.toNat_natCast,ys_get e1,ys_get e2];exact this
  · rw [cpl_worth g P]
    unfold weightL;rw [sumG_perm (hp.map _),zr_weight K hodd,ys_sum,hw]
end
end Go.Proofs.Ytafhipglhnfgnaa.Ab
set_option linter.unusedSimpArgs false
set_option linter.unusedVariables false
set_option linter.unnecessarySimpa false
set_option maxHeartbeats 4000000
namespace Go.Proofs.Ytafhipglhnfgnaa.Ab
inductive Conn (R:Int→Int→Prop) (a:Int):Int→Prop
  | refl:Conn R a a
  | step {b c:Int} (h:Conn R a b) (r:R b c):Conn R a c
section
variable {R S:Int→Int→Prop} {a b c:Int}
theorem Conn.one (r:R a b):Conn R a b:=.step .refl r
theorem Conn.trans (h:Conn R a b) (k:Conn R b c):Conn R a c:=by
  induction k with
  | refl=>exact h
  | step _ r ih=>exact .step ih r
theorem Conn.symm (hs:∀ {x y},R x y→R y x) (h:Conn R a b):Conn R b a:=by
  induction h with
  | refl=>exact .refl
  | step _ r ih=>exact (Conn.one (hs r)).trans ih
theorem Conn.imp (hi:∀ {x y},R x y→S x y) (h:Conn R a b):Conn S a b:=by
  induction h with
  | refl=>exact .refl
  | step _ r ih=>exact .step ih (hi r)
theorem Conn.ends (h:Conn R a b) (hr:∀ {x y},R x y→S x y):a=b∨∃ x y,S a x∧S y b:=by
  induction h with
  | refl=>exact .inl rfl
  | step h r ih =>
    rcases ih with rfl | ⟨x,y,h1,_⟩
    · exact .inr ⟨_,_,hr r,hr r⟩
    · exact .inr ⟨x,_,h1,hr r⟩
end
def Adj (es:List E) (out:List Int) (a b:Int):Prop:=(∃ e∈es,Join a b e)∧¬ a∈out∧¬ b∈out
theorem Adj.symm {es:List E} {out:List Int} {a b:Int} (h:Adj es out a b):Adj es out b a:=by
  obtain ⟨⟨e,he,hj⟩,h1,h2⟩:=h;exact ⟨⟨e,he,Or.symm hj⟩,h2,h1⟩
abbrev Cn (es:List E) (out:List Int) (a b:Int):Prop:=Conn (Adj es out) a b
theorem Cn.symm {es:List E} {out:List Int} {a b:Int} (h:Cn es out a b):Cn es out b a:=Conn.symm Adj.symm h
end Go.Proofs.Ytafhipglhnfgnaa.Ab
set_option linter.unusedSimpArgs false
set_option linter.unusedVariables false
set_option linter.unnecessarySimpa false
set_option maxHeartbeats 4000000
namespace Go.Proofs.Ytafhipglhnfgnaa.Ab
theorem nodup_len:∀ {n:Nat} {l:List Int},l.Nodup→(∀ x∈l,0≤x∧x < n)→l.length≤n
  | 0,[],_,_=>Nat.le_refl _
  | 0,a::l,_,h=>by have:=h a List.mem_cons_self;omega
  | n+1,l,hn,h=>by
    by_cases hm:(n:Int)∈l
    · have h1:=List.length_erase_of_mem hm
      have h2:=nodup_len (n:=n) (hn.erase (n:Int)) fun x hx=>by
        obtain ⟨h3,h4⟩:=(hn.mem_erase_iff).1 hx;have:=h x h4;omega
      omega
    · have:=nodup_len (n:=n) hn fun x hx=>by
        have h3:=h x hx
        have:x≠n:=fun e=>hm (e ▸ hx)
        omega
      omega
structure Bfs (es:List E) (out:List Int) (n:Nat) (v:Int) (i:Nat) (L:List Int):Prop where
  nodup:L.Nodup
  top:v∈L
  all:∀ x∈L,(0≤x∧x < n)∧¬ x∈out∧Cn es out v x
  near:∀ j,j < i→∀ w,Adj es out (L.getD j 0) w→w∈L
theorem Bfs.len {es:List E} {out:List Int} {n:Nat} {v:Int} {i:Nat} {L:List Int} (b:Bfs es out n v i L):L.length≤n:=nodup_len b.nodup fun x hx=>(b.all x hx).1
end Go.Proofs.Ytafhipglhnfgnaa.Ab
set_option linter.unusedSimpArgs false
set_option linter.unusedVariables false
set_option linter.unnecessarySimpa false
set_option maxHeartbeats 4000000
namespace Go.Proofs.Ytafhipglhnfgnaa.Ab
open Go.RowKit
def Apart (e f:E):Prop:=e.a≠f.a∧e.a≠f.b∧e.b≠f.a∧e.b≠f.b
theorem Apart.symm {e f:E} (h:Apart e f):Apart f e:=⟨fun x=>h.1 x.symm,fun x=>h.2.2.1 x.symm,fun x=>h.2.1 x.symm,fun x=>h.2.2.2 x.symm⟩
def Mt (es:List E) (P:Int→Prop) (l:List E):Prop:=(∀ e∈l,e∈es∧P e.a∧P e.b)∧l.Pairwise Apart
def Most (es:List E) (P:Int→Prop) (w:Nat):Prop:=(∃ l,Mt es P l∧l.length=w)∧∀ l,Mt es P l→l.length≤w
theorem Most.eq {es:List E} {P:Int→Prop} {w w':Nat} (h:Most es P w) (h':Most es P w'):w=w':=by
  obtain ⟨⟨l,a,b⟩,c⟩:=h;obtain ⟨⟨l',a',b'⟩,c'⟩:=h';have:=c l' a';have:=c' l a;omega
theorem Mt.imp {es fs:List E} {P Q:Int→Prop} {l:List E} (h:Mt es P l) (hi:∀ e∈es,P e.a→P e.b→e∈fs∧Q e.a∧Q e.b):Mt fs Q l :=
  ⟨fun e he=>hi e (h.1 e he).1 (h.1 e he).2.1 (h.1 e he).2.2,h.2⟩
theorem Most.congr {es fs:List E} {P Q:Int→Prop} {w:Nat} (h:Most es P w) (h1:∀ e∈es,P e.a→P e.b→e∈fs∧Q e.a∧Q e.b) (h2:∀ e∈fs,Q e.a→Q e.b→e∈es∧P e.a∧P e.b):Most fs Q w:=by
  obtain ⟨⟨l,a,b⟩,c⟩:=h
  exact ⟨⟨l,a.imp h1,b⟩,fun l hl=>c l (hl.imp h2)⟩
theorem mt_nil {es:List E} {P:Int→Prop}:Mt es P []:=⟨fun _ h=>absurd h List.not_mem_nil,List.Pairwise.nil⟩
theorem mt_cons {es:List E} {P:Int→Prop} {e:E} {l:List E} (he:e∈es) (ha:P e.a) (hb:P e.b) (h:Mt es (fun v=>P v∧v≠e.a∧v≠e.b) l):Mt es P (e::l):=by
  refine ⟨fun f hf=>?_,?_⟩
  · cases List.mem_cons.1 hf with
    | inl q=>exact q ▸ ⟨he,ha,hb⟩
    | inr q=>exact ⟨(h.1 f q).1,(h.1 f q).2.1.1,(h.1 f q).2.2.1⟩
  · refine List.pairwise_cons.2 ⟨fun f hf=>?_,h.2⟩
    have:=h.1 f hf
    exact ⟨fun x=>this.2.1.2.1 x.symm,fun x=>this.2.2.2.1 x.symm,fun x=>this.2.1.2.2 x.symm,fun x=>this.2.2.2.2 x.symm⟩
def mm:List E→List Int→Nat
  | [],_=>0
  | e::es,u=>if e.a∈u∨e.b∈u then mm es u else max (mm es u) (mm es (e.a::e.b::u)+1)
def Fr (k:Int) (u:List Int) (v:Int):Prop:=k≤v∧¬ v∈u
end Go.Proofs.Ytafhipglhnfgnaa.Ab
set_option linter.unusedSimpArgs false
set_option linter.unusedVariables false
set_option linter.unnecessarySimpa false
set_option maxHeartbeats 4000000
namespace Go.Proofs.Ytafhipglhnfgnaa.Ab
open Go.RowKit
structure S3 where
  x:Int
  y:Int
  z:Int
theorem S3.ext' {a b:S3} (h1:a.x=b.x) (h2:a.y=b.y) (h3:a.z=b.z):a=b:=by cases a;cases b;simp only at h1 h2 h3;rw [h1,h2,h3]
def S3.add (a b:S3):S3:=⟨a.x+b.x,a.y+b.y,a.z+b.z⟩
def s0:S3:=⟨0,0,0⟩
def bet (a b:S3):Prop:=b.x < a.x∨a.x=b.x∧(b.y < a.y∨a.y=b.y∧b.z < a.z)
instance (a b:S3):Decidable (bet a b):=by unfold bet;exact inferInstance
def upS (a b:S3):S3:=if bet b a then b else a
def wS (e:E):S3:=⟨e.w1,e.w2,e.w3⟩
def sumS:List E→S3
  | []=>s0
  | e::l=>(wS e).add (sumS l)
theorem bet_eq {a b:S3} (h1:¬ bet a b) (h2:¬ bet b a):a=b:=by
  unfold bet at h1 h2
  exact S3.ext' (by omega) (by omega) (by omega)
theorem bet_tr {a b c:S3} (h1:¬ bet a b) (h2:¬ bet b c):¬ bet a c:=by
  unfold bet at *;omega
theorem bet_add {a b c:S3}:bet (c.add a) (c.add b)↔bet a b:=by
  unfold bet S3.add;simp only
  constructor<;>intro h<;>omega
theorem bet_irr {a:S3}:¬ bet a a:=by unfold bet;omega
theorem up_l {a b:S3}:¬ bet a (upS a b):=by
  unfold upS
  by_cases h:bet b a
  · rw [if_pos h];unfold bet at *;omega
  · rw [if_neg h];exact bet_irr
theorem up_r {a b:S3}:¬ bet b (upS a b):=by
  unfold upS
  by_cases h:bet b a
  · rw [if_pos h];exact bet_irr
  · rw [if_neg h];exact h
theorem up_or {a b:S3}:upS a b=a∨upS a b=b:=by
  unfold upS
  by_cases h:bet b a
  · rw [if_pos h];exact .inr rfl
  · rw [if_neg h];exact .inl rfl
theorem add0 {a:S3}:S3.add s0 a=a:=S3.ext' (by simp [S3.add,s0]) (by simp [S3.add,s0]) (by simp [S3.add,s0])
theorem add_as {a b c:S3}:(a.add b).add c=a.add (b.add c):=S3.ext' (Int.add_assoc _ _ _) (Int.add_assoc _ _ _) (Int.add_assoc _ _ _)
theorem add_lc {a b c:S3}:a.add (b.add c)=b.add (a.add c):=by
  apply S3.ext'<;>simp only [S3.add]<;>omega
theorem up_up {best s b w c:S3}:upS (upS best (s.add b)) ((s.add w).add c)=upS best (s.add (upS b (w.add c))):=by
  have e:(s.add w).add c=s.add (w.add c):=add_as;rw [e];obtain ⟨d,hd⟩:∃ d,d=w.add c:=⟨_,rfl⟩;rw [← hd];unfold upS
  by_cases h1:bet (s.add b) best
  · rw [if_pos h1]
    by_cases h2:bet d b
    · rw [if_pos h2,if_pos (bet_add.2 h2),if_pos (by have:=(bet_add (c:=s)).2 h2;unfold bet at *;omega)]
    · rw [if_neg h2,if_neg (fun k=>h2 (bet_add.1 k)),if_pos h1]
  · rw [if_neg h1]
    by_cases h2:bet d b
    · rw [if_pos h2]
    · rw [if_neg h2,if_neg h1,if_neg (fun k=>h2 ?_)]
      have:bet (s.add d) (s.add b):=by unfold bet at *;omega
      exact bet_add.1 this
def Best (es:List E) (P:Int→Prop) (w:S3):Prop:=(∃ l,Mt es P l∧sumS l=w)∧∀ l,Mt es P l→¬ bet (sumS l) w
theorem Best.eq {es:List E} {P:Int→Prop} {w w':S3} (h:Best es P w) (h':Best es P w'):w=w':=by
  obtain ⟨⟨l,a,b⟩,c⟩:=h;obtain ⟨⟨l',a',b'⟩,c'⟩:=h';have h1:=c l' a';have h2:=c' l a;rw [b'] at h1;rw [b] at h2;exact bet_eq h2 h1
theorem Best.congr {es fs:List E} {P Q:Int→Prop} {w:S3} (h:Best es P w) (h1:∀ e∈es,P e.a→P e.b→e∈fs∧Q e.a∧Q e.b) (h2:∀ e∈fs,Q e.a→Q e.b→e∈es∧P e.a∧P e.b):Best fs Q w:=by
  obtain ⟨⟨l,a,b⟩,c⟩:=h
  exact ⟨⟨l,a.imp h1,b⟩,fun l hl=>c l (hl.imp h2)⟩
theorem best_none {es:List E} {P:Int→Prop} (h:∀ e∈es,¬ (P e.a∧P e.b)):Best es P s0:=by
  refine ⟨⟨[],mt_nil,rfl⟩,fun l hl=>?_⟩
  cases l with
  | nil=>exact bet_irr
  | cons e l=>exact absurd (hl.1 e List.mem_cons_self).2 (h e (hl.1 e List.mem_cons_self).1)
theorem sumS_mid {e:E}:∀ {s t:List E},sumS (s++e::t)=(wS e).add (sumS (s++t))
  | [],t=>rfl
  | f::s,t=>by
    show (wS f).add (sumS (s++e::t))=(wS e).add ((wS f).add (sumS (s++t)));rw [sumS_mid,add_lc]
theorem mt_splitS {es:List E} {P:Int→Prop} {e:E} {l:List E} (h:Mt es P l) (he:e∈l):∃ m,Mt es (fun v=>P v∧v≠e.a∧v≠e.b) m∧sumS l=(wS e).add (sumS m)∧∀ f∈m,f≠e∧f∈l:=by
  obtain ⟨s,t,rfl⟩:=List.append_of_mem he;have hp:=List.pairwise_append.1 h.2;have ht:=List.pairwise_cons.1 hp.2.1
  have key:∀ f∈s++t,Apart e f:=fun f hf=>by
    cases List.mem_append.1 hf with
    | inl q=>exact (hp.2.2 f q e List.mem_cons_self).symm
    | inr q=>exact ht.1 f q
  have sub:∀ f∈s++t,f∈s++e::t:=fun f hf=>by
    cases List.mem_append.1 hf with
    | inl q=>exact List.mem_append_left _ q
    | inr q=>exact List.mem_append_right _ (List.mem_cons_of_mem _ q)
  refine ⟨s++t,⟨fun f hf=>?_,?_⟩,sumS_mid,fun f hf=>⟨fun q=>(key f hf).1 (by rw [q]),sub f hf⟩⟩
  · have a:=h.1 f (sub f hf)
    have k:=key f hf
    exact ⟨a.1,⟨a.2.1,fun x=>k.1 x.symm,fun x=>k.2.2.1 x.symm⟩,⟨a.2.2,fun x=>k.2.1 x.symm,fun x=>k.2.2.2 x.symm⟩⟩
  · exact List.pairwise_append.2 ⟨hp.1,ht.2,fun a ha b hb=>hp.2.2 a ha b (List.mem_cons_of_mem _ hb)⟩
def bsF:List E→List Int→S3→S3→S3
  | [],_,s,best=>upS best s
  | e::es,u,s,best=>if e.a∈u∨e.b∈u then bsF es u s best else bsF es (e.a::e.b::u) (s.add (wS e)) (bsF es u s best)
theorem bsF_best:∀ (es:List E) (u:List Int),∃ b,Best es (fun v=>¬ v∈u) b∧∀ s best,bsF es u s best=upS best (s.add b)
  | [],u=>⟨s0,best_none fun _ h=>absurd h List.not_mem_nil,fun s best=>by
      have:s.add s0=s:=S3.ext' (by simp [S3.add,s0]) (by simp [S3.add,s0]) (by simp [S3.add,s0])
      rw [this];rfl⟩
  | e::es,u=>by
    obtain ⟨b0,h0,f0⟩:=bsF_best es u
    by_cases hu:e.a∈u∨e.b∈u
    · refine ⟨b0,h0.congr (fun f hf a b=>⟨List.mem_cons_of_mem _ hf,a,b⟩) fun f hf a b=>?_,fun s best=>?_⟩
      · cases List.mem_cons.1 hf with
        | inl q=>subst q;exact (hu.elim a b).elim
        | inr q=>exact ⟨q,a,b⟩
      · unfold bsF
        rw [if_pos hu,f0]
    obtain ⟨b1,h1,f1⟩:=bsF_best es (e.a::e.b::u)
    have hm:∀ v:Int,¬ v∈e.a::e.b::u↔(¬ v∈u∧v≠e.a∧v≠e.b):=fun v=>by
      simp only [List.mem_cons,not_or]
      exact ⟨fun h=>⟨h.2.2,h.1,h.2.1⟩,fun h=>⟨h.2.1,h.2.2,h.1⟩⟩
    refine ⟨upS b0 ((wS e).add b1),⟨?_,fun l hl=>?_⟩,fun s best=>?_⟩
    · rcases up_or (a:=b0) (b:=(wS e).add b1) with q | q
      · obtain ⟨⟨l,a,b⟩,_⟩:=h0
        rw [q]
        exact ⟨l,a.imp fun f hf p q=>⟨List.mem_cons_of_mem _ hf,p,q⟩,b⟩
      · obtain ⟨⟨l,a,b⟩,_⟩:=h1
        rw [q]
        refine ⟨e::l,mt_cons List.mem_cons_self (fun x=>hu (.inl x)) (fun x=>hu (.inr x)) (a.imp fun f hf p q=>⟨List.mem_cons_of_mem _ hf,(hm _).1 p,(hm _).1 q⟩),?_⟩
        unfold sumS;rw [b]
    · by_cases he:e∈l
      · obtain ⟨m,a,b,c⟩:=mt_splitS hl he
        have:=h1.2 m ⟨fun f hf=>by
          have q:=a.1 f hf;refine ⟨?_,(hm _).2 q.2.1,(hm _).2 q.2.2⟩
          cases List.mem_cons.1 q.1 with
          | inl x=>exact absurd x (c f hf).1
          | inr x=>exact x,a.2⟩
        rw [b]
        exact bet_tr (fun k=>this (bet_add.1 k)) up_r
      · have:=h0.2 l ⟨fun f hf=>by
          have q:=hl.1 f hf;refine ⟨?_,q.2⟩
          cases List.mem_cons.1 q.1 with
          | inl x=>exact absurd (x ▸ hf) he
          | inr x=>exact x,hl.2⟩
        exact bet_tr this up_l
    · show (if e.a∈u∨e.b∈u then _ else _)=_
      rw [if_neg hu,f0,f1,up_up]
theorem bsF_all {es:List E} {w:S3} (h:Best es (fun v=>¬ v∈([]:List Int)) w):bsF es [] s0 s0=w:=by
  obtain ⟨b,h1,h2⟩:=bsF_best es [];rw [h2,add0,h1.eq h];have:=h.2 [] mt_nil;unfold upS
  by_cases k:bet w s0
  · rw [if_pos k]
  · rw [if_neg k];exact bet_eq this k
def BestTo (es:List E) (k:Int) (u:List Int) (B:Int) (w:S3):Prop :=
  (∃ l,Mt es (Fr k u) l∧sumS l=w)∧∀ l,Mt es (Fr k u) l→(∀ e∈l,e.a=k→e.b < B)→¬ bet (sumS l) w
theorem best_skip {es:List E} {k:Int} {u:List Int} {w:S3} (hk:k∈u) (h:Best es (Fr (k+1) u) w):Best es (Fr k u) w :=
  h.congr (fun e he a b=>⟨he,⟨by have:=a.1;omega,a.2⟩,⟨by have:=b.1;omega,b.2⟩⟩) fun e he a b=>by
    have h1:e.a≠k:=fun x=>a.2 (x ▸ hk)
    have h2:e.b≠k:=fun x=>b.2 (x ▸ hk)
    have:=a.1;have:=b.1
    exact ⟨he,⟨by omega,a.2⟩,⟨by omega,b.2⟩⟩
theorem best_skips {es:List E} {k:Int} {u:List Int} {w:S3}:∀ (d:Nat),(∀ j:Int,k≤j→j < k+d→j∈u)→Best es (Fr (k+d) u) w→Best es (Fr k u) w
  | 0,_,h=>by simpa using h
  | d+1,hu,h=>by
    refine best_skips d (fun j a b=>hu j a (by omega)) (best_skip (hu _ (by omega) (by omega)) ?_)
    have:k+(d:Int)+1=k+((d+1:Nat):Int):=by omega
    rw [this];exact h
theorem best_end {es:List E} {n k:Int} {u:List Int} (hE:∀ e∈es,EOk n e) (hk:n≤k):Best es (Fr k u) s0 :=
  best_none fun e he h=>by
    have:=hE e he;unfold EOk at this;have:=h.1.1;omega
theorem bestTo_start {es:List E} {n k:Int} {u:List Int} {w:S3} (hE:∀ e∈es,EOk n e) (h:Best es (Fr (k+1) u) w):BestTo es k u (k+1) w:=by
  obtain ⟨⟨l,a,b⟩,c⟩:=h
  refine ⟨⟨l,a.imp fun e he p q=>⟨he,⟨by have:=p.1;omega,p.2⟩,⟨by have:=q.1;omega,q.2⟩⟩,b⟩,fun l hl hb=>c l ⟨fun e he=>?_,hl.2⟩⟩
  obtain ⟨q1,q2,q3⟩:=hl.1 e he;have g:=hE e q1;unfold EOk at g
  have h1:e.a≠k:=fun x=>by have:=hb e he x;omega
  have:=q2.1;have:=q3.1
  exact ⟨q1,⟨by omega,q2.2⟩,⟨by omega,q3.2⟩⟩
theorem bestTo_end {es:List E} {n k:Int} {u:List Int} {w:S3} (hE:∀ e∈es,EOk n e) (h:BestTo es k u n w):Best es (Fr k u) w :=
  ⟨h.1,fun l hl=>h.2 l hl fun e he _=>by have:=hE e (hl.1 e he).1;unfold EOk at this;omega⟩
theorem bestTo_no {es:List E} {n k b:Int} {u:List Int} {w:S3} (hE:∀ e∈es,EOk n e) (h:BestTo es k u b w) (hn:edgeIx es k b < 0∨b∈u):BestTo es k u (b+1) w:=by
  refine ⟨h.1,fun l hl hb=>h.2 l hl fun e he hk=>?_⟩
  have h1:=hb e he hk
  have h2:e.b≠b:=fun x=>by
    obtain ⟨q1,q2,q3⟩:=hl.1 e he;rcases hn with hn | hn
    · rcases firstIx_cases (p:=Join k b) e0 es with ⟨c1,c2⟩ | ⟨i,c1,_⟩
      · obtain ⟨i,hi,rfl⟩:=mem_getD (d:=e0) q1
        exact c2 i hi (.inl ⟨hk,x⟩)
      · unfold edgeIx at hn;omega
    · exact q3.2 (x ▸ hn)
  omega
theorem bestTo_yes {es:List E} {n k b:Int} {u:List Int} {w w':S3} {i:Nat} (hE:∀ e∈es,EOk n e) (h1:∀ e∈es,∀ f∈es,e.a=f.a→e.b=f.b→e=f) (h:BestTo es k u b w) (hk:¬ k∈u) (hb:k < b) (hi:edgeIx es k b=(i:Int)) (hi1:i < es.length) (hu:¬ b∈u) (h':Best es (Fr (k+1) (u++[b])) w'):BestTo es k u (b+1) (upS w ((wS (es.getD i e0)).add w')):=by
  have hm:∀ v:Int,Fr (k+1) (u++[b]) v↔(Fr k u v∧v≠k∧v≠b):=fun v=>by
    unfold Fr;simp only [List.mem_append,List.mem_singleton,not_or]
    exact ⟨fun ⟨a,c,d⟩=>⟨⟨by omega,c⟩,by omega,d⟩,fun ⟨⟨a,c⟩,d,e⟩=>⟨by omega,c,e⟩⟩
  have hmem:=getD_mem (d:=e0) hi1
  have hab:(es.getD i e0).a=k∧(es.getD i e0).b=b:=by
    rcases firstIx_cases (p:=Join k b) e0 es with ⟨c1,_⟩ | ⟨j,c1,c2,c3,_⟩
    · unfold edgeIx at hi;omega
    · unfold edgeIx at hi
      have:j=i:=by omega
      subst this;have g:=hE _ hmem;unfold EOk at g
      exact c3.elim id fun q=>by omega
  refine ⟨?_,fun l hl hc=>?_⟩
  · rcases up_or (a:=w) (b:=(wS (es.getD i e0)).add w') with q | q
    · rw [q];exact h.1
    · rw [q]
      obtain ⟨⟨l,q1,q2⟩,_⟩:=h'
      refine ⟨es.getD i e0::l,mt_cons hmem ?_ ?_ (q1.imp fun f hf p q=>⟨hf,?_,?_⟩),?_⟩
      · rw [hab.1];exact ⟨by omega,hk⟩
      · rw [hab.2];exact ⟨by omega,hu⟩
      · rw [hab.1,hab.2];exact (hm _).1 p
      · rw [hab.1,hab.2];exact (hm _).1 q
      · unfold sumS;rw [q2]
  · by_cases hx:∃ e∈l,e.a=k∧e.b=b
    · obtain ⟨e,he,e1,e2⟩:=hx
      obtain ⟨m,q1,q2,_⟩:=mt_splitS hl he
      have hee:e=es.getD i e0:=h1 e (hl.1 e he).1 _ hmem (by rw [e1,hab.1]) (by rw [e2,hab.2])
      have:=h'.2 m (q1.imp fun f hf p q=>⟨hf,(hm _).2 (by rw [e1,e2] at p;exact p),(hm _).2 (by rw [e1,e2] at q;exact q)⟩)
      rw [q2,hee]
      exact bet_tr (fun k=>this (bet_add.1 k)) up_r
    · refine bet_tr (h.2 l hl fun e he hk'=>?_) up_l
      have:=hc e he hk'
      have:e.b≠b:=fun q=>hx ⟨e,he,hk',q⟩
      omega
theorem best_first {es:List E} {n:Int} {w:S3} (hE:∀ e∈es,EOk n e) (h:Best es (Fr 0 []) w):Best es (fun v=>¬ v∈([]:List Int)) w :=
  h.congr (fun e he a b=>⟨he,a.2,b.2⟩) fun e he a b=>by
    have g:=hE e he;unfold EOk at g
    exact ⟨he,⟨by omega,a⟩,⟨by omega,b⟩⟩
end Go.Proofs.Ytafhipglhnfgnaa.Ab
