/- Joined: Op, Op3, K116, K121, K31, K71, K69, LFnProves. No conditions. -/
import Derived.Test.YtafhipglhnfgnaaM4
import Derived.ChangeArms
import Derived.Deep.Slices
import Derived.Test.YtafhipglhnfgnaaFT
import Derived.OpenShut
import Derived.Below
import Derived.Carry
import Derived.ChangeShapes
import Derived.WideShapes
import Derived.Test.YtafhipglhnfgnaaM11
import Derived.Test.YtafhipglhnfgnaaM19
import Derived.Test.YtafhipglhnfgnaaM14
import Derived.Test.YtafhipglhnfgnaaM18
set_option linter.unusedSimpArgs false
set_option linter.unusedVariables false
set_option linter.unnecessarySimpa false
set_option maxHeartbeats 4000000
/- Arguments: what a reading of numbers, texts, bools, structs and slices of them tells, as an abstract memory of which nothing is one's own. No conditions. -/
namespace Go.Proofs.Ytafhipglhnfgnaa.Ab
open Go.RowKit
inductive CK where
  | int (k:IntKind)
  | bool
  | str
  | sl (e:List CK)
inductive Shape (h:Heap):CK→Value→Prop
  | int (k:IntKind) (n:Int) (hw:(Lit.int k n).wf=true):Shape h (.int k) (.int k n)
  | bool (b:Bool):Shape h .bool (.bool b)
  | str (s:ByteArray) (hs:s.size≤maxLen):Shape h .str (.string s)
  | sl (e:List CK) (v:Value) (rows:List (List Value)) (hr:Rows h e.length v rows) (hm:rows.length≤maxLen)
      (hk:∀ r∈rows,∀ (i:Nat) (k:CK) (x:Value),e[i]?=some k→r[i]?=some x→Shape h k x):Shape h (.sl e) v
theorem Shape.up {h h':Heap} (hp:h <+: h') {k:CK} {v:Value} (s:Shape h k v):Shape h' k v:=by
  induction s with
  | int k n hw=>exact .int k n hw
  | bool b=>exact .bool b
  | str s hs=>exact .str s hs
  | sl e v rows hr hm hk ih=>exact .sl e v rows (hr.up hp) hm ih
def fieldsK (P:Program) (g:TypeId→Option (List CK)):Nat→List Field→Option (List CK)
  | _,[]=>some []
  | off,f::fs=>match g f.type with
    | some ks=>if f.offset=off∧ks.length=P.cellsOf f.type then (fieldsK P g (off+ks.length) fs).map (ks++·) else none
    | none=>none
def kindsOf (P:Program):Nat→TypeId→Option (List CK)
  | 0,_=>none
  | n+1,t=>match P.underlying t with
    | some (.int k)=>some [.int k]
    | some .bool=>some [.bool]
    | some .string=>some [.str]
    | some (.slice e)=>match kindsOf P n e with
      | some ks=>if ks.length=P.cellsOf e∧0 < ks.length then some [.sl ks] else none
      | none=>none
    | some (.struct fs)=>match fieldsK P (kindsOf P n) 0 fs.toList with
      | some ks=>if ks.length=P.cellsOf t then some ks else none
      | none=>none
    | _=>none
def NoOwn (h:Heap):Prop:=∀ (b:Nat) (blk:Blk),h[b]?=some blk→blk.own=false
theorem HRel.show {μ : Map} {h : Heap} {w : World} (k : HRel μ h w) (hn : NoOwn h) {blk : Blk} (ho : blk.own = false) (hp : 0 < blk.sz) {l : Loc} (hl : l.g < w.heap.size)
    (hc:∀ (i:Nat) (v:Value),blk.cells[i]?=some v→∃ v',w.cell? ⟨l.g,l.o+i,none⟩=some v'∧VR1 μ h v v') :
    HRel (μ.to h.length l) (h++[blk]) w∧Up μ h (μ.to h.length l) (h++[blk])∧NoOwn (h++[blk]):=by
  have up:=Up.push μ h l blk
  have no:NoOwn (h++[blk]):=fun b b' hb=>by
    rcases push_get hb with ⟨_,rfl⟩ | ⟨_,hb⟩
    · exact ho
    · exact hn _ _ hb
  refine ⟨⟨fun b' blk' hb' i v hv=>?_,fun b' blk' hb'=>?_,fun b' blk' hb'=>?_,fun b' blk' hb' ho'=>?_,fun b1 b2 blk1 blk2 h1 h2 h3 h4=>?_⟩,up,no⟩
  · rcases push_get hb' with ⟨rfl,rfl⟩ | ⟨hlt,hb'⟩
    · obtain ⟨v',h1,h2⟩:=hc i v hv
      exact ⟨v',by rw [Map.to_same];exact h1,h2.up up⟩
    · obtain ⟨v',h1,h2⟩:=k.cell b' blk' hb' i v hv
      exact ⟨v',by rw [Map.to_ne _ _ (by omega)];exact h1,h2.up up⟩
  · rcases push_get hb' with ⟨rfl,rfl⟩ | ⟨hlt,hb'⟩
    · exact hp
    · exact k.pos _ _ hb'
  · rcases push_get hb' with ⟨rfl,rfl⟩ | ⟨hlt,hb'⟩
    · rw [Map.to_same];exact hl
    · rw [Map.to_ne _ _ (by omega)];exact k.lt _ _ hb'
  · rw [no _ _ hb'] at ho';cases ho'
  · rw [no _ _ h1] at h3;cases h3
def Opens (w:World) (ks:List CK) (cs:List Value):Prop:=∀ (h:Heap) (μ:Map),HRel μ h w→NoOwn h→∃ h' μ' acs,h <+: h'∧Up μ h μ' h'∧HRel μ' h' w∧NoOwn h'∧All2 (VR0 μ' h') acs cs∧All2 (Shape h') ks acs
theorem Opens.nil {w:World}:Opens w [] []:=fun h μ H N=>⟨h,μ,[],List.prefix_refl _,Up.refl _ _,H,N,All2.nil,All2.nil⟩
theorem Opens.append {w:World} {ks1 ks2:List CK} {cs1 cs2:List Value} (o1:Opens w ks1 cs1) (o2:Opens w ks2 cs2):Opens w (ks1++ks2) (cs1++cs2):=by
  intro h μ H N;obtain ⟨h1,μ1,a1,p1,u1,H1,N1,v1,s1⟩:=o1 h μ H N;obtain ⟨h2,μ2,a2,p2,u2,H2,N2,v2,s2⟩:=o2 h1 μ1 H1 N1
  exact ⟨h2,μ2,a1++a2,p1.trans p2,u1.trans u2,H2,N2,(v1.imp fun _ _ k=>k.up u2).append v2,(s1.imp fun _ _ k=>k.up p2).append s2⟩
theorem Opens.one {w:World} {k:CK} {v:Value} (hp:prim v=true) (hs:∀ h,Shape h k v):Opens w [k] [v]:=fun h μ H N =>
  ⟨h,μ,[v],List.prefix_refl _,Up.refl _ _,H,N,All2.cons (.prim _ hp) All2.nil,All2.cons (hs h) All2.nil⟩
theorem opens_fields {P : Program} {w : World} {g : TypeId → Option (List CK)} {cs : List Value} : ∀ (fs : List Field) (off : Nat) (ks : List CK), fieldsK P g off fs = some ks → off + ks.length ≤ cs.length →
    (∀ f∈fs,∀ k,g f.type=some k→Opens w k ((cs.drop f.offset).take (P.cellsOf f.type)))→Opens w ks ((cs.drop off).take ks.length)
  | [],off,ks,h,_,_=>by simp [fieldsK] at h;subst h;simpa using Opens.nil
  | f::fs,off,ks,h,hl,ho=>by
    simp only [fieldsK] at h;split at h
    · rename_i k hk
      split at h
      · rename_i hc
        obtain ⟨h1,h2⟩:=hc;simp only [Option.map_eq_some_iff] at h;obtain ⟨ks',h3,rfl⟩:=h;simp only [List.length_append] at hl;have o1:=ho f List.mem_cons_self k hk;rw [h1,← h2] at o1
        have o2:=opens_fields fs (off+k.length) ks' h3 (by omega) fun f hf=>ho f (List.mem_cons_of_mem _ hf)
        have e:(cs.drop off).take (k++ks').length=(cs.drop off).take k.length++(cs.drop (off+k.length)).take ks'.length:=by
          rw [List.length_append,List.take_add,List.drop_drop]
        rw [e];exact o1.append o2
      · cases h
    · cases h
theorem add_block (a:Addr) (n:Nat):(a.add n).block=a.block:=by unfold Addr.add;split<;>rfl
theorem opens_rows {w : World} {a : Addr} {e : List CK} {n : Nat} (hr : ∀ i, i < n → ∃ cs, cs.length = e.length ∧ (∀ j, j < e.length → w.cell? (a.add (i * e.length + j)) = cs[j]?) ∧ Opens w e cs) :
    ∀ (h:Heap) (μ:Map),HRel μ h w→NoOwn h→∃ (h':Heap) (μ':Map) (rows:List (List Value)) (flat:List Value),h <+: h'∧Up μ h μ' h'∧HRel μ' h' w∧NoOwn h'∧rows.length=n∧(∀ r∈rows,All2 (Shape h') e r)∧All2 (VR0 μ' h') rows.flatten flat∧flat.length=n*e.length∧∀ q,q < n*e.length→w.cell? (a.add q)=flat[q]?:=by
  induction n with
  | zero=>exact fun h μ H N=>⟨h,μ,[],[],List.prefix_refl _,Up.refl _ _,H,N,rfl,fun _ h=>(by cases h),All2.nil,by simp,fun q hq=>by omega⟩
  | succ n ih =>
    intro h μ H N
    obtain ⟨h1,μ1,rows,flat,p1,u1,H1,N1,l1,s1,v1,f1,g1⟩:=ih (fun i hi=>hr i (by omega)) h μ H N
    obtain ⟨cs,c1,c2,c3⟩:=hr n (by omega)
    obtain ⟨h2,μ2,acs,p2,u2,H2,N2,v2,s2⟩:=c3 h1 μ1 H1 N1
    refine ⟨h2,μ2,rows++[acs],flat++cs,p1.trans p2,u1.trans u2,H2,N2,by simp [l1],fun r hr=>?_,?_,?_,fun q hq=>?_⟩
    · rcases List.mem_append.1 hr with hr | hr
      · exact (s1 r hr).imp fun _ _ k=>k.up p2
      · rw [List.mem_singleton.1 hr];exact s2
    · rw [List.flatten_append]
      simpa using (v1.imp fun _ _ k=>k.up u2).append v2
    · rw [List.length_append,f1,c1,Nat.add_mul,Nat.one_mul]
    · rw [Nat.add_mul,Nat.one_mul] at hq
      by_cases hlt:q < n*e.length
      · rw [g1 q hlt,List.getElem?_append_left (by omega)]
      · have:=c2 (q - n*e.length) (by omega)
        rw [show n*e.length+(q - n*e.length)=q by omega] at this
        rw [this,List.getElem?_append_right (by omega),f1]
theorem mem_index {fs:List Field} {f:Field} (h:f∈fs):∃ i:Nat,fs[i]?=some f:=by
  obtain ⟨i,hi,e⟩:=List.mem_iff_getElem.1 h
  exact ⟨i,by rw [List.getElem?_eq_getElem hi,e]⟩
theorem row_of_flat {rows:List (List Value)} {sz:Nat} (hl:∀ r∈rows,r.length=sz) {flat:List Value} {μ:Map} {h:Heap} (v:All2 (VR0 μ h) rows.flatten flat) {q:Nat} {x:Value} (hx:rows.flatten[q]?=some x):∃ y,flat[q]?=some y∧VR1 μ h x y:=by
  obtain ⟨y,hy,k⟩:=v.get hx;exact ⟨y,hy,.base _ _ k⟩
theorem opens_kinds {H : Type} {enc : TypeId × Value → H} {P : Program} {w : World} {spare : Nat → Bool} {held : Bool} (hsp : ∀ b, spare b = true) : ∀ (n : Nat) (t : TypeId) (ks : List CK), kindsOf P n t = some ks →
    ∀ (fuel:Nat) (cs:List Value) (x:DataW H × List MemPlace),DataW.trod enc P w 0 spare held fuel t cs=some x→Opens w ks cs
  | 0,t,ks,h=>by cases h
  | n+1,t,ks,h=>by
    intro fuel cs x hx;simp only [kindsOf] at h;split at h
    · rename_i k ht
      cases h;obtain ⟨m,rfl,_,hw⟩:=DataW.trod_int ht hx
      exact Opens.one rfl fun _=>.int k m hw
    · rename_i ht
      cases h;obtain ⟨b,rfl,_⟩:=DataW.trod_bool ht hx
      exact Opens.one rfl fun _=>.bool b
    · rename_i ht
      cases h;obtain ⟨b,rfl,_,hw⟩:=DataW.trod_string ht hx
      exact Opens.one rfl fun _=>.str b hw
    · rename_i e ht
      split at h
      · rename_i ke hke
        split at h
        · rename_i hc
          obtain ⟨hc1,hc2⟩:=hc;cases h;rcases Go.Deep.open_slice ht hx with ⟨rfl,_⟩ | ⟨a,len,cap,m,k,D,Pl,rfl,_,hlc,hcm,hm,_,hi⟩
          · exact Opens.one rfl fun _=>.sl ke _ [] Rows.nil (Nat.zero_le _) (fun _ h=>by cases h)
          · rw [hsp,if_pos rfl] at hm
            subst hm
            have hrow:∀ i,i < m→∃ cs,cs.length=ke.length∧(∀ j,j < ke.length→w.cell? (a.add (i*ke.length+j))=cs[j]?)∧Opens w ke cs:=fun i him=>by
              obtain ⟨cs',hc',ht'⟩:=hi i him;obtain ⟨_,hcl,hat⟩:=World.cells?_some hc';rw [← hc1] at hcl hat
              refine ⟨cs',hcl,fun j hj=>?_,opens_kinds hsp n e ke hke k cs' _ ht'⟩
              rw [← Go.Deep.add_add];exact hat j hj
            by_cases hz:m=0
            · subst hz
              obtain rfl:len=0:=by omega
              exact fun h μ H N=>⟨h,μ,[.slice none 0 0],List.prefix_refl _,Up.refl _ _,H,N,All2.cons (.hollow a) All2.nil,All2.cons (.sl ke _ [] Rows.nil (Nat.zero_le _) (fun _ h=>by cases h)) All2.nil⟩
            · intro h μ H N
              obtain ⟨h1,μ1,rows,flat,p1,u1,H1,N1,l1,s1,v1,f1,g1⟩:=opens_rows (n:=len) (fun i hi=>hrow i (by omega)) h μ H N
              have hsz:∀ r∈rows,r.length=ke.length:=fun r hr=>(s1 r hr).1.symm
              obtain ⟨c0,q1,q2,_⟩:=hrow 0 (by omega)
              have hcell:w.cell? a=c0[0]?:=by
                have:=q2 0 hc2;simpa [Addr.add] using this
              rw [List.getElem?_eq_getElem (by omega)] at hcell
              have hblk:∃ cur et fr,w.heap[a.block]?=some (.cells cur et fr)∧a.spot=none:=by
                unfold World.cell? at hcell;split at hcell
                · rename_i cur et fr hb
                  split at hcell
                  · cases hcell
                  · rename_i hs
                    exact ⟨cur,et,fr,hb,by simpa using hs⟩
                · cases hcell
              obtain ⟨cur,et,fr,hb,hs⟩:=hblk;have hlt:a.block < w.heap.size:=(Array.getElem?_eq_some_iff.1 hb).1
              have ha:a=⟨a.block,a.off,none⟩:=by cases a;simp_all
              have hadd:∀ q,a.add q=⟨a.block,a.off+q,none⟩:=fun q=>by
                unfold Addr.add;split
                · rename_i h0;subst h0;rw [Nat.add_zero];exact ha
                · rfl
              obtain ⟨H2,u2,N2⟩:=H1.show N1 (blk:=⟨rows.flatten,ke.length,0,false⟩) rfl hc2 (l:=⟨a.block,a.off,0⟩) hlt (fun i v hv=>by
                obtain ⟨y,hy,k⟩:=row_of_flat hsz v1 hv;refine ⟨y,?_,k⟩
                have hq:i < len*ke.length:=by
                  have:=(List.getElem?_eq_some_iff.1 hy).1;omega
                have:=g1 i hq;rw [hadd] at this;rw [this]
                exact hy)
              have hfl:rows.flatten.length=len*ke.length:=by rw [flatten_len hsz,l1]
              refine ⟨_,_,[.slice (some ⟨h1.length,0,none⟩) len len],p1.trans (List.prefix_append _ _),u1.trans u2,H2,N2,All2.cons (.sl h1.length 0 len len _ ⟨rows.flatten,ke.length,0,false⟩ (by simp) (Nat.le_refl _) (by simp only [Nat.zero_add,hfl];exact Nat.le_refl _) (fun _=>?_) rfl) All2.nil,All2.cons (.sl ke _ rows ?_ (by omega) (fun r hr i k x hk hx=>?_)) All2.nil⟩
              · refine ⟨a,m,rfl,hlc,hcm,.inr ?_,fun h=>by cases h⟩
                rw [Map.to_same];exact ha
              · refine ⟨hsz,.inr ⟨h1.length,0,len,⟨rows.flatten,ke.length,0,false⟩,by rw [l1],by simp,rfl,by simp [hfl],by omega,?_⟩⟩
                rw [l1,← hfl,List.drop_zero];exact List.take_length
              · exact ((s1 r hr).2 i k x hk hx).up (List.prefix_append _ _)
        · cases h
      · cases h
    · rename_i fs ht
      split at h
      · rename_i ks' hf
        split at h
        · rename_i hl
          cases h;obtain ⟨xs,k,_,_,hlen,hxl,hfs⟩:=DataW.trod_struct ht hx
          have:=opens_fields (w:=w) (cs:=cs) fs.toList 0 ks hf (by omega) (fun f hmem kf hkf=>by
            obtain ⟨i,hi⟩:=mem_index hmem
            have hi':fs[i]?=some f:=by simpa using hi
            have h1:=hfs i f hi'
            have hil:i < xs.length:=by rw [hxl];exact (Array.getElem?_eq_some_iff.1 hi').1
            rw [List.getElem?_eq_getElem hil] at h1
            exact opens_kinds hsp n f.type kf hkf k _ _ h1)
          rw [List.drop_zero,List.take_of_length_le (by omega)] at this
          exact this
        · cases h
      · cases h
    · cases h
end Go.Proofs.Ytafhipglhnfgnaa.Ab
/- A law's call, from the arguments as they are read to the answer. No conditions. -/
namespace Go.Proofs.Ytafhipglhnfgnaa.Ab
open Go.RowKit
def isRow (P:Program) (t:TypeId):Bool:=match P.underlying t with
  | some (.struct _)=>true
  | _=>false
def paramsK (P:Program):List TypeId→Option (List (Bool × List CK))
  | []=>some []
  | t::ts=>match kindsOf P 12 t,paramsK P ts with
    | some ks,some ps=>some ((isRow P t,ks)::ps)
    | _,_=>none
def ArgOk (h:Heap) (p:Bool × List CK) (v:Value):Prop:=∃ acs,All2 (Shape h) p.2 acs∧if p.1=true then v=.agg ⟨acs⟩ else acs=[v]
theorem ArgOk.up {h h':Heap} (hp:h <+: h') {p:Bool × List CK} {v:Value} (a:ArgOk h p v):ArgOk h' p v:=by
  obtain ⟨acs,h1,h2⟩:=a
  exact ⟨acs,h1.imp fun _ _ k=>k.up hp,h2⟩
theorem HRel.empty {μ:Map} {w:World}:HRel μ [] w:=⟨fun b _ h=>by simp at h,fun b _ h=>by simp at h,fun b _ h=>by simp at h,fun b _ h=>by simp at h,fun b _ _ _ h=>by simp at h⟩
theorem NoOwn.empty:NoOwn []:=fun b _ h=>by simp at h
section
variable {H:Type} {enc:TypeId × Value→H} {P:Program} {W:World} {base:Nat}
theorem okWide_one {t:TypeId} {v:Value} {ks:List CK} {n:Nat} (hk:kindsOf P (n+1) t=some ks) (hs:isRow P t=false) (h:Value.okWide P W .any base t v):v.cells.toList=[v]:=by
  unfold isRow at hs;simp only [kindsOf] at hk;unfold Value.okWide Cell.okWide Cell.ok at h
  cases hu:P.underlying t with
  | none=>rw [hu] at hk;cases hk
  | some d =>
    rw [hu] at hk h hs
    cases d<;>simp only [Bool.true_eq_false] at hs<;>(try (cases hk;done))<;>cases v<;>first | rfl | exact h.elim
theorem opens_args : ∀ (ts : List TypeId) (ps : List (Bool × List CK)) (vs : List Value) (ds : List (DataW H)) (pl : List MemPlace), paramsK P ts = some ps → DataW.TrodAll enc P W 0 (fun _ => true) true ts vs ds pl →
    (∀ (j:Nat) (t:TypeId) (v:Value),ts[j]?=some t→vs[j]?=some v→Value.okWide P W .any base t v) →
    ∀ (h:Heap) (μ:Map),HRel μ h W→NoOwn h→∃ (h':Heap) (μ':Map) (avs:List Value),h <+: h'∧Up μ h μ' h'∧HRel μ' h' W∧NoOwn h'∧All2 (VR μ' h') avs vs∧All2 (ArgOk h') ps avs
  | [],ps,vs,ds,pl,hp,ht,_,h,μ,R,N=>by
    simp [paramsK] at hp;subst hp;obtain ⟨rfl,_,_⟩:=Go.ChangeShapes.trodAll_nil ht;exact ⟨h,μ,[],List.prefix_refl _,Up.refl _ _,R,N,All2.nil,All2.nil⟩
  | t::ts,ps,vs,ds,pl,hp,ht,hw,h,μ,R,N=>by
    simp only [paramsK] at hp;split at hp
    · rename_i ks ps' hk hps
      cases hp;obtain ⟨v,vs',d,ds',p,q,rfl,rfl,rfl,⟨fuel,hf⟩,htr⟩:=Go.ChangeShapes.trodAll_cons ht
      obtain ⟨h1,μ1,acs,p1,u1,R1,N1,v1,s1⟩:=opens_kinds (fun _=>rfl) 12 t ks hk fuel _ _ hf h μ R N
      obtain ⟨h2,μ2,avs,p2,u2,R2,N2,v2,s2⟩:=opens_args ts ps' vs' ds' q hps htr (fun j t v h1 h2=>hw (j+1) t v (by simpa using h1) (by simpa using h2)) h1 μ1 R1 N1
      have hv:=hw 0 t v rfl rfl
      have vv:All2 (VR1 μ2 h2) acs v.cells.toList:=v1.imp fun _ _ k=>.base _ _ (k.up u2)
      cases hr:isRow P t with
      | true =>
        have hst:∃ cs:Array Value,v=.agg cs:=by
          unfold isRow at hr;split at hr
          · rename_i fs hu
            obtain ⟨cs,hcs,_⟩:=Go.WideShapes.okWide_struct hu hv;exact ⟨cs,hcs⟩
          · cases hr
        obtain ⟨⟨cs⟩,rfl⟩:=hst
        exact ⟨h2,μ2,.agg ⟨acs⟩::avs,p1.trans p2,u1.trans u2,R2,N2,All2.cons (.val _ _ (.agg _ _ vv)) v2,All2.cons ⟨acs,s1.imp fun _ _ k=>k.up p2,by simp⟩ s2⟩
      | false =>
        have h1c:=okWide_one hk hr hv;rw [h1c] at vv;have hal:acs.length=1:=vv.1
        match acs,hal with
        | [av],_ =>
          exact ⟨h2,μ2,av::avs,p1.trans p2,u1.trans u2,R2,N2,All2.cons (.val _ _ (.one _ _ (vv.2 0 av v rfl rfl))) v2,All2.cons ⟨[av],s1.imp fun _ _ k=>k.up p2,by simp⟩ s2⟩
    · cases hp
theorem trodAll_below {W' : World} (hl : laidOutB P = true) : ∀ {ts : List TypeId} {vs : List Value} {ds : List (DataW H)} {pl : List MemPlace}, (ts.all fun t => P.readableRec t && decide (t < P.types.size)) = true → DataW.TrodAll enc P W 0 (fun _ => true) true ts vs ds pl →
    Below W.heap.size W W'→(∀ x∈pl,x.block < W.heap.size)→DataW.TrodAll enc P W' 0 (fun b=>decide (b < W.heap.size)) true ts vs ds pl
  | [],vs,ds,pl,_,h,_,_=>by
    obtain ⟨rfl,rfl,rfl⟩:=Go.ChangeShapes.trodAll_nil h;rfl
  | t::ts,vs,ds,pl,hr,h,hb,hlt=>by
    obtain ⟨v,vs',d,ds',p,q,rfl,rfl,rfl,h1,h2⟩:=Go.ChangeShapes.trodAll_cons h;simp only [List.all_cons,Bool.and_eq_true,decide_eq_true_eq] at hr
    exact ⟨p,q,Below.trod hl hr.1.1 hr.1.2 h1 hb (fun x hx=>hlt x (List.mem_append_left _ hx)),trodAll_below hl (by simpa using hr.2) h2 hb (fun x hx=>hlt x (List.mem_append_right _ hx)),rfl⟩
end
def noX:CallF:=fun _ _ _=>none
theorem law_calls {H : Type} {enc : TypeId × Value → H} {P : Program} {W : World} {f : FuncId} {ts : List TypeId} {ps : List (Bool × List CK)} {X : CallF} (sound : ∀ n, SoundC P W (call T X n)) (hp : paramsK P ts = some ps)
    (law:∀ (h:Heap) (avs:List Value),All2 (ArgOk h) ps avs→C T X f avs h=some (.bool true,h))
    {base:Nat} {args:Array Value} {ds:List (DataW H)} {pl:List MemPlace} (ht:DataW.TrodAll enc P W 0 (fun _=>true) true ts args.toList ds pl)
    (hw:∀ (j:Nat) (t:TypeId) (v:Value),ts[j]?=some t→args.toList[j]?=some v→Value.okWide P W .any base t v) :
    Calls P f args W fun e W'=>e=.returned (.bool true)∧Below W.heap.size W W':=by
  obtain ⟨h,μ,avs,_,_,R,N,va,sa⟩:=opens_args ts ps args.toList ds pl hp ht hw [] (fun _=>⟨0,0,0⟩) HRel.empty NoOwn.empty
  obtain ⟨n,hn⟩:=C_to T X (law h avs sa);obtain ⟨_,hc⟩:=sound n f avs h _ _ hn
  have hG:Gd W μ h W:=⟨Nat.le_refl _,fun g _=>⟨rfl,fun ⟨b,blk,hb,ho,_⟩=>by rw [N b blk hb] at ho;cases ho⟩⟩
  have:=hc μ W args.toList R hG va
  refine this.mono fun e W' hq=>?_
  obtain ⟨v',μ',rfl,h1,h2,h3⟩:=hq
  refine ⟨by rw [h1.bool],h3.frame.os,h3.frame.tape,h3.frame.output,h3.frame.size,fun k hk=>h3.frame.block k hk ?_⟩
  rintro ⟨b,blk,hb,ho,_⟩;rw [N b blk hb] at ho;cases ho
end Go.Proofs.Ytafhipglhnfgnaa.Ab
/- Arguments taken apart: what a shown argument is, kind by kind. No conditions. -/
namespace Go.Proofs.Ytafhipglhnfgnaa.Ab
open Go.RowKit
theorem All2.nil_inv {α β:Type} {R:α→β→Prop} {ys:List β} (h:All2 R [] ys):ys=[]:=by
  have:=h.1
  cases ys with
  | nil=>rfl
  | cons y ys=>simp at this
theorem All2.cons_inv {α β:Type} {R:α→β→Prop} {x:α} {xs:List α} {ys:List β} (h:All2 R (x::xs) ys):∃ y ys',ys=y::ys'∧R x y∧All2 R xs ys':=by
  have:=h.1
  cases ys with
  | nil=>simp at this
  | cons y ys =>
    refine ⟨y,ys,rfl,h.2 0 x y rfl rfl,by simpa using this,fun i a b ha hb=>h.2 (i+1) a b (by simpa using ha) (by simpa using hb)⟩
section
variable {h:Heap} {v:Value}
theorem wf64 {n:Int} (hw:(Lit.int .i64 n).wf=true):I64 n:=by
  have h:IntKind.i64.min≤n∧n≤IntKind.i64.max:=by simpa [Lit.wf] using hw
  exact ⟨h.1,h.2⟩
theorem Shape.int_inv (s:Shape h (.int .i64) v):∃ n,v=.int .i64 n∧I64 n:=by
  cases s with
  | int k n hw=>exact ⟨n,rfl,wf64 hw⟩
theorem Shape.bool_inv (s:Shape h .bool v):∃ b,v=.bool b:=by
  cases s with
  | bool b=>exact ⟨b,rfl⟩
theorem Shape.str_inv (s:Shape h .str v):∃ b,v=.string b∧b.size≤maxLen:=by
  cases s with
  | str b hs=>exact ⟨b,rfl,hs⟩
theorem Shape.sl_inv {e:List CK} (s:Shape h (.sl e) v):∃ rows,Rows h e.length v rows∧rows.length≤maxLen∧∀ r∈rows,All2 (Shape h) e r:=by
  cases s with
  | sl e v rows hr hm hk=>exact ⟨rows,hr,hm,fun r hrm=>⟨(hr.len r hrm).symm,fun i k x h1 h2=>hk r hrm i k x h1 h2⟩⟩
theorem rows_map {α:Type} {f:α→List Value} {Q:α→Prop}:∀ {rows:List (List Value)},(∀ r∈rows,∃ a,r=f a∧Q a)→∃ l:List α,rows=l.map f∧∀ a∈l,Q a
  | [],_=>⟨[],rfl,fun _ h=>by cases h⟩
  | r::rows,hr=>by
    obtain ⟨a,ha,qa⟩:=hr r List.mem_cons_self
    obtain ⟨l,hl,ql⟩:=rows_map (fun r h=>hr r (List.mem_cons_of_mem _ h))
    exact ⟨a::l,by simp [ha,hl],fun b hb=>by
      rcases List.mem_cons.1 hb with rfl | hb
      · exact qa
      · exact ql b hb⟩
theorem Shape.ints_inv (s:Shape h (.sl [.int .i64]) v):∃ l:List Int,Rows h 1 v (ints l)∧l.length≤maxLen∧∀ n∈l,I64 n:=by
  obtain ⟨rows,hr,hm,hk⟩:=s.sl_inv
  obtain ⟨l,rfl,hl⟩:=rows_map (f:=fun n:Int=>[Value.int .i64 n]) (Q:=I64) (rows:=rows) (fun r hrm=>by
    obtain ⟨x,r',rfl,hx,h2⟩:=(hk r hrm).cons_inv;obtain rfl:=h2.nil_inv;obtain ⟨n,rfl,hn⟩:=hx.int_inv
    exact ⟨n,rfl,hn⟩)
  exact ⟨l,hr,by simpa using hm,hl⟩
end
theorem ArgOk.row {h:Heap} {ks:List CK} {v:Value} (a:ArgOk h (true,ks) v):∃ acs,All2 (Shape h) ks acs∧v=.agg ⟨acs⟩:=by
  obtain ⟨acs,h1,h2⟩:=a
  exact ⟨acs,h1,by simpa using h2⟩
theorem ArgOk.cell {h:Heap} {k:CK} {v:Value} (a:ArgOk h (false,[k]) v):Shape h k v:=by
  obtain ⟨acs,h1,h2⟩:=a;obtain ⟨x,r,rfl,hx,h3⟩:=h1.cons_inv;obtain rfl:=h3.nil_inv
  obtain rfl:x=v:=by simpa using h2
  exact hx
theorem trodAll_len {H:Type} {enc:TypeId × Value→H} {P:Program} {W:World} {spare:Nat→Bool} {held:Bool}:∀ {ts:List TypeId} {vs:List Value} {ds:List (DataW H)} {pl:List MemPlace},DataW.TrodAll enc P W 0 spare held ts vs ds pl→ds.length=ts.length
  | [],vs,ds,pl,h=>by
    obtain ⟨_,rfl,_⟩:=Go.ChangeShapes.trodAll_nil h;rfl
  | t::ts,vs,ds,pl,h=>by
    obtain ⟨v,vs',d,ds',p,q,rfl,rfl,rfl,_,h2⟩:=Go.ChangeShapes.trodAll_cons h;simp [trodAll_len h2]
theorem len1 {α:Type} {l:List α} (h:l.length=1):∃ a,l=[a]:=List.length_eq_one_iff.1 h
theorem len2 {α:Type} {l:List α} (h:l.length=2):∃ a b,l=[a,b]:=by
  match l,h with
  | [a,b],_=>exact ⟨a,b,rfl⟩
theorem len3 {α:Type} {l:List α} (h:l.length=3):∃ a b c,l=[a,b,c]:=by
  match l,h with
  | [a,b,c],_=>exact ⟨a,b,c,rfl⟩
theorem len4 {α:Type} {l:List α} (h:l.length=4):∃ a b c d,l=[a,b,c,d]:=by
  match l,h with
  | [a,b,c,d],_=>exact ⟨a,b,c,d,rfl⟩
end Go.Proofs.Ytafhipglhnfgnaa.Ab
set_option linter.unusedSimpArgs false
set_option linter.unusedVariables false
set_option linter.unnecessarySimpa false
set_option maxHeartbeats 4000000
namespace Go.Proofs.Ytafhipglhnfgnaa.Ab
open Go.RowKit
section
variable {h:Heap} {v:Value}
theorem Shape.edges_inv (s:Shape h (.sl [.int .i64,.int .i64,.int .i64,.int .i64,.int .i64]) v):∃ l:List E,Rows h 5 v (edges l)∧l.length≤maxLen∧∀ e∈l,I64 e.a∧I64 e.b∧I64 e.w1∧I64 e.w2∧I64 e.w3:=by
  obtain ⟨rows,hr,hm,hk⟩:=s.sl_inv
  obtain ⟨l,rfl,hl⟩:=rows_map (f:=edgeR) (Q:=fun e=>I64 e.a∧I64 e.b∧I64 e.w1∧I64 e.w2∧I64 e.w3) (rows:=rows) (fun r hrm=>by
    obtain ⟨x,r',rfl,hx,h2⟩:=(hk r hrm).cons_inv;obtain ⟨y,r',rfl,hy,h2⟩:=h2.cons_inv;obtain ⟨z,r',rfl,hz,h2⟩:=h2.cons_inv;obtain ⟨u,r',rfl,hu,h2⟩:=h2.cons_inv;obtain ⟨w,r',rfl,hw,h2⟩:=h2.cons_inv;obtain rfl:=h2.nil_inv;obtain ⟨a,rfl,ha⟩:=hx.int_inv;obtain ⟨b,rfl,hb⟩:=hy.int_inv;obtain ⟨c,rfl,hc⟩:=hz.int_inv;obtain ⟨d,rfl,hd⟩:=hu.int_inv;obtain ⟨e,rfl,he⟩:=hw.int_inv
    exact ⟨⟨a,b,c,d,e⟩,rfl,ha,hb,hc,hd,he⟩)
  exact ⟨l,hr,by simpa using hm,hl⟩
theorem ArgOk.graph (a:ArgOk h (true,[.int .i64,.sl [.int .i64,.int .i64,.int .i64,.int .i64,.int .i64]]) v):∃ size ev es,v=graphV size ev∧I64 size∧Rows h 5 ev (edges es)∧es.length≤maxLen:=by
  obtain ⟨acs,k,rfl⟩:=a.row;obtain ⟨v0,r,rfl,k0,k⟩:=k.cons_inv;obtain ⟨v1,r,rfl,k1,k⟩:=k.cons_inv;obtain rfl:=k.nil_inv;obtain ⟨n,rfl,hn⟩:=k0.int_inv;obtain ⟨es,he,hm,_⟩:=k1.edges_inv;exact ⟨n,v1,es,rfl,hn,he,hm⟩
def AqOk (x:Aq):Prop:=I64 x.op∧I64 x.a∧I64 x.b∧I64 x.w1∧I64 x.w2∧I64 x.w3
theorem ArgOk.ask (a:ArgOk h (true,[.int .i64,.int .i64,.int .i64,.int .i64,.int .i64,.int .i64]) v):∃ x:Aq,v=.agg ⟨aqR x⟩∧AqOk x:=by
  obtain ⟨acs,k,rfl⟩:=a.row;obtain ⟨v0,r,rfl,k0,k⟩:=k.cons_inv;obtain ⟨v1,r,rfl,k1,k⟩:=k.cons_inv;obtain ⟨v2,r,rfl,k2,k⟩:=k.cons_inv;obtain ⟨v3,r,rfl,k3,k⟩:=k.cons_inv;obtain ⟨v4,r,rfl,k4,k⟩:=k.cons_inv;obtain ⟨v5,r,rfl,k5,k⟩:=k.cons_inv;obtain rfl:=k.nil_inv;obtain ⟨n0,rfl,h0⟩:=k0.int_inv;obtain ⟨n1,rfl,h1⟩:=k1.int_inv;obtain ⟨n2,rfl,h2⟩:=k2.int_inv;obtain ⟨n3,rfl,h3⟩:=k3.int_inv;obtain ⟨n4,rfl,h4⟩:=k4.int_inv;obtain ⟨n5,rfl,h5⟩:=k5.int_inv;exact ⟨⟨n0,n1,n2,n3,n4,n5⟩,rfl,h0,h1,h2,h3,h4,h5⟩
end
end Go.Proofs.Ytafhipglhnfgnaa.Ab
set_option linter.unusedSimpArgs false
set_option linter.unusedVariables false
set_option linter.unnecessarySimpa false
set_option maxHeartbeats 4000000
namespace Go.Proofs.Ytafhipglhnfgnaa.Ab
open Go.RowKit
section
variable {X:CallF} {h:Heap} {cv:Value} {l:List Int}
theorem k_big (hc:Rows h 1 cv (bys l)):C T X n_laws_big [cv] h=some (.bool (decide ((l.length:Int) > 1048576)),h):=by
  refine C_go t_laws_big rfl ?_;unfold F_laws_big
  have hln:lnV h cv=some (.int .i64 (l.length:Int)):=by rw [hc.ln,bys_len]
  simp only [hln,go_sem]
theorem Shape.bytes_inv {v:Value} (s:Shape h (.sl [.int .u8]) v):∃ l:List Int,Rows h 1 v (bys l):=by
  obtain ⟨rows,hr,hm,hk⟩:=s.sl_inv
  obtain ⟨l,rfl,hl⟩:=rows_map (f:=fun n:Int=>[Value.int .u8 n]) (Q:=fun _=>True) (rows:=rows) (fun r hrm=>by
    obtain ⟨x,r',rfl,hx,h2⟩:=(hk r hrm).cons_inv;obtain rfl:=h2.nil_inv
    cases hx with
    | int k n hw=>exact ⟨n,rfl,trivial⟩)
  exact ⟨l,hr⟩
theorem pf_bnd {size:Int} {es:List E} {ys:List Int} {gs:List Gp} (p:PfOk size es ys gs):PfBnd ys gs:=by
  have f:=pfOk_fit p
  refine ⟨by have:=f.yl;omega,by have:=f.gl;omega,fun g hg=>?_⟩
  obtain ⟨i,hi,rfl⟩:=mem_getD (d:=g0) hg;have:=(f.g i hi).2;omega
end
end Go.Proofs.Ytafhipglhnfgnaa.Ab
set_option linter.unusedSimpArgs false
set_option linter.unusedVariables false
set_option linter.unnecessarySimpa false
set_option maxHeartbeats 4000000
namespace Go.Proofs.Ytafhipglhnfgnaa.Ab
open Go.RowKit
theorem OG.same {h h':Heap} {lo lo' hi':Nat} {v:Value} {gs:List Gp} (o:OG h lo v gs) (a:Same lo' hi' h h') (hd:hi'≤lo):OG h' lo v gs:=by
  obtain ⟨vs,h1,h2⟩:=o
  exact ⟨vs,by rw [a.len];exact h1.same a (.inr hd),fun i hi=>by rw [a.len];exact (h2 i hi).same a (.inr hd)⟩
theorem Rows.flatP {h h2:Heap} {sz:Nat} {v:Value} {rws:List (List Value)} (r:Rows h sz v rws) (hf:prim v=true):Rows h2 sz v rws:=by
  refine ⟨r.len,?_⟩;rcases r.is with q | ⟨b,off,cap,blk,q,_⟩
  · exact .inl q
  · rw [q] at hf
    simp [prim] at hf
theorem RowsG.flatP {h h2:Heap} {v:Value} {gs:List Gp} (r:RowsG h v gs) (hf:prim v=true):RowsG h2 v gs:=by
  obtain ⟨vs,r1,r2⟩:=r
  refine ⟨vs,r1.flatP hf,fun i hi=>?_⟩
  exfalso;rcases r1.is with ⟨_,q⟩ | ⟨b,off,cap,blk,q,_⟩
  · have:=congrArg List.length q
    rw [List.length_map,List.length_range] at this;simp only [List.length_nil] at this;omega
  · rw [q] at hf
    simp [prim] at hf
def PrShown (hh:Heap) (ev yv gv:Value) (es:List E) (ys:List Int) (gs:List Gp):Prop:=Rows hh 5 ev (edges es)∧Rows hh 1 yv (ints ys)∧RowsG hh gv gs
section
variable {X:CallF} {cv:Value} {l:List Int}
set_option maxRecDepth 100000 in
theorem k_DrawAnyProof {h : Heap} (hc : Rows h 1 cv (bys l)) (hl : l.length ≤ 1048576) : ∃ (n : Nat) (es : List E) (ev : Value) (ys : List Int) (gs : List Gp) (yv gv : Value) (hh : Heap),
    C T X n_spec_DrawAnyProof [cv] h=some (.tuple ⟨[graphV n ev,proofV yv gv]⟩,hh)∧GOk n es∧h <+: hh∧PrShown hh ev yv gv es ys gs∧PfBnd ys gs:=by
  suffices hx:∃ w hh,C T X n_spec_DrawAnyProof [cv] h=some (w,hh)∧∃ (n:Nat) (es:List E) (ev:Value) (ys:List Int) (gs:List Gp) (yv gv:Value),w=.tuple ⟨[graphV n ev,proofV yv gv]⟩∧GOk n es∧h <+: hh∧PrShown hh ev yv gv es ys gs∧PfBnd ys gs by
    obtain ⟨w,hh,c,n,es,ev,ys,gs,yv,gv,rfl,r⟩:=hx;exact ⟨n,es,ev,ys,gs,yv,gv,hh,c,r⟩
  refine C_ex t_spec_DrawAnyProof rfl ?_;unfold F_spec_DrawAnyProof;obtain ⟨x0,c1⟩:=k_l01New (X:=X) hc hl;have d1:=dr_new hc hl (x:=x0);obtain ⟨h1,hh1⟩:∃ h1:Heap,h1=h++[curB cv 0 x0]:=⟨_,rfl⟩;rw [← hh1] at c1 d1
  have hl1:h1.length=h.length+1:=by rw [hh1];simp
  obtain ⟨n,es,ev,h2,c2,g,o,d2,f2⟩:=k_l08Graph (X:=X) d1
  have hn:n≤9:=by have:=g.1;omega
  have hel:=gok_len g
  obtain ⟨h3,mv,yv,gv,m,ys,gs,c3,p3,⟨p,q,b1,b2,b3,oy,og,oc⟩,ct⟩:=k_spec_Solve_own (X:=X) o.rows g hn (by omega)
  have bd:=pf_bnd ct.1;have d3:=d2.up p3;have hf2:=f2.len;unfold graphV proofV at *;simp only [c1,c2,c3,go_sem]
  have fin : ∀ (zs : List Int) (gs2 : List Gp) (gv2 : Value) (h4 : Heap), h <+: h4 → Rows h4 5 ev (edges es) → Rows h4 1 yv (ints zs) → RowsG h4 gv2 gs2 → PfBnd zs gs2 →
      ∃ (n':Nat) (es':List E) (ev':Value) (ys':List Int) (gs':List Gp) (yv' gv':Value),(finish h (.tuple ⟨[.agg ⟨[.int .i64 (n:Nat),ev]⟩,.agg ⟨[yv,gv2]⟩]⟩,h4)).1=.tuple ⟨[.agg ⟨[.int .i64 (n':Nat),ev']⟩,.agg ⟨[yv',gv']⟩]⟩∧GOk n' es'∧h <+: (finish h (.tuple ⟨[.agg ⟨[.int .i64 (n:Nat),ev]⟩,.agg ⟨[yv,gv2]⟩]⟩,h4)).2∧PrShown (finish h (.tuple ⟨[.agg ⟨[.int .i64 (n:Nat),ev]⟩,.agg ⟨[yv,gv2]⟩]⟩,h4)).2 ev' yv' gv' es' ys' gs'∧PfBnd ys' gs':=by
    intro zs gs2 gv2 h4 hp r1 r2 r3 r4;obtain ⟨hh,e,pp,hcs⟩:=finish_cases (v:=.tuple ⟨[.agg ⟨[.int .i64 (n:Nat),ev]⟩,.agg ⟨[yv,gv2]⟩]⟩) hp;rw [e];refine ⟨n,es,ev,zs,gs2,yv,gv2,rfl,g,pp,?_,r4⟩;rcases hcs with rfl | ⟨hf,rfl⟩
    · exact ⟨r1,r2,r3⟩
    · have hf':prim ev=true∧prim yv=true∧prim gv2=true:=by simpa [flat,flat1,prim] using hf
      exact ⟨r1.flatP hf'.1,r2.flatP hf'.2.1,r3.flatP hf'.2.2⟩
  refine w_for ys.length (fun i t loc h'=>loc 2=some [.int .i64 0,.slice none 0 0]∧loc 3=some [.slice none 0 0,.slice none 0 0]∧t 4=pk h.length 0∧loc 5=some [.int .i64 (n:Nat),ev]∧loc 7=some [yv,gv]∧t 9=.int .i64 (i:Nat)∧Dr h h.length cv l h'∧q≤h'.length∧∃ zs:List Int,zs.length=ys.length∧Own h' p q 1 y_int yv (ints zs)∧OG h' q gv gs∧Own h' h1.length h2.length 5 y_Edge ev (edges es)) ⟨rfl,rfl,rfl,rfl,rfl,rfl,d3,b3,ys,rfl,oy,og,o.up p3⟩ ?_
  rintro i t loc h4 hi ⟨l2,l3,t4,l5,l7,t9,d4,b4,zs,hzs,oy4,og4,oe4⟩
  have lny:lnV h4 yv=some (.int .i64 (zs.length:Nat)):=by rw [oy4.ln,ints_len]
  simp only [l7,t9,lny,hzs,go_sem]
  refine w_open (by simp only [go_sem];rfl) ?_ ?_<;>intro hc
  · have hi1:i < ys.length:=by omega
    have hyl:=bd.1
    have hw:IntKind.i64.wrap ((i:Int)+1)=((i+1:Nat):Int):=w64 (by omega) (by omega)
    obtain ⟨x,h5,c5,d5,s5⟩:=k_l01Once (X:=X) d4 3
    have oy5:=oy4.same s5 (.inr (by omega))
    have og5:=og4.same s5 (by omega)
    have oe5:=oe4.same s5 (.inr (by omega))
    have sl5:=s5.len
    cases x with
    | false =>
      simp only [l2,l3,t4,l5,l7,t9,c5,hw,go_sem]
      exact ⟨hi1,d5,by omega,zs,hzs,oy5,og5,oe5⟩
    | true =>
      obtain ⟨y,h6,c6,d6,s6,_⟩:=k_l01Below (X:=X) d5 700
      have oy6:=oy5.same s6 (.inr (by omega))
      have og6:=og5.same s6 (by omega)
      have oe6:=oe5.same s6 (.inr (by omega))
      have sl6:=s6.len
      have el5:=int_el oy5.rows (i:=i) (by omega)
      have el6:=int_el oy6.rows (i:=i) (by omega)
      obtain ⟨h7,e7,s7,o7⟩:=oy6.sti (i:=i) (by omega) (IntKind.i64.wrap (zs.getD i 0+y))
      have sl7:=s7.len
      have d7:Dr h h.length cv l h7:=by
        obtain ⟨a1,a2,a3,a4,j,z,a5,a6⟩:=d6
        exact ⟨s7.pre a1 (by omega),a2,a3,a4,j,z,a5,by rw [s7.blk _ (.inl (by omega))];exact a6⟩
      simp only [l2,l3,t4,l5,l7,t9,c5,c6,el5.1,el5.2,el6.1,el6.2,e7,hw,go_sem]
      exact ⟨hi1,d7,by omega,zs.set i (IntKind.i64.wrap (zs.getD i 0+y)),by rw [List.length_set];exact hzs,o7,og6.same s7 (Nat.le_refl _),oe6.same s7 (.inl (by omega))⟩
  · obtain ⟨z1,z2,z3⟩:=bd
    have bd':PfBnd zs gs:=⟨by omega,z2,z3⟩
    have hgl:lnV h4 gv=some (.int .i64 (gs.length:Nat)):=og4.rows.ln
    by_cases k1:(n:Int) > 2
    · by_cases k2:gs.length=0
      · have k2':((gs.length:Nat):Int)=0:=by omega
        obtain ⟨x,h5,c5,d5,s5⟩:=k_l01Once (X:=X) d4 2
        have oy5:=oy4.same s5 (.inr (by omega))
        have og5:=og4.same s5 (by omega)
        have oe5:=oe4.same s5 (.inr (by omega))
        have sl5:=s5.len
        cases x with
        | false =>
          simp only [l2,l3,t4,l5,l7,t9,hgl,k1,k2',c5,go_sem];exact fin zs gs gv h5 d5.base oe5.rows oy5.rows og5.rows bd'
        | true =>
          obtain ⟨y,h6,c6,d6,s6,y0,y1,_⟩:=k_l01Below (X:=X) d5 9
          have oy6:=oy5.same s6 (.inr (by omega))
          have og6:=og5.same s6 (by omega)
          have oe6:=oe5.same s6 (.inr (by omega))
          have sl6:=s6.len
          have w1:IntKind.i64.wrap (1+y)=1+y:=w64 (by omega) (by have:=y1 (by omega);omega)
          obtain rfl:gs=[]:=List.eq_nil_of_length_eq_zero k2;obtain ⟨vs,og7,_⟩:=og6;obtain ⟨h7,eh7⟩:∃ h7:Heap,h7=h6++[⟨[.int .i64 0,.int .i64 1,.int .i64 2],1,y_int,true⟩]:=⟨_,rfl⟩
          have p7:h6 <+: h7:=by rw [eh7];exact List.prefix_append _ _
          have om7:Rows h7 1 (.slice (some ⟨h6.length,0,none⟩) 3 3) (ints [0,1,2]):=by
            rw [eh7]
            exact Rows.made (rows:=ints [0,1,2]) (sz:=1) (ty:=y_int) (by intro r hr;obtain ⟨z,_,rfl⟩:=List.mem_map.1 hr;rfl)
          have og8:Own h7 q h6.length 2 y_Group gv []:=og7.up p7
          obtain ⟨gv2,h8,e8,q1,q2,o8⟩:=og8.push1 (by have:=pre_len p7;omega) [.slice (some ⟨h6.length,0,none⟩) 3 3,.int .i64 (1+y)] rfl (by simp [lim])
          have p8:∀ b,b < q∨(h6.length≤b∧b < h7.length)→h8[b]?=h7[b]?:=q2
          have om8:Rows h8 1 (.slice (some ⟨h6.length,0,none⟩) 3 3) (ints [0,1,2]):=by
            refine ⟨om7.len,.inr ?_⟩;rcases om7.is with ⟨r,_⟩ | ⟨b,off,cap,blk,r1,r2,r3⟩
            · cases r
            · have hb:b=h6.length:=by cases r1;rfl
              exact ⟨b,off,cap,blk,r1,by rw [p8 b (.inr ⟨by omega,lt_of_get r2⟩)];exact r2,r3⟩
          have low:∀ {hh:Heap} {lo hi sz ty v rws},Own h7 lo hi sz ty v rws→hi≤q→Rows h8 sz v rws:=fun {hh lo hi sz ty v rws} a hq=>by
            refine Own.rows (lo:=lo) (hi:=hi) (ty:=ty) ⟨a.len,?_⟩;rcases a.is with r | ⟨b,r1,r2,r3,r4⟩
            · exact .inl r
            · exact .inr ⟨b,r1,r2,r3,by rw [p8 b (.inl (by omega))];exact r4⟩
          have hp8:h <+: h8:=pre_push (lo:=q) (hi:=h6.length) (d6.base.trans p7) (by omega) q1 q2
          have z0:((0:Nat):Int)=0:=rfl;have cg:=o8.cells;simp only [l2,l3,t4,l5,l7,t9,hgl,k1,k2',z0,cg,c5,c6,w1,zeros,fillAt,← eh7,e8,go_sem]
          refine fin zs [⟨[0,1,2],1+y⟩] gv2 h8 hp8 (low (hh:=h8) (oe6.up p7) (by omega)) (low (hh:=h8) (oy6.up p7) (Nat.le_refl _)) ⟨[.slice (some ⟨h6.length,0,none⟩) 3 3],?_,fun i hi=>?_⟩ ⟨by omega,by simp,fun g hg=>?_⟩
          · exact o8.rows
          · have:i=0:=by simpa using hi
            subst this;exact om8
          · rw [List.mem_singleton.1 hg]
            simp
      · have k2':¬ ((gs.length:Nat):Int)=0:=by omega
        simp only [l2,l3,t4,l5,l7,t9,hgl,k1,k2',go_sem];exact fin zs gs gv h4 d4.base oe4.rows oy4.rows og4.rows bd'
    · simp only [l2,l3,t4,l5,l7,t9,hgl,k1,go_sem]
      exact fin zs gs gv h4 d4.base oe4.rows oy4.rows og4.rows bd'
end
end Go.Proofs.Ytafhipglhnfgnaa.Ab
set_option linter.unusedSimpArgs false
set_option linter.unusedVariables false
set_option linter.unnecessarySimpa false
set_option maxHeartbeats 4000000
namespace Go.Proofs.Ytafhipglhnfgnaa.Ab
open Go.RowKit
section
variable {X:CallF} {h:Heap} {ev:Value} {es:List E} {size:Int}
theorem gok_all {size:Int} {es:List E} (g:GOk size es):∀ e∈es,EOk size e:=fun e he=>by
  obtain ⟨i,hi,rfl⟩:=mem_getD (d:=e0) he;exact (g.2 i hi).1
end
end Go.Proofs.Ytafhipglhnfgnaa.Ab
set_option linter.unusedSimpArgs false
set_option linter.unusedVariables false
set_option linter.unnecessarySimpa false
set_option maxHeartbeats 4000000
namespace Go.Proofs.Ytafhipglhnfgnaa.Ab
open Go.RowKit
def S3In (s:S3) (b:Int):Prop:=(0≤s.x∧s.x≤b)∧(0≤s.y∧s.y≤b)∧0≤s.z∧s.z≤b
theorem S3In.add {s t:S3} {a b:Int} (h:S3In s a) (k:S3In t b):S3In (s.add t) (a+b):=by
  unfold S3In S3.add at *;simp only;omega
section
variable {X:CallF} {h:Heap}
end
end Go.Proofs.Ytafhipglhnfgnaa.Ab
set_option linter.unusedSimpArgs false
set_option linter.unusedVariables false
set_option linter.unnecessarySimpa false
set_option maxHeartbeats 4000000
namespace Go.Proofs.Ytafhipglhnfgnaa.Ab
open Go.RowKit
theorem gok_lt {size:Int} {es:List E} (g:GOk size es):∀ {i j:Nat},i < j→j < es.length→ELt (es.getD i e0) (es.getD j e0)
  | i,j+1,h,hj=>by
    have h1:=(g.2 (j+1) hj).2 (by omega)
    rw [Nat.add_sub_cancel] at h1
    by_cases e:i=j
    · rw [e];exact h1
    · have h2:=gok_lt g (show i < j by omega) (by omega)
      unfold ELt at h1 h2 ⊢;omega
theorem gok_one {size:Int} {es:List E} (g:GOk size es):∀ e∈es,∀ f∈es,e.a=f.a→e.b=f.b→e=f:=fun e he f hf h1 h2=>by
  obtain ⟨i,hi,rfl⟩:=mem_getD (d:=e0) he;obtain ⟨j,hj,rfl⟩:=mem_getD (d:=e0) hf;rcases Nat.lt_trichotomy i j with k | k | k
  · have:=gok_lt g k hj
    unfold ELt at this;omega
  · rw [k]
  · have:=gok_lt g k hi
    unfold ELt at this;omega
section
variable {X:CallF} {h:Heap} {ev mv:Value} {es:List E} {l:List Cp} {size:Int}
theorem k_spec_BetterG {a b:S3}:C T X n_spec_Better [.agg ⟨[.int .i64 a.x,.int .i64 a.y,.int .i64 a.z]⟩,.agg ⟨[.int .i64 b.x,.int .i64 b.y,.int .i64 b.z]⟩] h=some (.bool (decide (bet a b)),h):=by
  refine C_go t_spec_Better rfl ?_;unfold F_spec_Better
  by_cases c1:a.x=b.x
  · by_cases c2:a.y=b.y
    · have e:decide (bet a b)=decide (b.z < a.z):=decide_eq_decide.2 (by unfold bet;omega)
      simp only [c1,c2,e,gt_iff_lt,go_sem]
    · have e:decide (bet a b)=decide (b.y < a.y):=decide_eq_decide.2 (by unfold bet;omega)
      simp only [c1,c2,e,gt_iff_lt,go_sem]
  · have e:decide (bet a b)=decide (b.x < a.x):=decide_eq_decide.2 (by unfold bet;omega)
    simp only [c1,e,gt_iff_lt,go_sem]
open Classical in
noncomputable def bestG (size:Int) (es:List E):S3:=if GOk size es then bsF es [] s0 s0 else s0
open Classical in
noncomputable def bestGV (size:Int) (es:List E):Value:=.tuple ⟨[.agg ⟨[.int .i64 (bestG size es).x,.int .i64 (bestG size es).y,.int .i64 (bestG size es).z]⟩,.bool (decide (GOk size es))]⟩
def bestS (w:S3) (c:Int):Value:=.tuple ⟨[.agg ⟨[.int .i64 w.x,.int .i64 w.y,.int .i64 w.z]⟩,.int .i64 c]⟩
theorem k_spec_l09BestG {n : Nat} (hn : n ≤ 9) (hl : es.length ≤ lim) (hE : ∀ e ∈ es, EOk n e) (hU : ∀ e ∈ es, ∀ f ∈ es, e.a = f.a → e.b = f.b → e = f) : ∀ (m k : Nat) (u : List Int) (uv : Value) (h : Heap), n ≤ k + m → k ≤ n → u.length ≤ k → Rows h 5 ev (edges es) → Rows h 1 uv (ints u) →
    ∃ (w:S3) (c:Int),C T X n_spec_l09Best [graphV n ev,.int .i64 (k:Int),uv] h=some (bestS w c,h)∧S3In w (50*((n:Int) - k))∧Best es (Fr k u) w:=by
  intro m
  induction m using Nat.strongRecOn with
  | _ m ih =>
  intro k u uv h hm hk hul he hu
  suffices hs:∃ v hh,C T X n_spec_l09Best [graphV n ev,.int .i64 (k:Int),uv] h=some (v,hh)∧hh=h∧∃ (w:S3) (c:Int),v=bestS w c∧S3In w (50*((n:Int) - k))∧Best es (Fr k u) w by
    obtain ⟨v,hh,c1,rfl,w,c,rfl,c2⟩:=hs;exact ⟨w,c,c1,c2⟩
  refine C_ex t_spec_l09Best rfl ?_;unfold F_spec_l09Best graphV;simp only [go_sem]
  refine w_meas (n - k) (fun r t loc h'=>h'=h∧loc 3=some [.int .i64 n,ev]∧loc 6=some [.int .i64 0,.int .i64 0,.int .i64 0]∧t 2=uv∧∃ i:Nat,r+i=n - k∧t 1=.int .i64 ((k+i:Nat):Int)∧∀ j:Int,(k:Int)≤j→j < k+i→j∈u) ⟨rfl,rfl,rfl,rfl,0,rfl,rfl,fun j a b=>by omega⟩ ?_
  rintro r t loc h' ⟨rfl,l3,l6,t2,i,hr,t1,hall⟩;obtain ⟨K,hK⟩:∃ K,K=k+i:=⟨_,rfl⟩;rw [← hK] at t1
  have ck:=k_spec_l03In (X:=X) (n:=(K:Int)) hu (by unfold lim;omega)
  simp only [l3,t1,t2,go_sem]
  by_cases s1:(K:Int) < (n:Int)
  · by_cases s2:(K:Int)∈u
    · have hw:IntKind.i64.wrap ((K:Int)+1)=((k+(i+1):Nat):Int):=by
        rw [w64 (by omega) (by omega)]
        omega
      simp only [s1,s2,l3,t1,t2,ck,hw,go_sem]
      refine ⟨r - 1,by omega,l6,i+1,by omega,rfl,fun j a b=>?_⟩
      by_cases hj:j < (k:Int)+i
      · exact hall j a hj
      · have:j=(K:Int):=by omega
        rw [this];exact s2
    · have hw:IntKind.i64.wrap ((K:Int)+1)=((K+1:Nat):Int):=w64 (by omega) (by omega)
      have ih1:=ih (m - 1) (by omega)
      obtain ⟨w0,c0,b1,b2,b3⟩:=ih1 (K+1) u uv h' (by omega) (by omega) (by omega) he hu
      unfold graphV bestS at b1
      have hge:¬ ((K:Int)≥(n:Int)):=by omega
      simp only [s1,s2,hge,l3,l6,t1,t2,ck,hw,b1,go_sem]
      have fin:∀ (w:S3),S3In w (50*((n:Int) - K))→BestTo es (K:Int) u (n:Int) w→S3In w (50*((n:Int) - k))∧Best es (Fr k u) w:=fun w a b=>by
        refine ⟨by unfold S3In at a ⊢;omega,best_skips i (fun j p q=>hall j p q) ?_⟩
        rw [show (k:Int)+(i:Int)=(K:Int) by omega]
        exact bestTo_end hE b
      refine w_meas (n - (K+1)) (fun r t loc h2=>h' <+: h2∧loc 3=some [.int .i64 n,ev]∧loc 6=some [.int .i64 0,.int .i64 0,.int .i64 0]∧t 1=.int .i64 (K:Int)∧t 2=uv∧∃ (j:Nat) (w:S3) (c:Int),r+j=n - (K+1)∧loc 8=some [.int .i64 w.x,.int .i64 w.y,.int .i64 w.z]∧t 9=.int .i64 c∧t 10=.int .i64 ((K+1+j:Nat):Int)∧S3In w (50*((n:Int) - K))∧BestTo es (K:Int) u ((K+1+j:Nat):Int) w)
        ⟨List.prefix_refl _,rfl,rfl,rfl,rfl,0,w0,c0,rfl,rfl,rfl,rfl,by unfold S3In at b2 ⊢;omega,bestTo_start hE b3⟩ ?_
      rintro r2 t loc h2 ⟨hp,l3,l6,t1,t2,j,w,c,hr2,l8,t9,t10,hwn,hmt⟩;obtain ⟨B,hB⟩:∃ B,B=K+1+j:=⟨_,rfl⟩;rw [← hB] at t10 hmt;have he2:=he.up hp;have hu2:=hu.up hp;simp only [l3,t10,go_sem]
      refine w_open (by simp only [go_sem];rfl) ?_ ?_<;>intro hc
      · have hw2:IntKind.i64.wrap ((B:Int)+1)=((K+1+(j+1):Nat):Int):=by
          rw [w64 (by omega) (by omega)]
          omega
        have hnext:((K+1+(j+1):Nat):Int)=(B:Int)+1:=by omega
        have cat:=k_spec_l08At (X:=X) (h:=h2) (size:=(n:Int)) (x:=(K:Int)) (y:=(B:Int)) he2 hl;unfold graphV at cat
        have cin:=k_spec_l03In (X:=X) (n:=(B:Int)) hu2 (by unfold lim;omega)
        by_cases c1:edgeIx es (K:Int) (B:Int) < 0
        · simp only [l3,l6,l8,t1,t2,t9,t10,cat,c1,hw2,go_sem]
          exact ⟨r2 - 1,by omega,hp,j+1,w,c,by omega,rfl,rfl,rfl,hwn,by rw [hnext];exact bestTo_no hE hmt (.inl c1)⟩
        by_cases c2:(B:Int)∈u
        · simp only [l3,l6,l8,t1,t2,t9,t10,cat,cin,c1,c2,hw2,go_sem]
          exact ⟨r2 - 1,by omega,hp,j+1,w,c,by omega,rfl,rfl,rfl,hwn,by rw [hnext];exact bestTo_no hE hmt (.inr c2)⟩
        have hin:∃ i0:Nat,edgeIx es (K:Int) (B:Int)=(i0:Int)∧i0 < es.length:=by
          rcases firstIx_cases (p:=Join (K:Int) (B:Int)) e0 es with ⟨q1,_⟩ | ⟨i0,q1,q2,_⟩
          · unfold edgeIx at c1;omega
          · exact ⟨i0,q1,q2⟩
        obtain ⟨i0,hi0,hi1⟩:=hin
        have c1':¬ ((i0:Int) < 0):=by omega
        have hix:=hi0;rw [hi0] at cat;obtain ⟨g,hg⟩:∃ g:Heap,g=h2++[⟨[],1,y_int,true⟩]:=⟨_,rfl⟩
        have hgl:g.length=h2.length+1:=by rw [hg];simp
        have hpg:h2 <+: g:=by rw [hg];exact List.prefix_append _ _
        have og:Own g h2.length (h2.length+1) 1 y_int (.slice (some ⟨h2.length,0,none⟩) 0 0) []:=by rw [← hgl,hg];exact Acc.new.own
        obtain ⟨v3,h3,c3,q1,q2,o3⟩:=og.app (by omega) (hu2.up hpg) (by rw [List.length_nil,ints_len];unfold lim;omega)
        have hp3:h2 <+: h3:=pre_push hpg (Nat.le_refl _) q1 q2;rw [List.nil_append] at o3
        obtain ⟨v4,h4,c4,q3,q4,o4⟩:=o3.push1 (by omega) [.int .i64 (B:Int)] rfl (by rw [ints_len];unfold lim;omega)
        have hp4:h2 <+: h4:=pre_push hp3 (Nat.le_refl _) q3 q4
        have hr4:Rows h4 1 v4 (ints (u++[(B:Int)])):=by simpa [ints] using o4.rows
        obtain ⟨w1,c1x,d1,d2,d3⟩:=ih1 (K+1) (u++[(B:Int)]) v4 h4 (by omega) (by omega) (by simp;omega) (he2.up hp4) hr4
        unfold graphV bestS at d1;have el:=edge_el (he2.up hp4) hi1;have hEe:=hE _ (getD_mem (d:=e0) hi1)
        have hmx:=bestTo_yes hE hU hmt s2 (by omega) hix hi1 c2 (by rw [show (K:Int)+1=((K+1:Nat):Int) by omega];exact d3)
        obtain ⟨e,hee⟩:∃ e,e=es.getD i0 e0:=⟨_,rfl⟩;rw [← hee] at el hEe hmx;unfold EOk at hEe;obtain ⟨W,hW⟩:∃ W,W=(wS e).add w1:=⟨_,rfl⟩;rw [← hW] at hmx
        have hWx:W.x=e.w1+w1.x:=by rw [hW];rfl
        have hWy:W.y=e.w2+w1.y:=by rw [hW];rfl
        have hWz:W.z=e.w3+w1.z:=by rw [hW];rfl
        unfold S3In at d2
        have x1:IntKind.i64.wrap (w1.x+e.w1)=W.x:=by rw [w64 (by omega) (by omega)];omega
        have x2:IntKind.i64.wrap (w1.y+e.w2)=W.y:=by rw [w64 (by omega) (by omega)];omega
        have x3:IntKind.i64.wrap (w1.z+e.w3)=W.z:=by rw [w64 (by omega) (by omega)];omega
        have hWin:S3In W (50*((n:Int) - K)):=by unfold S3In;omega
        have hwk:IntKind.i64.wrap ((K:Int)+1)=((K+1:Nat):Int):=w64 (by omega) (by omega)
        by_cases c5:bet W w
        · have hup:upS w W=W:=if_pos c5
          rw [hup] at hmx;simp only [zeros,fillAt,← hg,l3,l6,l8,t1,t2,t9,t10,cat,cin,c1',c2,c3,c4,hp4,d1,el.1,el.2.2.1,x1,x2,x3,hwk,k_spec_BetterG,c5,hw2,go_sem]
          exact ⟨r2 - 1,by omega,hp.trans hp4,j+1,W,_,by omega,rfl,rfl,rfl,hWin,by rw [hnext];exact hmx⟩
        · have hup:upS w W=w:=if_neg c5
          rw [hup] at hmx;simp only [zeros,fillAt,← hg,l3,l6,l8,t1,t2,t9,t10,cat,cin,c1',c2,c3,c4,hp4,d1,el.1,el.2.2.1,x1,x2,x3,hwk,k_spec_BetterG,c5,hw2,go_sem]
          exact ⟨r2 - 1,by omega,hp.trans hp4,j+1,w,_,by omega,rfl,rfl,rfl,hwn,by rw [hnext];exact hmx⟩
      · have hBn:B=n:=by omega
        rw [hBn] at hmt;simp only [l6,l8,t9,go_sem];rw [finish_flat rfl hp];exact ⟨rfl,w,c,rfl,(fin w hwn hmt).1,(fin w hwn hmt).2⟩
  · have hge:((K:Int)≥(n:Int)):=by omega
    simp only [s1,hge,l3,l6,t1,t2,go_sem]
    exact ⟨s0,1,rfl,⟨⟨Int.le_refl _,by show (0:Int)≤_;omega⟩,⟨Int.le_refl _,by show (0:Int)≤_;omega⟩,Int.le_refl _,by show (0:Int)≤_;omega⟩,best_skips i (fun j p q=>hall j p q) (by
      rw [show (k:Int)+(i:Int)=(K:Int) by omega]
      exact best_end hE hge)⟩
open Classical in
theorem k_spec_BestSums (he:Rows h 5 ev (edges es)) (hl:es.length≤lim):C T X n_spec_BestSums [graphV size ev] h=some (bestGV size es,h):=by
  refine C_go t_spec_BestSums rfl ?_;have hg:=k_spec_GraphOk (X:=X) (size:=size) he hl;unfold bestGV bestG
  by_cases g:GOk size es
  · rw [if_pos g]
    have hE:=gok_all g;have hs:=g.1
    obtain ⟨n,rfl⟩:∃ n:Nat,size=n:=⟨size.toNat,by omega⟩
    obtain ⟨g2,hg2⟩:∃ g2:Heap,g2=h++[⟨[],1,y_int,true⟩]:=⟨_,rfl⟩
    have hpg:h <+: g2:=by rw [hg2];exact List.prefix_append _ _
    have hu:Rows g2 1 (.slice (some ⟨h.length,0,none⟩) 0 0) (ints []):=by rw [hg2];exact Acc.new.rows
    obtain ⟨w,c,b1,b2,b3⟩:=k_spec_l09BestG (X:=X) (es:=es) (n:=n) (by omega) hl hE (gok_one g) n 0 [] _ g2 (by omega) (by omega) (Nat.le_refl _) (he.up hpg) hu
    have hw:=bsF_all (best_first hE b3);unfold graphV at b1 hg;unfold bestS at b1;unfold F_spec_BestSums graphV;have z0:((0:Nat):Int)=0:=rfl;rw [z0] at b1;rw [hw];simp only [hg,g,zeros,fillAt,← hg2,b1,go_sem];exact finish_flat rfl hpg
  · rw [if_neg g]
    unfold graphV at hg;unfold F_spec_BestSums graphV;simp only [hg,g,zeros,fillAt,go_sem];rfl
end
end Go.Proofs.Ytafhipglhnfgnaa.Ab
set_option linter.unusedSimpArgs false
set_option linter.unusedVariables false
set_option linter.unnecessarySimpa false
set_option maxHeartbeats 4000000
namespace Go.Proofs.Ytafhipglhnfgnaa.Ab
open Go.RowKit
theorem sumS_x {size:Int} {es l:List E} {P:Int→Prop} (g:GOk size es) (h:Mt es P l):0≤(sumS l).x∧(sumS l).x≤300:=by
  have hE:∀ e∈l,EOk size e:=fun e he=>gok_mem g (h.1 e he).1
  have nd:(endsL l).Nodup:=endsL_nd (fun e he q=>by have:=hE e he;unfold EOk at this;omega) h.2
  have h1:=nodup_len' (n:=9) nd fun x hx=>by
    obtain ⟨e,he,q⟩:=endsL_mem.1 hx;have:=hE e he;have:=g.1;unfold EOk at *
    rcases q with q | q<;>omega
  rw [endsL_len] at h1
  have:0≤(sumS l).x∧(sumS l).x≤50*l.length:=by
    clear h1 nd h
    induction l with
    | nil=>exact ⟨Int.le_refl _,Int.le_refl _⟩
    | cons e l ih =>
      have ih:=ih fun f hf=>hE f (List.mem_cons_of_mem _ hf)
      have he:=hE e List.mem_cons_self;unfold EOk at he;have e1:(sumS (e::l)).x=e.w1+(sumS l).x:=rfl;rw [e1,List.length_cons]
      push_cast
      omega
  omega
section
variable {X:CallF} {h:Heap} {cv:Value} {l:List Int}
open Classical in
set_option maxRecDepth 100000 in
theorem l_Proves (hc:Rows h 1 cv (bys l)):C T X n_laws_FnProves [cv] h=some (.bool true,h):=by
  refine C_go t_laws_FnProves rfl ?_;unfold F_laws_FnProves;have cb:=k_big (X:=X) hc
  by_cases hz:(l.length:Int) > 1048576
  · simp only [cb,hz,go_sem]
  obtain ⟨n,es,ev,ys,gs,yv,gv,h1,c1,g,p1,⟨re,ry,rg⟩,bd⟩:=k_DrawAnyProof (X:=X) hc (by omega)
  have hn:n≤9:=by have:=g.1;omega
  have hel:=gok_len g
  have hell:es.length≤lim:=by unfold lim;omega
  have k1:=k_impl_ProofOk (X:=X) (size:=(n:Int)) re ry rg hell bd;have k2:=k_spec_ProofOk (X:=X) (size:=(n:Int)) re ry rg hell bd
  by_cases P:PfOk (n:Int) es ys gs
  rotate_left
  · have k3:=k_impl_Bound (X:=X) (size:=(n:Int)) re ry rg hell bd
    have hb:boundL (n:Int) es ys gs=0:=if_neg P;rw [hb] at k3;rw [decide_eq_false P] at k1 k2;unfold graphV proofV at *;simp only [cb,hz,c1,k1,k2,k3,go_sem];exact finish_flat rfl p1
  rw [decide_eq_true P] at k1 k2;obtain ⟨w,hw,hf⟩:=bsF_best es [];have hbs:=bsF_all hw;have k4:=k_spec_BestSums (X:=X) (size:=(n:Int)) re hell
  have hG:bestG (n:Int) es=w:=by unfold bestG;rw [if_pos g];exact hbs
  unfold bestGV at k4;rw [hG] at k4;obtain ⟨bl,hbl,hbw⟩:=hw.1;have bx:=sumS_x g hbl;have by_:=sumS_in g hbl;have wd:=weak_dual P hbl;rw [hbw] at bx by_ wd;have hsc:scal w=90000*w.x+300*w.y+w.z:=rfl;have hbd:boundL (n:Int) es ys gs=(weightL ys gs).tdiv 2:=if_pos P
  have hge:¬ (weightL ys gs).tdiv 2 < 90000*w.x+300*w.y+w.z:=by
    rw [Int.tdiv_eq_ediv_of_nonneg (by omega)]
    omega
  obtain ⟨n',es',ev',m',mv',h2,c5,g',p2,oe',om',mk'⟩:=k_DrawRightMatch (X:=X) (hc.up p1) (by omega)
  obtain ⟨h3,mv,yv2,gv2,m,ys2,gs2,c6,p3,om,oy,og,ct⟩:=k_spec_Solve (X:=X) (re.up p2) g hn (by omega)
  have re3:=re.up (p2.trans p3);have ry3:=ry.up (p2.trans p3);have rg3:=rg.up (p2.trans p3);have rm3:=om'.rows.up p3
  have hml:m.length≤1048576:=by have:=mok_len ct.2.1;omega
  have hml':m'.length≤1048576:=by have:=mok_len mk';have:=g'.1;omega
  have k7:=k_impl_Bound (X:=X) (size:=(n:Int)) re3 ry3 rg3 hell bd;have k8:=k_impl_Certifies (X:=X) (size:=(n:Int)) re3 om ry3 rg3 hell hml bd;have k9:=k_spec_Certifies (X:=X) (size:=(n:Int)) re3 om ry3 rg3 hell hml bd;have k10:=k_spec_MatchOk (X:=X) (size:=(n:Int)) re3 rm3 hell hml';have k11:=k_impl_Certifies (X:=X) (size:=(n:Int)) re3 rm3 ry3 rg3 hell hml' bd;rw [hbd] at k7
  have w1:IntKind.i64.wrap (90000*w.x)=90000*w.x:=w64 (by omega) (by omega)
  have w2:IntKind.i64.wrap (300*w.y)=300*w.y:=w64 (by omega) (by omega)
  have w3:IntKind.i64.wrap (90000*w.x+300*w.y)=90000*w.x+300*w.y:=w64 (by omega) (by omega)
  have w4:IntKind.i64.wrap (90000*w.x+300*w.y+w.z)=90000*w.x+300*w.y+w.z:=w64 (by omega) (by omega)
  have pp:=(p1.trans p2).trans p3
  have hne:∀ b:Bool,(!(b==b))=false:=fun b=>by cases b<;>rfl
  by_cases q:MOk (n:Int) es m'
  · rw [decide_eq_true q] at k10
    by_cases q2:CertOk (n:Int) es m' ys gs
    · rw [decide_eq_true q2] at k11
      have k12:=k_laws_worth (X:=X) (size:=(n:Int)) re3 rm3 hell hml' q;have hwo:worthL es m'=90000*w.x+300*w.y+w.z:=(cert_best q2 hw).1;rw [hwo] at k12;unfold graphV proofV at *;simp only [cb,hz,c1,k1,k2,k4,c5,c6,k7,k8,k9,k10,k11,k12,w1,w2,w3,w4,hge,hne,List.prefix_refl,zeros,fillAt,go_sem];exact finish_flat rfl pp
    · rw [decide_eq_false q2] at k11
      unfold graphV proofV at *;simp only [cb,hz,c1,k1,k2,k4,c5,c6,k7,k8,k9,k10,k11,w1,w2,w3,w4,hge,hne,List.prefix_refl,zeros,fillAt,go_sem];exact finish_flat rfl pp
  · rw [decide_eq_false q] at k10
    unfold graphV proofV at *;simp only [cb,hz,c1,k1,k2,k4,c5,c6,k7,k8,k9,k10,w1,w2,w3,w4,hge,hne,List.prefix_refl,zeros,fillAt,go_sem];exact finish_flat rfl pp
end
def ps_FnProves:List (Bool × List CK):=[(false,[.sl [.int .u8]])]
theorem law_FnProves (h:Heap) (avs:List Value) (ha:All2 (ArgOk h) ps_FnProves avs):C T noX n_laws_FnProves avs h=some (.bool true,h):=by
  obtain ⟨v0,r,rfl,k0,ha⟩:=ha.cons_inv;obtain rfl:=ha.nil_inv;obtain ⟨l,hl⟩:=k0.cell.bytes_inv;exact l_Proves hl
end Go.Proofs.Ytafhipglhnfgnaa.Ab
