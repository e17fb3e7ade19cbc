/- Joined. No conditions. -/
import Derived.Test.YtafhipglhnfgnaaA3
import Derived.IntWalk
set_option linter.unusedSimpArgs false
set_option linter.unusedVariables false
set_option linter.unnecessarySimpa false
set_option maxHeartbeats 4000000
/- Rows: a slice that shows a list of rows. No conditions. -/
namespace Go.Proofs.Ytafhipglhnfgnaa.Ab
open Go.RowKit
section
variable {t:Nat→Value}{loc:Nat→Option (List Value)}{al:Nat→Option (Nat × Nat)}{h h0:za}
theorem zgg {F:Fun}{r:Value × za}{e:Exit}{d n:Nat}{agg:Bool}{cs:List Value}{v:Value}(hF:F.res=[.box d n agg])(he:e=.ret∨e=.normal)(hl:loc d=some cs)(hn:n≤cs.length)(hv:ofCells agg (cs.take n)=some v)(hlive:live v=true)(hf:zp h0 (v,h)=r):zbZ F h0 r e ⟨t,loc,al,h⟩:=by
  refine⟨he.symm,v,?_,hf⟩;rw[hF];simp[Qg,Res.get,hl,hn,hv,hlive]
theorem zgh {F:Fun}{r:Value × za}{e:Exit}{d d':Nat}(hF:F.res=[.slot d,.slot d'])(he:e=.ret∨e=.normal)(hl:live (t d)=true)(hl':live (t d')=true)(hf:zp h0 (.tuple ⟨[t d,t d']⟩,h)=r):zbZ F h0 r e ⟨t,loc,al,h⟩:=by
  refine⟨he.symm,_,?_,hf⟩;rw[hF];simp[Qg,Res.get,hl,hl']
end
structure Rows (h:za)(sz:Nat)(v:Value)(rows:List (List Value)):Prop where
  len:∀r∈rows,r.length=sz
  is:(v=.slice none 0 0∧rows=[])∨∃b off cap blk,v=.slice (some ⟨b,off,none⟩) rows.length cap∧h[b]?=some blk∧blk.sz=sz∧off+cap*sz=blk.cells.length∧rows.length≤cap∧(blk.cells.drop off).take (rows.length*sz)=rows.flatten
def zz (v:Value)(sz i off:Nat):Value:=match v with
  | .slice (some ⟨b,o,none⟩) _ cap=>.pointer (some ⟨b,o+i*sz+off,some (o+cap*sz)⟩)
  | _=>.pointer none
section
variable {h h':za}{sz:Nat}{v:Value}{rows:List (List Value)}
theorem Rows.up (r:Rows h sz v rows)(hp:h <+: h'):Rows h' sz v rows:=by
  refine⟨r.len,?_⟩;rcases r.is with hn | ⟨b,off,cap,blk,h1,h2,h3⟩
  · exact .inl hn
  · exact .inr ⟨b,off,cap,blk,h1,WD hp h2,h3⟩
theorem Rows.nil:Rows h sz (.slice none 0 0) []:=⟨fun _ h=>(by cases h),.inl ⟨rfl,rfl⟩⟩
theorem Rows.ln (r:Rows h sz v rows):lnV h v=some (.int .i64 rows.length):=by
  rcases r.is with⟨rfl,rfl⟩ | ⟨b,off,cap,blk,rfl,h2,h3,h4,h5,_⟩
  · rfl
  · simp only[lnV,h2]
    subst h3;rw[if_pos h4]
theorem Zu (hl:∀r∈rows,r.length=sz):rows.flatten.length=rows.length*sz:=by
  induction rows with
  | nil=>simp
  | cons r rows ih =>
    rw[List.flatten_cons,List.length_append,hl r List.mem_cons_self,ih fun q hq=>hl q (List.mem_cons_of_mem _ hq),List.length_cons,Nat.add_mul]
    omega
theorem BR (hl:∀r∈rows,r.length=sz):∀ {i:Nat} (hi:i<rows.length),(rows.flatten.drop (i*sz)).take sz=rows[i]:=by
  induction rows with
  | nil=>intro i hi;simp at hi
  | cons r rows ih =>
    intro i hi;have h1:=hl r List.mem_cons_self
    cases i with
    | zero=>simp[h1]
    | succ i =>
      have e:(i+1)*sz=i*sz+sz:=by rw[Nat.add_mul,Nat.one_mul]
      rw[List.flatten_cons,e,List.drop_append,h1,Nat.add_sub_cancel,List.drop_of_length_le (by omega),List.nil_append]
      exact ih (fun q hq=>hl q (List.mem_cons_of_mem _ hq)) (by simpa using hi)
theorem Rows.ia (r:Rows h sz v rows){k:IntKind}{i:Int}(h0:0≤i)(hi:i<(rows.length:Int)):iaV h sz v (.int k i)=some (zz v sz i.toNat 0):=by
  rcases r.is with⟨rfl,rfl⟩ | ⟨b,off,cap,blk,rfl,h2,h3,h4,h5,_⟩
  · simp at hi;omega
  · simp only[iaV,h2,zz]
    rw[if_pos ⟨h0,hi,h3,h4⟩,h4];rfl
theorem Rows.ld (r:Rows h sz v rows){i off n:Nat}(hi:i<rows.length)(hn:off+n≤sz):ldC h (zz v sz i off) n=some ((rows[i].drop off).take n):=by
  rcases r.is with⟨rfl,rfl⟩ | ⟨b,o,cap,blk,rfl,h2,h3,h4,h5,h6⟩
  · simp at hi
  · have hm:i*sz+sz≤rows.length*sz:=by
      have:=Nat.mul_le_mul_right sz (show i+1≤rows.length by omega)
      rw[Nat.add_mul] at this;omega
    have hm2:rows.length*sz≤cap*sz:=Nat.mul_le_mul_right sz h5;simp only[ldC,h2,zz]
    rw[if_pos ⟨h4,by omega⟩,←BR r.len hi,←h6]
    congr 1
    rw[List.drop_take,List.take_take,List.drop_drop,List.drop_take,List.take_take,List.drop_drop]
    rw[show min (min n (sz-off)) (rows.length*sz-(i*sz+off))=n by omega]
    congr 2
    omega
theorem Cg {i off k:Nat}(r:Rows h sz v rows)(hi:i<rows.length):faV h (zz v sz i off) k=some (zz v sz i (off+k)):=by
  rcases r.is with⟨rfl,rfl⟩ | ⟨b,o,cap,blk,rfl,h2,h3,h4,h5,h6⟩
  · simp at hi
  · simp only[faV,h2,zz]
    rw[if_pos h4];simp only[Nat.add_assoc]
theorem Rows.row (r:Rows h sz v rows):xi h sz v=some rows.flatten:=by
  rcases r.is with⟨rfl,rfl⟩ | ⟨b,o,cap,blk,rfl,h2,h3,h4,h5,h6⟩
  · rfl
  · simp only[xi,h2]
    rw[if_pos ⟨h3,h4⟩,h6]
theorem Rows.made (hl:∀r∈rows,r.length=sz){ty:TypeId}:Rows (h++[⟨rows.flatten,sz,ty,true⟩]) sz (.slice (some ⟨h.length,0,none⟩) rows.length rows.length) rows:=by
  refine⟨hl,.inr ⟨h.length,0,rows.length,⟨rows.flatten,sz,ty,true⟩,rfl,by simp,rfl,by simp[Zu hl],Nat.le_refl _,?_⟩⟩
  rw[←Zu hl,List.drop_zero];exact List.take_length
end
def I64 (n:Int):Prop:=-9223372036854775808≤n∧n≤9223372036854775807
def zq (l:List Int):List (List Value):=l.map fun n=>[.int .i64 n]
theorem z9 {l:List Int}:(zq l).length=l.length:=by simp[zq]
theorem bi {l:List Int}:∀r∈zq l,r.length=1:=by
  intro r hr;obtain⟨n,_,rfl⟩:=List.mem_map.1 hr;rfl
theorem bh {l:List Int}{i:Nat}(hi:i<(zq l).length):(zq l)[i]=[.int .i64 (l[i]'(by simpa[zq] using hi))]:=by simp[zq]
section
variable {h:za}{v:Value}{l:List Int}
theorem zI (r:Rows h 1 v (zq l)):lnV h v=some (.int .i64 l.length):=by rw[r.ln,z9]
theorem zhf (r:Rows h 1 v (zq l)){k:IntKind}{i:Int}(h0:0≤i)(hi:i<(l.length:Int)):iaV h 1 v (.int k i)=some (zz v 1 i.toNat 0):=r.ia h0 (by rw[z9];exact hi)
theorem zhg (r:Rows h 1 v (zq l)){i:Nat}(hi:i<l.length):ldC h (zz v 1 i 0) 1=some [.int .i64 l[i]]:=by
  rw[r.ld (by rw[z9];exact hi) (Nat.le_refl _),bh]
  rfl
end
theorem w64 {n:Int}(h1:-9223372036854775808≤n)(h2:n≤9223372036854775807):IntKind.i64.wrap n=n:=by rw[IntKind.wrap_i64];omega
end Go.Proofs.Ytafhipglhnfgnaa.Ab
/- Lists that are made and then filled, row by row; lists that grow at their end. No conditions. -/
namespace Go.Proofs.Ytafhipglhnfgnaa.Ab
open Go.RowKit
theorem Jw {z:List Value}:∀n,(zj z n).length=n*z.length
  | 0=>by simp[zj]
  | n+1=>by simp only[zj,List.length_append,Jw n,Nat.add_mul];omega
def yc (z:List Value)(rows:List (List Value))(n i:Nat):List Value:=(rows.take i).flatten++zj z (n-i)
theorem zd8 {z:List Value}{rows:List (List Value)}{n:Nat}:zj z n=yc z rows n 0:=by simp[yc]
theorem zfN {z:List Value}{rows:List (List Value)}{n:Nat}(hn:rows.length=n):yc z rows n n=rows.flatten:=by
  subst hn;simp[yc,zj]
section
variable {h ext:za}{z:List Value}{rows:List (List Value)}{n sz:Nat}{ty:TypeId}
theorem Bq (hr:∀r∈rows,r.length=sz){i:Nat}(hi:i≤rows.length):(rows.take i).flatten.length=i*sz:=by
  rw[Zu fun r h=>hr r (List.mem_of_mem_take h),List.length_take,Nat.min_eq_left hi]
theorem F7 (hr:∀r∈rows,r.length=sz)(hz:z.length=sz)(hn:rows.length=n){i:Nat}(hi:i≤n):(yc z rows n i).length=n*sz:=by
  unfold yc
  rw[List.length_append,Bq hr (by omega),Jw,hz,←Nat.add_mul]
  congr 1
  omega
theorem FO {b:Blk}:(h++b::ext)[h.length]?=some b:=by simp
theorem dW {b c:Blk}:(h++b::ext).set h.length c=h++c::ext:=by simp
theorem zhd (hr : ∀ r ∈ rows, r.length = sz) (hz : z.length = sz) (hn : rows.length = n) {i : Nat} (hi : i ≤ n) {k : IntKind} {j : Int} (h0 : 0 ≤ j) (hj : j < (n : Int)) :
    iaV (h++⟨yc z rows n i,sz,ty,true⟩::ext) sz (.slice (some ⟨h.length,0,none⟩) n n) (.int k j)=some (zz (.slice (some ⟨h.length,0,none⟩) n n) sz j.toNat 0):=by
  simp only[iaV,FO,zz,F7 hr hz hn hi,Nat.zero_add,Nat.add_zero];simp[h0,hj]
theorem zhe (hr : ∀ r ∈ rows, r.length = sz) (hz : z.length = sz) (hn : rows.length = n) {i : Nat} (hi : i < rows.length) :
    stC (h++⟨yc z rows n i,sz,ty,true⟩::ext) (zz (.slice (some ⟨h.length,0,none⟩) n n) sz i 0) rows[i]=some (h++⟨yc z rows n (i+1),sz,ty,true⟩::ext):=by
  have hl:=F7 (z:=z) hr hz hn (i:=i) (by omega)
  have hri:=hr rows[i] (List.getElem_mem hi)
  have hm:i*sz+sz≤n*sz:=by
    have:=Nat.mul_le_mul_right sz (show i+1≤n by omega)
    rw[Nat.add_mul] at this;omega
  simp only[stC,FO,zz,hl,Nat.zero_add,Nat.add_zero,hri];rw[if_pos ⟨trivial,hm,trivial⟩,dW]
  have ht:=Bq hr (i:=i) (by omega)
  have e:putAt (yc z rows n i) (i*sz) rows[i]=yc z rows n (i+1):=by
    unfold putAt yc
    rw[List.take_append,ht,Nat.sub_self,List.take_of_length_le (by omega),List.take_zero,List.append_nil,List.drop_append,List.drop_of_length_le (by rw[ht,hri];omega),ht,hri,List.nil_append,
      List.take_succ_eq_append_getElem hi,List.flatten_append]
    have e1:n-i=(n-(i+1))+1:=by omega
    rw[e1];simp only[zj,List.flatten_cons,List.flatten_nil,List.append_nil]
    rw[List.drop_append,List.drop_of_length_le (by rw[hz];omega),hz,show i*sz+sz-i*sz-sz=0 by omega,List.nil_append,List.drop_zero]
  rw[e]
end
theorem JR {l:List Int}:(zq l).flatten=l.map fun n=>.int .i64 n:=by
  induction l with
  | nil=>rfl
  | cons a l ih=>simp only[zq,List.map_cons,List.flatten_cons] at ih ⊢;rw[ih];rfl
end Go.Proofs.Ytafhipglhnfgnaa.Ab
/- Rows of what the functions hold: pairs, ZF; an element by its place. No conditions. -/
namespace Go.Proofs.Ytafhipglhnfgnaa.Ab
open Go.RowKit
section
variable {h:za}{v:Value}{α:Type}{f:α→List Value}{l:List α}{sz:Nat}
theorem zhi (hf:∀a,(f a).length=sz):∀r∈l.map f,r.length=sz:=by
  intro r hr;obtain⟨a,_,rfl⟩:=List.mem_map.1 hr;exact hf a
theorem JX {d:α}{i:Nat}(hi:i<l.length):(l.map f)[i]'(by simpa using hi)=f (l.getD i d):=by
  simp[hi]
theorem Rows.el (r : Rows h sz v (l.map f)) (d : α) {i : Nat} (hi : i < l.length) :
    iaV h sz v (.int .i64 (i:Int))=some (zz v sz i 0)∧(∀o k,faV h (zz v sz i o) k=some (zz v sz i (o+k)))∧ldC h (zz v sz i 0) sz=some (f (l.getD i d)):=by
  have hi':i<(l.map f).length:=by simpa using hi
  refine⟨by have:=r.ia (k:=.i64) (i:=(i:Int)) (by omega) (by omega);simpa using this,fun o k=>Cg r hi',?_⟩
  rw[r.ld hi' (Nat.le_of_eq (Nat.zero_add sz)),JX (d:=d) hi,List.drop_zero,List.take_of_length_le]
  have:=r.len (f (l.getD i d)) (by rw[←JX (f:=f) (d:=d) hi];exact List.getElem_mem _)
  omega
theorem Rows.cell (r:Rows h sz v (l.map f))(d:α){i o:Nat}(hi:i<l.length)(ho:o<sz):ldC h (zz v sz i o) 1=some [(f (l.getD i d)).getD o undef]:=by
  have hi':i<(l.map f).length:=by simpa using hi
  have hl:=r.len (f (l.getD i d)) (by rw[←JX (f:=f) (d:=d) hi];exact List.getElem_mem _)
  rw[r.ld hi' (by omega),JX (d:=d) hi]
  have ho':o<(f (l.getD i d)).length:=by omega
  rw[List.drop_eq_getElem_cons ho',List.take_succ_cons,List.take_zero];rw[List.getD_eq_getElem?_getD (l:=f (l.getD i d)),List.getElem?_eq_getElem ho',Option.getD_some]
theorem Rows.lnm (r:Rows h sz v (l.map f)):lnV h v=some (.int .i64 l.length):=by rw[r.ln,List.length_map]
end
structure E where
  a:Int
  b:Int
  w1:Int
  w2:Int
  w3:Int
def e0:E:=⟨0,0,0,0,0⟩
def ZT (e:E):List Value:=[.int .i64 e.a,.int .i64 e.b,.int .i64 e.w1,.int .i64 e.w2,.int .i64 e.w3]
theorem zfy (e:E):(ZT e).length=5:=rfl
abbrev ZF (l:List E):List (List Value):=l.map ZT
theorem ZK {h : za} {v : Value} {l : List E} {i : Nat} (r : Rows h 5 v (ZF l)) (hi : i < l.length) :
    iaV h 5 v (.int .i64 (i:Int))=some (zz v 5 i 0)∧(∀o k,faV h (zz v 5 i o) k=some (zz v 5 i (o+k)))∧ldC h (zz v 5 i 0) 5=some [.int .i64 (l.getD i e0).a,.int .i64 (l.getD i e0).b,.int .i64 (l.getD i e0).w1,.int .i64 (l.getD i e0).w2,.int .i64 (l.getD i e0).w3] ∧
    ldC h (zz v 5 i 0) 1=some [.int .i64 (l.getD i e0).a]∧ldC h (zz v 5 i 1) 1=some [.int .i64 (l.getD i e0).b]∧ldC h (zz v 5 i 2) 1=some [.int .i64 (l.getD i e0).w1]∧ldC h (zz v 5 i 3) 1=some [.int .i64 (l.getD i e0).w2]∧ldC h (zz v 5 i 4) 1=some [.int .i64 (l.getD i e0).w3] :=
  ⟨(r.el e0 hi).1,(r.el e0 hi).2.1,(r.el e0 hi).2.2,r.cell e0 hi (by omega),r.cell e0 hi (by omega),r.cell e0 hi (by omega),r.cell e0 hi (by omega),r.cell e0 hi (by omega)⟩
structure Cp where
  a:Int
  b:Int
deriving DecidableEq
def c0:Cp:=⟨0,0⟩
def cpR (e:Cp):List Value:=[.int .i64 e.a,.int .i64 e.b]
theorem zhc (e:Cp):(cpR e).length=2:=rfl
abbrev cps (l:List Cp):List (List Value):=l.map cpR
theorem YG {h : za} {v : Value} {l : List Cp} {i : Nat} (r : Rows h 2 v (cps l)) (hi : i < l.length) :
    iaV h 2 v (.int .i64 (i:Int))=some (zz v 2 i 0)∧(∀o k,faV h (zz v 2 i o) k=some (zz v 2 i (o+k)))∧ldC h (zz v 2 i 0) 2=some [.int .i64 (l.getD i c0).a,.int .i64 (l.getD i c0).b] ∧
    ldC h (zz v 2 i 0) 1=some [.int .i64 (l.getD i c0).a]∧ldC h (zz v 2 i 1) 1=some [.int .i64 (l.getD i c0).b] :=
  ⟨(r.el c0 hi).1,(r.el c0 hi).2.1,(r.el c0 hi).2.2,r.cell c0 hi (by omega),r.cell c0 hi (by omega)⟩
theorem ZU {h : za} {v : Value} {l : List Int} {i : Nat} (r : Rows h 1 v (zq l)) (hi : i < l.length) :
    iaV h 1 v (.int .i64 (i:Int))=some (zz v 1 i 0)∧ldC h (zz v 1 i 0) 1=some [.int .i64 (l.getD i 0)] :=
  ⟨(Rows.el (f:=fun n=>[Value.int .i64 n]) r 0 hi).1,(Rows.el (f:=fun n=>[Value.int .i64 n]) r 0 hi).2.2⟩
end Go.Proofs.Ytafhipglhnfgnaa.Ab
/- Lists that are appended to, from nothing on; yi of bytes. No conditions. -/
namespace Go.Proofs.Ytafhipglhnfgnaa.Ab
open Go.RowKit
structure Acc (h:za)(sz:Nat)(ty:TypeId)(v:Value)(rows:List (List Value))(hh:za):Prop where
  len:∀r∈rows,r.length=sz
  is:(v=.slice none 0 0∧rows=[]∧hh=h)∨(v=.slice (some ⟨h.length,0,none⟩) rows.length rows.length∧hh=h++[⟨rows.flatten,sz,ty,true⟩])
section
variable {h hh:za}{sz:Nat}{ty:TypeId}{v:Value}{rws:List (List Value)}
theorem Acc.nil:Acc h sz ty (.slice none 0 0) [] h:=⟨fun _ h=>(by cases h),.inl ⟨rfl,rfl,rfl⟩⟩
theorem Acc.new:Acc h sz ty (.slice (some ⟨h.length,0,none⟩) 0 0) [] (h++[⟨[],sz,ty,true⟩]):=⟨fun _ h=>(by cases h),.inr ⟨rfl,rfl⟩⟩
theorem Acc.made (hl:∀r∈rws,r.length=sz):Acc h sz ty (.slice (some ⟨h.length,0,none⟩) rws.length rws.length) rws (h++[⟨rws.flatten,sz,ty,true⟩]):=⟨hl,.inr ⟨rfl,rfl⟩⟩
theorem Acc.rows (a:Acc h sz ty v rws hh):Rows hh sz v rws:=by
  rcases a.is with⟨rfl,rfl,rfl⟩ | ⟨rfl,rfl⟩
  · exact Rows.nil
  · exact Rows.made a.len
theorem Acc.up (a:Acc h sz ty v rws hh):h <+: hh:=by
  rcases a.is with⟨_,_,rfl⟩ | ⟨_,rfl⟩
  · exact List.prefix_refl _
  · exact List.prefix_append _ _
theorem Acc.push (a : Acc h sz ty v rws hh) (new : List (List Value)) (hn : ∀ r ∈ new, r.length = sz) (h1 : new ≠ []) (hl : rws.length + new.length ≤ lim) :
    ∃v' hh',qS hh sz ty new.length v (some new.flatten)=some (v',hh')∧Acc h sz ty v' (rws++new) hh':=by
  have hf:=Zu hn
  have h0:¬new.length=0:=fun e=>h1 (List.length_eq_zero_iff.1 e)
  have hall:∀r∈rws++new,r.length=sz:=fun r hr=>by
    rcases List.mem_append.1 hr with hr | hr
    · exact a.len r hr
    · exact hn r hr
  rcases a.is with⟨rfl,rfl,rfl⟩ | ⟨rfl,rfl⟩
  · refine⟨.slice (some ⟨hh.length,0,none⟩) new.length new.length,hh++[⟨new.flatten,sz,ty,true⟩],?_,hall,.inr ⟨rfl,rfl⟩⟩
    simp only[qS,Jx]
    rw[if_pos hf,if_neg h0,if_pos (by simpa using hl)]
  · refine⟨.slice (some ⟨h.length,0,none⟩) (rws++new).length (rws++new).length,h++[⟨(rws++new).flatten,sz,ty,true⟩],?_,hall,.inr ⟨rfl,rfl⟩⟩
    have hr:=Zu a.len;simp only[qS,Jx,List.getElem?_append_right (Nat.le_refl _),Nat.sub_self,List.getElem?_cons_zero,List.length_append]
    rw[if_pos hf,if_pos (by rw[hr];omega),if_neg h0,if_pos ⟨trivial,trivial,trivial,trivial,trivial,hl⟩]
    rw[List.flatten_append,List.set_append_right _ _ (Nat.le_refl _),Nat.sub_self];rfl
theorem Acc.push1 (a : Acc h sz ty v rws hh) (cs : List Value) (hc : cs.length = sz) (hl : rws.length < lim) :
    ∃v' hh',qS hh sz ty 1 v (some cs)=some (v',hh')∧Acc h sz ty v' (rws++[cs]) hh':=by
  obtain⟨v',hh',h1,h2⟩:=a.push [cs] (fun r hr=>by rw[List.mem_singleton.1 hr];exact hc) (by simp) (by simp;omega)
  rw[List.flatten_cons,List.flatten_nil,List.append_nil] at h1;exact⟨v',hh',h1,h2⟩
end
def bys (l:List Int):List (List Value):=l.map fun n=>[.int .u8 n]
theorem bg:∀l:List Int,jJ (l.map fun n=>.int .u8 n)=some l
  | []=>rfl
  | n::l=>by simp only[List.map_cons,jJ,BU,bg l]
theorem DX {l:List Int}:(bys l).flatten=l.map fun n=>.int .u8 n:=by
  induction l with
  | nil=>rfl
  | cons a l ih=>simp only[bys,List.map_cons,List.flatten_cons] at ih ⊢;rw[ih];rfl
theorem V3 {l:List Int}:(bys l).length=l.length:=by simp[bys]
theorem Rows.str {h:za}{v:Value}{l:List Int}(r:Rows h 1 v (bys l)):XB h v=some (.string (strOfNums l)):=by
  simp only[XB,r.row,DX,bg,Option.map_some]
theorem wu8 {n:Int}(h1:0≤n)(h2:n≤255):IntKind.u8.wrap n=n:=by rw[IntKind.wrap_u8];omega
theorem zh3 (m k:Nat):(m:Int).tmod (k:Int)=((m%k:Nat):Int):=rfl
theorem zh2 (m k:Nat):(m:Int).tdiv (k:Int)=((m / k:Nat):Int):=rfl
theorem wL (m:Nat):(m:Int).tmod 128=((m%128:Nat):Int):=rfl
theorem CV (m:Nat):(m:Int).tdiv 128=((m / 128:Nat):Int):=rfl
theorem zhl {t:Nat→Value}{i:Nat}{x:Opd}{l:List (Nat × Opd)}:prs t ((i,x)::l)=(i,ov t x)::prs t l:=rfl
theorem cX {z:List Value}:zj z 0=[]:=rfl
theorem cW {z:List Value}{n:Nat}:zj z (n+1)=z++zj z n:=rfl
theorem BQ {sz:Nat}{cs:List Value}:zi sz cs []=some cs:=rfl
theorem F1 {sz i : Nat} {cs : List Value} {v : Value} {l : List (Nat × Value)} : zi sz cs ((i, v) :: l) = match cellsOf v with
    | some vs=>if vs.length=sz∧i*sz+sz≤cs.length then zi sz (putAt cs (i*sz) vs) l else none
    | none=>none:=rfl
theorem F6 {cs:List Value}:Qp cs []=some cs:=rfl
theorem fT {n off : Nat} {cs : List Value} {v : Value} {l : List (Nat × Nat × Value)} : Qp cs ((off, n, v) :: l) = match cellsOf v with
    | some vs=>if vs.length=n∧off+n≤cs.length then Qp (putAt cs off vs) l else none
    | none=>none:=rfl
attribute [go_sem] List.getElem?_cons_zero List.getElem?_cons_succ cX cW BQ F1 F6 fT
end Go.Proofs.Ytafhipglhnfgnaa.Ab
/- Slices of one's own, in blocks between two places: what they show, how they are written and grow; what leaves the rest alone. No conditions. -/
namespace Go.Proofs.Ytafhipglhnfgnaa.Ab
open Go.RowKit
structure Own (h:za)(lo hi sz:Nat)(ty:TypeId)(v:Value)(rows:List (List Value)):Prop where
  len:∀r∈rows,r.length=sz
  is:(v=.slice none 0 0∧rows=[])∨∃b,lo≤b∧b<hi∧v=.slice (some ⟨b,0,none⟩) rows.length rows.length∧h[b]?=some ⟨rows.flatten,sz,ty,true⟩
structure Qq (lo hi:Nat)(h h':za):Prop where
  len:h'.length=h.length
  blk:∀b,b<lo∨hi≤b→h'[b]?=h[b]?
theorem QM {h0 h:za}(hl:h0.length≤h.length)(hb:∀b,b<h0.length→h[b]?=h0[b]?):h0 <+: h:=by
  rw[List.prefix_iff_eq_take];apply List.ext_getElem?
  intro i;rw[List.getElem?_take];split
  · rename_i hi;exact (hb i hi).symm
  · rename_i hi;rw[List.getElem?_eq_none (by omega)]
theorem ZE {h0 h:za}(hp:h0 <+: h){b:Nat}(hb:b<h0.length):h[b]?=h0[b]?:=by
  obtain⟨e,rfl⟩:=hp;rw[List.getElem?_append_left hb]
theorem zy {h0 h:za}(hp:h0 <+: h):h0.length≤h.length:=hp.length_le
section
variable {h h' h'' h0:za}{lo hi lo' hi' sz:Nat}{ty:TypeId}{v:Value}{rws:List (List Value)}
theorem Qq.refl:Qq lo hi h h:=⟨rfl,fun _ _=>rfl⟩
theorem Qq.trans (a:Qq lo hi h h')(b:Qq lo hi h' h''):Qq lo hi h h'':=⟨b.len.trans a.len,fun x hx=>(b.blk x hx).trans (a.blk x hx)⟩
theorem Qq.wide (a:Qq lo hi h h')(h1:lo'≤lo)(h2:hi≤hi'):Qq lo' hi' h h':=⟨a.len,fun b hb=>a.blk b (by omega)⟩
theorem Qq.pre (a:Qq lo hi h h')(hp:h0 <+: h)(hl:h0.length≤lo):h0 <+: h' :=
  QM (by rw[a.len];exact zy hp) fun b hb=>by rw[a.blk b (.inl (by omega)),ZE hp hb]
theorem Own.rows (o:Own h lo hi sz ty v rws):Rows h sz v rws:=by
  refine⟨o.len,?_⟩;rcases o.is with hn | ⟨b,_,_,h1,h2⟩
  · exact .inl hn
  · refine .inr ⟨b,0,rws.length,_,h1,h2,rfl,by simp[Zu o.len],Nat.le_refl _,?_⟩
    rw[←Zu o.len,List.drop_zero];exact List.take_length
theorem Own.up (o:Own h lo hi sz ty v rws)(hp:h <+: h'):Own h' lo hi sz ty v rws:=by
  refine⟨o.len,?_⟩;rcases o.is with hn | ⟨b,l1,l2,h1,h2⟩
  · exact .inl hn
  · exact .inr ⟨b,l1,l2,h1,WD hp h2⟩
theorem Own.wide (o:Own h lo hi sz ty v rws)(h1:lo'≤lo)(h2:hi≤hi'):Own h lo' hi' sz ty v rws:=by
  refine⟨o.len,?_⟩;rcases o.is with hn | ⟨b,l1,l2,h3⟩
  · exact .inl hn
  · exact .inr ⟨b,by omega,by omega,h3⟩
theorem Own.same (o:Own h lo hi sz ty v rws)(a:Qq lo' hi' h h')(hd:hi≤lo'∨hi'≤lo):Own h' lo hi sz ty v rws:=by
  refine⟨o.len,?_⟩;rcases o.is with hn | ⟨b,l1,l2,h1,h2⟩
  · exact .inl hn
  · exact .inr ⟨b,l1,l2,h1,by rw[a.blk b (by omega)];exact h2⟩
theorem Own.nil:Own h lo hi sz ty (.slice none 0 0) []:=⟨fun _ h=>(by cases h),.inl ⟨rfl,rfl⟩⟩
theorem Own.made (hl:∀r∈rws,r.length=sz):Own (h++[⟨rws.flatten,sz,ty,true⟩]) h.length (h.length+1) sz ty (.slice (some ⟨h.length,0,none⟩) rws.length rws.length) rws :=
  ⟨hl,.inr ⟨h.length,Nat.le_refl _,Nat.lt_succ_self _,rfl,by simp⟩⟩
theorem Acc.own (a:Acc h sz ty v rws h'):Own h' h.length h'.length sz ty v rws:=by
  refine⟨a.len,?_⟩;rcases a.is with⟨rfl,rfl,rfl⟩ | ⟨rfl,rfl⟩
  · exact .inl ⟨rfl,rfl⟩
  · exact .inr ⟨h.length,Nat.le_refl _,by simp,rfl,by simp⟩
theorem cG (hl : ∀ r ∈ rws, r.length = sz) : ∀ {i : Nat} (hi : i < rws.length) {k : Nat} {vs : List Value}, k + vs.length ≤ sz →
    putAt rws.flatten (i*sz+k) vs=(rws.set i (putAt rws[i] k vs)).flatten:=by
  induction rws with
  | nil=>intro i hi;simp at hi
  | cons r rws ih =>
    intro i hi k vs hk;have h1:=hl r List.mem_cons_self
    cases i with
    | zero =>
      simp only[List.flatten_cons,List.set_cons_zero,List.getElem_cons_zero,putAt,Nat.zero_mul,Nat.zero_add]
      rw[List.take_append,List.drop_append,show k-r.length=0 by omega,show k+vs.length-r.length=0 by omega]
      simp
    | succ i =>
      have e:(i+1)*sz=sz+i*sz:=by rw[Nat.add_mul];omega
      have ih':=ih (fun q hq=>hl q (List.mem_cons_of_mem _ hq)) (i:=i) (by simpa using hi) hk
      simp only[List.flatten_cons,List.set_cons_succ,List.getElem_cons_succ];rw[←ih'];unfold putAt
      rw[e,List.take_append,List.drop_append,List.take_of_length_le (by omega),List.drop_of_length_le (by omega),h1,
        show sz+i*sz+k-sz=i*sz+k by omega,show sz+i*sz+k+vs.length-sz=i*sz+k+vs.length by omega]
      simp
theorem dR {cs vs:List Value}{k:Nat}(hk:k+vs.length≤cs.length):(putAt cs k vs).length=cs.length:=by
  unfold putAt;simp only[List.length_append,List.length_take,List.length_drop];omega
theorem Bi {i:Nat}{r:List Value}(hl:∀r∈rws,r.length=sz)(hr:r.length=sz):∀q∈rws.set i r,q.length=sz:=by
  intro q hq;rcases List.mem_or_eq_of_mem_set hq with hq | rfl
  · exact hl q hq
  · exact hr
theorem Own.st (o : Own h lo hi sz ty v rws) {i : Nat} (hi' : i < rws.length) {k : Nat} {vs : List Value} (hk : k + vs.length ≤ sz) :
    ∃h',stC h (zz v sz i k) vs=some h'∧Qq lo hi h h'∧Own h' lo hi sz ty v (rws.set i (putAt rws[i] k vs)):=by
  have hr:(putAt rws[i] k vs).length=sz:=by
    have:=o.len _ (List.getElem_mem hi')
    rw[dR (by omega),this]
  rcases o.is with⟨rfl,rfl⟩ | ⟨b,l1,l2,rfl,h2⟩
  · simp at hi'
  · have hb:=zG h2
    have hm:i*sz+sz≤rws.length*sz:=by
      have:=Nat.mul_le_mul_right sz (show i+1≤rws.length by omega)
      rw[Nat.add_mul] at this;omega
    have hfl:=Zu o.len
    refine⟨h.set b ⟨(rws.set i (putAt rws[i] k vs)).flatten,sz,ty,true⟩,?_,⟨by simp,fun b' hb'=>?_⟩,Bi o.len hr,.inr ⟨b,l1,l2,by simp,by rw[List.getElem?_set_self hb]⟩⟩
    · simp only[stC,h2,zz,Nat.zero_add]
      rw[if_pos ⟨hfl.symm,by omega,trivial⟩,cG o.len hi' hk]
    · rw[List.getElem?_set_ne (by omega)]
theorem Own.push (o : Own h lo hi sz ty v rws) (hlo : lo ≤ h.length) (new : List (List Value)) (hn : ∀ r ∈ new, r.length = sz) (h1 : new ≠ []) (hl : rws.length + new.length ≤ lim) :
    ∃v' h',qS h sz ty new.length v (some new.flatten)=some (v',h')∧h.length≤h'.length∧(∀b,b<lo∨(hi≤b∧b<h.length)→h'[b]?=h[b]?)∧Own h' lo (max hi h'.length) sz ty v' (rws++new):=by
  have hf:=Zu hn
  have h0:¬new.length=0:=fun e=>h1 (List.length_eq_zero_iff.1 e)
  have hall:∀r∈rws++new,r.length=sz:=fun r hr=>by
    rcases List.mem_append.1 hr with hr | hr
    · exact o.len r hr
    · exact hn r hr
  rcases o.is with⟨rfl,rfl⟩ | ⟨b,l1,l2,rfl,h2⟩
  · refine⟨.slice (some ⟨h.length,0,none⟩) new.length new.length,h++[⟨new.flatten,sz,ty,true⟩],?_,by simp,fun b hb=>?_,hall,.inr ⟨h.length,hlo,by simp;omega,rfl,by simp⟩⟩
    · simp only[qS,Jx]
      rw[if_pos hf,if_neg h0,if_pos (by simpa using hl)]
    · rw[List.getElem?_append_left (by omega)]
  · have hb:=zG h2
    have hr:=Zu o.len
    refine⟨.slice (some ⟨b,0,none⟩) (rws++new).length (rws++new).length,h.set b ⟨(rws++new).flatten,sz,ty,true⟩,?_,by simp,fun b' hb'=>?_,hall,.inr ⟨b,l1,by simp;omega,rfl,by rw[List.getElem?_set_self hb]⟩⟩
    · simp only[qS,Jx,h2,List.length_append]
      rw[if_pos hf,if_pos (by rw[hr];omega),if_neg h0,if_pos ⟨trivial,trivial,trivial,trivial,trivial,hl⟩]
      rw[List.flatten_append]
    · rw[List.getElem?_set_ne (by omega)]
theorem Own.push1 (o : Own h lo hi sz ty v rws) (hlo : lo ≤ h.length) (cs : List Value) (hc : cs.length = sz) (hl : rws.length < lim) :
    ∃v' h',qS h sz ty 1 v (some cs)=some (v',h')∧h.length≤h'.length∧(∀b,b<lo∨(hi≤b∧b<h.length)→h'[b]?=h[b]?)∧Own h' lo (max hi h'.length) sz ty v' (rws++[cs]):=by
  obtain⟨v',hh',h1,h2⟩:=o.push hlo [cs] (fun r hr=>by rw[List.mem_singleton.1 hr];exact hc) (by simp) (by simp;omega)
  rw[List.flatten_cons,List.flatten_nil,List.append_nil] at h1;exact⟨v',hh',h1,h2⟩
theorem Own.app (o : Own h lo hi sz ty v rws) (hlo : lo ≤ h.length) {x : Value} {new : List (List Value)} (hx : Rows h sz x new) (hl : rws.length + new.length ≤ lim) :
    ∃v' h',fD h sz ty v x=some (v',h')∧h.length≤h'.length∧(∀b,b<lo∨(hi≤b∧b<h.length)→h'[b]?=h[b]?)∧Own h' lo (max hi h'.length) sz ty v' (rws++new):=by
  have hx':=hx.row
  have e:∃a n c,x=.slice a n c∧n=new.length:=by
    rcases hx.is with⟨rfl,rfl⟩ | ⟨b,off,cap,blk,rfl,_⟩
    · exact⟨_,_,_,rfl,rfl⟩
    · exact⟨_,_,_,rfl,rfl⟩
  obtain⟨a,n,c,rfl,rfl⟩:=e
  by_cases h1:new=[]
  · subst h1
    refine⟨v,h,?_,Nat.le_refl _,fun _ _=>rfl,by rw[List.append_nil];exact o.wide (Nat.le_refl _) (Nat.le_max_left _ _)⟩
    simp only[fD,hx',Option.bind_some,Jx];rcases o.is with⟨rfl,rfl⟩ | ⟨b,l1,l2,rfl,h2⟩
    · simp
    · simp only[h2]
      rw[if_pos (by simp[Zu o.len])]
      simp
  · obtain⟨v',h',h2,h3⟩:=o.push hlo new hx.len h1 hl
    refine⟨v',h',?_,h3⟩;simp only[fD,hx',Option.bind_some];simp only[qS] at h2;rw[if_pos (Zu hx.len)] at h2;exact h2
theorem QY (hp:h0 <+: h)(hl:h0.length≤lo)(hg:h.length≤h'.length)(hb:∀b,b<lo∨(hi≤b∧b<h.length)→h'[b]?=h[b]?):h0 <+: h' :=
  QM (Nat.le_trans (zy hp) hg) fun b hb'=>by rw[hb b (.inl (by omega)),ZE hp hb']
end
section
variable {h hh h2:za}{lo hi sz:Nat}{ty:TypeId}{v:Value}{rws:List (List Value)}
theorem Own.cells (o:Own h lo hi sz ty v rws):cellsOf v=some [v]:=by
  rcases o.is with⟨rfl,_⟩ | ⟨b,_,_,rfl,_⟩<;>rfl
theorem Rows.cells (o:Rows h sz v rws):cellsOf v=some [v]:=by
  rcases o.is with⟨rfl,_⟩ | ⟨b,off,cap,blk,rfl,_⟩<;>rfl
theorem Own.live (o:Own h lo hi sz ty v rws):live v=true:=by
  rcases o.is with⟨rfl,_⟩ | ⟨b,_,_,rfl,_⟩<;>rfl
theorem Own.flat (o:Own h lo hi sz ty v rws)(hf:yD v=true):Own h2 lo hi sz ty v rws:=by
  rcases o.is with⟨rfl,rfl⟩ | ⟨b,_,_,rfl,_⟩
  · exact Own.nil
  · cases hf
theorem Own.fin (hp:h <+: hh)(o:Own hh h.length hh.length sz ty v rws):h <+: (zp h (v,hh)).2∧Own (zp h (v,hh)).2 h.length (zp h (v,hh)).2.length sz ty (zp h (v,hh)).1 rws:=by
  obtain⟨h3,e,p3,hc⟩:=vl (v:=v) hp;rw[e];rcases hc with rfl | ⟨hf,rfl⟩
  · exact⟨hp,o⟩
  · refine⟨p3,?_⟩
    rcases o.is with⟨rfl,rfl⟩ | ⟨b,_,_,rfl,_⟩
    · exact Own.nil
    · cases hf
end
def zh0 (r:Option (Value × za))(h:za)(sz:Nat)(ty:TypeId)(rows:List (List Value)):Prop :=
  ∃v hh,r=some (v,hh)∧h <+: hh∧Own hh h.length hh.length sz ty v rows
end Go.Proofs.Ytafhipglhnfgnaa.Ab
/- Rows of yi, pairs, zhz; marks; writing a row part by part. No conditions. -/
namespace Go.Proofs.Ytafhipglhnfgnaa.Ab
open Go.RowKit
abbrev noT:ByteArray:=⟨⟨[]⟩⟩
def txR (s:ByteArray):List Value:=[.string s]
theorem zhn (s:ByteArray):(txR s).length=1:=rfl
abbrev yi (l:List ByteArray):List (List Value):=l.map txR
def zfU (n:Int):List Value:=[.int .i64 n]
theorem zfV (n:Int):(zfU n).length=1:=rfl
theorem zfW {l:List Int}:zq l=l.map zfU:=rfl
structure Pr where
  k:ByteArray
  v:ByteArray
deriving DecidableEq
def p0:Pr:=⟨noT,noT⟩
def prR (p:Pr):List Value:=[.string p.k,.string p.v]
theorem zhk (p:Pr):(prR p).length=2:=rfl
abbrev zh5 (l:List Pr):List (List Value):=l.map prR
structure Aq where
  op:Int
  a:Int
  b:Int
  w1:Int
  w2:Int
  w3:Int
def a0:Aq:=⟨0,0,0,0,0,0⟩
def aqR (x:Aq):List Value:=[.int .i64 x.op,.int .i64 x.a,.int .i64 x.b,.int .i64 x.w1,.int .i64 x.w2,.int .i64 x.w3]
theorem zhb (x:Aq):(aqR x).length=6:=rfl
abbrev zhz (l:List Aq):List (List Value):=l.map aqR
theorem zhI {h:za}{sz:Nat}{ty:TypeId}{z:List Value}{n:Nat}(hn:n≤lim):mkW h sz ty z (.int .i64 (n:Int))=some (.slice (some ⟨h.length,0,none⟩) n n,h++[⟨zj z n,sz,ty,true⟩]):=by
  simp only[mkW]
  rw[if_pos ⟨by omega,by exact_mod_cast hn⟩,Int.toNat_natCast]
def Fi (row:Nat→List Value)(k F n:Nat):List (List Value):=(List.range n).map fun i=>row (k+i*F)
theorem zen {row:Nat→List Value}{k F n:Nat}:(Fi row k F n).length=n:=by simp[Fi]
theorem cI {n i:Nat}(hi:i<n):(List.range n).getD i 0=i:=by simp[hi]
section
variable {h h' h0:za}{lo hi sz:Nat}{ty:TypeId}{v:Value}{rws:List (List Value)}
theorem Own.el (o:Own h lo hi sz ty v rws){i:Nat}(hi':i<rws.length):iaV h sz v (.int .i64 (i:Int))=some (zz v sz i 0)∧∀o k,faV h (zz v sz i o) k=some (zz v sz i (o+k)) :=
  ⟨by have:=o.rows.ia (k:=.i64) (i:=(i:Int)) (by omega) (by omega);simpa using this,fun _ _=>Cg o.rows hi'⟩
theorem Own.ln (o:Own h lo hi sz ty v rws):lnV h v=some (.int .i64 rws.length):=o.rows.ln
theorem zbb {i:Nat}{r:List Value}(hi':i<rws.length)(h':i<(rws.set i r).length):(rws.set i r)[i]=r:=by simp
theorem Own.st2 {i : Nat} {r : List Value} (o : Own h lo hi sz ty v (rws.set i r)) (hi' : i < rws.length) {k : Nat} {vs : List Value} (hk : k + vs.length ≤ sz) :
    ∃h',stC h (zz v sz i k) vs=some h'∧Qq lo hi h h'∧Own h' lo hi sz ty v (rws.set i (putAt r k vs)):=by
  obtain⟨h',h1,h2,h3⟩:=o.st (i:=i) (by simpa using hi') hk
  rw[zbb hi',List.set_set] at h3;exact⟨h',h1,h2,h3⟩
theorem Own.self {i:Nat}(o:Own h lo hi sz ty v rws)(hi':i<rws.length):Own h lo hi sz ty v (rws.set i rws[i]):=by rw[List.set_getElem_self];exact o
theorem Own.row_len (o:Own h lo hi sz ty v rws){i:Nat}(hi':i<rws.length):rws[i].length=sz:=o.len _ (List.getElem_mem hi')
theorem zhm {rws rws':List (List Value)}(h1:rws.length=rws'.length)(h2:∀j,j<rws.length→rws[j]?=rws'[j]?):rws=rws':=by
  apply List.ext_getElem?
  intro j
  by_cases hj:j<rws.length
  · exact h2 j hj
  · rw[List.getElem?_eq_none (by omega),List.getElem?_eq_none (by omega)]
theorem zem {row:Nat→List Value}{k F n j:Nat}(hj:j<n):(Fi row k F n)[j]?=some (row (k+j*F)):=by simp[Fi,hj]
end
def mkD (n:Nat)(s:ByteArray):ByteArray:=if 0<n then mkD (n / 10) (strOfNums [((48+n%10:Nat):Int)]++s) else s
termination_by n
decreasing_by omega
def zf1:ByteArray:=⟨⟨[109]⟩⟩
def mkT (n:Nat):ByteArray:=if n=0 then ⟨⟨[109,48]⟩⟩ else zf1++mkD n noT
theorem zf3 {s:ByteArray}:mkD 0 s=s:=by unfold mkD;simp
theorem zhj {n:Nat}{s:ByteArray}(h:0<n):mkD n s=mkD (n / 10) (strOfNums [((48+n%10:Nat):Int)]++s):=by rw[mkD,if_pos h]
theorem zf2:∀(k n:Nat) (s:ByteArray),n<10 ^ k→(mkD n s).size≤s.size+k:=by
  intro k
  induction k with
  | zero => intro n s h; have : n = 0 := by simpa using h
            subst this;unfold mkD;simp
  | succ k ih =>
    intro n s h;unfold mkD;split
    · have:=ih (n / 10) (strOfNums [((48+n%10:Nat):Int)]++s) (by rw[Nat.pow_succ] at h;exact Nat.div_lt_of_lt_mul (by omega))
      rw[ByteArray.size_append,strOfNums_size] at this;simp only[List.length_cons,List.length_nil] at this;omega
    · omega
section
variable {h:za}{a:Value}
theorem Rows.sub {rws : List (List Value)} {sz i k : Nat} (r : Rows h sz a rws) (h1 : i ≤ k) (h2 : k ≤ rws.length) (hz : 0 < sz) {lo hi : Option Value} (hlo : bnd 0 lo = some (i : Int)) (hhi : bnd rws.length hi = some (k : Int)) :
    ∃v',kb sz a lo hi h=some v'∧Rows h sz v' ((rws.drop i).take (k-i)):=by
  rcases r.is with⟨rfl,rfl⟩ | ⟨b,off,cap,blk,rfl,g1,g2,g3,g4,g5⟩
  · have e1:k=0:=by simpa using h2
    have e2:i=0:=by omega
    subst e1;subst e2
    have g1:bnd 0 lo=some 0:=by simpa using hlo
    have g2:bnd 0 hi=some 0:=by simpa using hhi
    exact⟨.slice none 0 0,by simp only[kb,g1,g2],by simpa using Rows.nil⟩
  · have hm:i*sz≤k*sz:=Nat.mul_le_mul_right sz h1
    have hm2:k*sz≤rws.length*sz:=Nat.mul_le_mul_right sz h2;have hm3:rws.length*sz≤cap*sz:=Nat.mul_le_mul_right sz g4
    have hlen:((rws.drop i).take (k-i)).length=k-i:=by simp;omega
    refine⟨.slice (some ⟨b,off+i*sz,none⟩) (k-i) (cap-i),?_,fun q hq=>r.len q (List.mem_of_mem_drop (List.mem_of_mem_take hq)),.inr ⟨b,off+i*sz,cap-i,blk,by rw[hlen],g1,g2,?_,by omega,?_⟩⟩
    · simp only[kb,g1,hlo,hhi]
      rw[if_pos ⟨by omega,by omega,by omega,g2,g3⟩]
      rw[show ((k:Int)-(i:Int)).toNat=k-i by omega,Int.toNat_natCast]
    · rw[Nat.sub_mul];omega
    · rw[hlen]
      have e2:(rws.drop i).flatten=(blk.cells.drop (off+i*sz)).take ((rws.length-i)*sz):=by
        have:rws.flatten=(rws.take i).flatten++(rws.drop i).flatten:=by rw[←List.flatten_append,List.take_append_drop]
        rw[←g5] at this
        have hl1:(rws.take i).flatten.length=i*sz:=by rw[Zu fun q hq=>r.len q (List.mem_of_mem_take hq),List.length_take,Nat.min_eq_left (by omega)]
        have h3:((blk.cells.drop off).take (rws.length*sz)).drop (i*sz)=(rws.drop i).flatten:=by rw[this,List.drop_append,hl1,Nat.sub_self,List.drop_of_length_le (by omega)];rfl
        rw[←h3,List.drop_take,List.drop_drop,Nat.sub_mul]
      have e3:((rws.drop i).take (k-i)).flatten=((rws.drop i).flatten).take ((k-i)*sz):=by
        have hl1:((rws.drop i).take (k-i)).flatten.length=(k-i)*sz:=by rw[Zu fun q hq=>r.len q (List.mem_of_mem_drop (List.mem_of_mem_take hq)),hlen]
        conv=>rhs;rw[←List.take_append_drop (k-i) (rws.drop i),List.flatten_append]
        rw[List.take_left' hl1]
      rw[e3,e2,List.take_take,Nat.min_eq_left (Nat.mul_le_mul_right sz (by omega))]
end
end Go.Proofs.Ytafhipglhnfgnaa.Ab
namespace Go.Proofs.Ytafhipglhnfgnaa.Ab
theorem Zj {α:Type}{l:List α}{i:Nat}{d:α}(hi:i<l.length):l.take (i+1)=l.take i++[l.getD i d]:=by
  rw[List.take_succ_eq_append_getElem hi];simp[hi]
theorem zE {α:Type}{l:List α}{i:Nat}{d:α}(hi:i<l.length):l.getD i d∈l:=by
  simp[hi]
theorem Zv {α:Type}{l:List α}{x d:α}(hx:x∈l):∃i,i<l.length∧l.getD i d=x:=by
  obtain⟨i,hi,rfl⟩:=List.getElem_of_mem hx
  exact⟨i,hi,by simp[hi]⟩
theorem zM {P:Nat→Prop}{i:Nat}(h:∀j,j<i→P j)(hi:P i):∀j,j<i+1→P j:=fun j hj=>by
  by_cases e:j=i
  · subst e;exact hi
  · exact h j (by omega)
theorem jP {α:Type}{l:List α}{x d:α}(h:∀j,j<l.length→¬l.getD j d=x):¬x∈l:=fun hm=>by
  obtain⟨i,h1,h2⟩:=Zv (d:=d) hm;exact h i h1 h2
def Qc {α:Type}(p:α→Prop)[DecidablePred p]:List α→Int
  | []=>-1
  | a::l=>if p a then 0 else if Qc p l<0 then -1 else Qc p l+1
section
variable {α:Type}{p:α→Prop}[DecidablePred p]
theorem UL {d:α}:∀ {l:List α},(∀j,j<l.length→¬p (l.getD j d))→Qc p l=-1
  | [],_=>rfl
  | a::l,h=>by
    have h0:=h 0 (by simp)
    have h1:Qc p l=-1:=UL fun j hj=>by have:=h (j+1) (by simpa using hj);simpa using this
    unfold Qc
    rw[if_neg (by simpa using h0),if_pos (by omega)]
theorem Vd {d:α}:∀ {l:List α} {i:Nat},i<l.length→p (l.getD i d)→(∀j,j<i→¬p (l.getD j d))→Qc p l=i
  | [],_,h,_,_=>by simp at h
  | a::l,0,_,hp,_=>by unfold Qc;rw[if_pos (by simpa using hp)];rfl
  | a::l,i+1,h,hp,hn=>by
    have h0:=hn 0 (by omega)
    have h1:Qc p l=i:=Vd (by simpa using h) (by simpa using hp) fun j hj=>by have:=hn (j+1) (by omega);simpa using this
    unfold Qc
    rw[if_neg (by simpa using h0),if_neg (by omega),h1]
    omega
theorem Vx (d:α):∀l:List α,(Qc p l=-1∧∀j,j<l.length→¬p (l.getD j d))∨∃i:Nat,Qc p l=i∧i<l.length∧p (l.getD i d)∧∀j,j<i→¬p (l.getD j d)
  | []=>.inl ⟨rfl,fun j h=>by simp at h⟩
  | a::l=>by
    by_cases ha:p a
    · refine .inr ⟨0,by unfold Qc;rw[if_pos ha];rfl,by simp,by simpa using ha,fun j h=>by omega⟩
    · rcases Vx d l with⟨h1,h2⟩ | ⟨i,h1,h2,h3,h4⟩
      · refine .inl ⟨by unfold Qc;rw[if_neg ha,if_pos (by omega)],fun j hj=>?_⟩
        cases j with
        | zero=>simpa using ha
        | succ j=>simpa using h2 j (by simpa using hj)
      · refine .inr ⟨i+1,by unfold Qc;rw[if_neg ha,if_neg (by omega),h1];omega,by simpa using h2,by simpa using h3,fun j hj=>?_⟩
        cases j with
        | zero=>simpa using ha
        | succ j=>simpa using h4 j (by omega)
end
abbrev Asc (l:List Int):Prop:=l.Pairwise (·<·)
theorem Cc:∀ {l m:List Int},Asc l→Asc m→(∀x,x∈l↔x∈m)→l=m
  | [],[],_,_,_=>rfl
  | [],b::m,_,_,h=>by have:=(h b).2 List.mem_cons_self;cases this
  | a::l,[],_,_,h=>by have:=(h a).1 List.mem_cons_self;cases this
  | a::l,b::m,ha,hb,h=>by
    rw[Asc,List.pairwise_cons] at ha hb
    have e:a=b:=by
      have h1:=(h a).1 List.mem_cons_self;have h2:=(h b).2 List.mem_cons_self;rcases List.mem_cons.1 h1 with h1 | h1
      · exact h1
      rcases List.mem_cons.1 h2 with h2 | h2
      · exact h2.symm
      have:=hb.1 a h1;have:=ha.1 b h2;omega
    subst e
    congr 1
    refine Cc ha.2 hb.2 fun x=>⟨fun hx=>?_,fun hx=>?_⟩
    · rcases List.mem_cons.1 ((h x).1 (List.mem_cons_of_mem _ hx)) with rfl | hm
      · have:=ha.1 x hx;omega
      · exact hm
    · rcases List.mem_cons.1 ((h x).2 (List.mem_cons_of_mem _ hx)) with rfl | hm
      · have:=hb.1 x hx;omega
      · exact hm
end Go.Proofs.Ytafhipglhnfgnaa.Ab
namespace Go.Proofs.Ytafhipglhnfgnaa.Ab
open Go.RowKit
abbrev zh:Value:=.slice none 0 0
def tlo:Value→Nat
  | .slice (some a) _ _=>a.block
  | _=>0
def thi:Value→Nat
  | .slice (some a) _ _=>a.block+1
  | _=>0
def Sep (v w:Value):Prop:=thi v≤tlo w∨thi w≤tlo v
theorem Sep.symm {v w:Value}(h:Sep v w):Sep w v:=Or.symm h
theorem ge {v:Value}:Sep v zh:=.inr (Nat.zero_le _)
section
variable {h h':za}{lo hi lo' hi' sz sz':Nat}{ty ty':TypeId}{v w:Value}{rws rws':List (List Value)}
theorem Own.tight (o:Own h lo hi sz ty v rws):Own h (tlo v) (thi v) sz ty v rws:=by
  refine⟨o.len,?_⟩;rcases o.is with hn | ⟨b,_,_,rfl,h2⟩
  · exact .inl hn
  · exact .inr ⟨b,Nat.le_refl _,Nat.lt_succ_self _,rfl,h2⟩
theorem Own.within (o:Own h lo hi sz ty v rws):v=zh∨(lo≤tlo v∧thi v≤hi∧tlo v<thi v):=by
  rcases o.is with⟨rfl,_⟩ | ⟨b,_,_,rfl,h2⟩
  · exact .inl rfl
  · exact .inr ⟨by assumption,by assumption,Nat.lt_succ_self _⟩
theorem Own.sep (o:Own h lo hi sz ty v rws)(q:Own h' lo' hi' sz' ty' w rws')(hd:hi≤lo'∨hi'≤lo):Sep v w:=by
  rcases o.within with rfl | ⟨h1,h2,_⟩
  · exact ge.symm
  rcases q.within with rfl | ⟨h3,h4,_⟩
  · exact ge
  unfold Sep;omega
theorem Own.apart (o:Own h lo hi sz ty v rws){w:Value}(a:Qq (tlo w) (thi w) h h')(hs:Sep v w):Own h' lo hi sz ty v rws:=by
  have t:=o.tight.same a hs;rcases o.within with rfl | ⟨h1,h2,_⟩
  · refine⟨o.len,.inl ⟨rfl,?_⟩⟩
    rcases o.is with⟨_,e⟩ | ⟨b,_,_,e,_⟩
    · exact e
    · cases e
  · exact t.wide h1 h2
end
theorem UU {h : za} {lo hi sz : Nat} {ty : TypeId} {v : Value} {rws : List (List Value)} (o : Own h lo hi sz ty v rws) (hlo : lo ≤ h.length) (new : List (List Value)) (hn : ∀ r ∈ new, r.length = sz) (h1 : new ≠ []) (hl : rws.length + new.length ≤ lim) :
    ∃v' h',qS h sz ty new.length v (some new.flatten)=some (v',h')∧h.length≤h'.length∧(∀b,b<h.length→(b<tlo v∨thi v≤b)→h'[b]?=h[b]?) ∧
      ((v=zh∧tlo v'=h.length∧thi v'=h.length+1∧h'.length=h.length+1)∨(v≠zh∧h'.length=h.length∧tlo v'=tlo v∧thi v'=thi v))∧Own h' (tlo v') (thi v') sz ty v' (rws++new):=by
  have hf:=Zu hn
  have h0:¬new.length=0:=fun e=>h1 (List.length_eq_zero_iff.1 e)
  have hall:∀r∈rws++new,r.length=sz:=fun r hr=>by
    rcases List.mem_append.1 hr with hr | hr
    · exact o.len r hr
    · exact hn r hr
  rcases o.is with⟨rfl,rfl⟩ | ⟨b,l1,l2,rfl,h2⟩
  · refine⟨.slice (some ⟨h.length,0,none⟩) new.length new.length,h++[⟨new.flatten,sz,ty,true⟩],?_,by simp,fun b hb _=>?_,.inl ⟨rfl,rfl,rfl,by simp⟩,hall,.inr ⟨h.length,Nat.le_refl _,Nat.lt_succ_self _,rfl,by simp⟩⟩
    · simp only[qS,Jx]
      rw[if_pos hf,if_neg h0,if_pos (by simpa using hl)]
    · rw[List.getElem?_append_left hb]
  · have hb:=zG h2
    have hr:=Zu o.len
    refine⟨.slice (some ⟨b,0,none⟩) (rws++new).length (rws++new).length,h.set b ⟨(rws++new).flatten,sz,ty,true⟩,?_,by simp,fun b' _ hb'=>?_,.inr ⟨(fun e=>by cases e),by simp,rfl,rfl⟩,hall,.inr ⟨b,Nat.le_refl _,Nat.lt_succ_self _,rfl,by rw[List.getElem?_set_self hb]⟩⟩
    · simp only[qS,Jx,h2,List.length_append]
      rw[if_pos hf,if_pos (by rw[hr];omega),if_neg h0,if_pos ⟨trivial,trivial,trivial,trivial,trivial,hl⟩]
      rw[List.flatten_append]
    · have:b'≠b:=by simp only[tlo,thi] at hb';omega
      rw[List.getElem?_set_ne (Ne.symm this)]
theorem Own.grow {h : za} {lo hi sz : Nat} {ty : TypeId} {v : Value} {rws : List (List Value)} (o : Own h lo hi sz ty v rws) (hv : v ≠ zh) (new : List (List Value)) (hn : ∀ r ∈ new, r.length = sz) (h1 : new ≠ []) (hl : rws.length + new.length ≤ lim) :
    ∃v' h',qS h sz ty new.length v (some new.flatten)=some (v',h')∧v'≠zh∧Qq lo hi h h'∧Own h' lo hi sz ty v' (rws++new):=by
  have hlo:lo≤h.length:=by
    rcases o.is with⟨rfl,_⟩ | ⟨b,l1,l2,rfl,h2⟩
    · exact absurd rfl hv
    · have:=zG h2;omega
  obtain⟨v',h',e,g,b,c,o'⟩:=UU o hlo new hn h1 hl;rcases c with⟨c,_⟩ | ⟨_,c1,c2,c3⟩
  · exact absurd c hv
  · rcases o.within with w | ⟨w1,w2,w3⟩
    · exact absurd w hv
    refine⟨v',h',e,?_,⟨c1,fun b' hb'=>?_⟩,by rw[c2,c3] at o';exact o'.wide w1 w2⟩
    · rintro rfl
      have:tlo v=thi v:=c2.symm.trans (show tlo zh=thi v from c3)
      omega
    · by_cases hlt:b'<h.length
      · exact b b' hlt (by omega)
      · rw[List.getElem?_eq_none (by omega),List.getElem?_eq_none (by omega)]
def yt (h:za)(v:Value)(ll:List (List Int)):Prop:=∃vs:List Value,vs.length=ll.length∧Rows h 1 v (vs.map fun x=>[x])∧∀i,i<ll.length→Rows h 1 (vs.getD i zh) (zq (ll.getD i []))
structure vV (h:za)(lo hi:Nat)(tyO tyI:TypeId)(v:Value)(ll:List (List Int))(vs:List Value):Prop where
  len:vs.length=ll.length
  out:Own h lo hi 1 tyO v (vs.map fun x=>[x])
  ins:∀i,i<ll.length→Own h lo hi 1 tyI (vs.getD i zh) (zq (ll.getD i []))
  so:∀i,i<ll.length→Sep v (vs.getD i zh)
  si:∀i j,i<j→j<ll.length→Sep (vs.getD i zh) (vs.getD j zh)
def Q5 (h:za)(lo hi:Nat)(tyO tyI:TypeId)(v:Value)(ll:List (List Int)):Prop:=∃vs,vV h lo hi tyO tyI v ll vs
section
variable {h h' h0:za}{lo hi lo' hi':Nat}{tyO tyI:TypeId}{v w:Value}{ll:List (List Int)}{l:List Int}
theorem Q5.rows (o:Q5 h lo hi tyO tyI v ll):yt h v ll:=by
  obtain⟨vs,h1,h2,h3,_,_⟩:=o
  exact⟨vs,h1,h2.rows,fun i hi=>(h3 i hi).rows⟩
theorem Q5.up (o:Q5 h lo hi tyO tyI v ll)(hp:h <+: h'):Q5 h' lo hi tyO tyI v ll:=by
  obtain⟨vs,h1,h2,h3,h4,h5⟩:=o
  exact⟨vs,h1,h2.up hp,fun i hi=>(h3 i hi).up hp,h4,h5⟩
theorem Q5.wide (o:Q5 h lo hi tyO tyI v ll)(k1:lo'≤lo)(k2:hi≤hi'):Q5 h lo' hi' tyO tyI v ll:=by
  obtain⟨vs,h1,h2,h3,h4,h5⟩:=o
  exact⟨vs,h1,h2.wide k1 k2,fun i hi=>(h3 i hi).wide k1 k2,h4,h5⟩
theorem Q5.same (o:Q5 h lo hi tyO tyI v ll)(a:Qq lo' hi' h h')(hd:hi≤lo'∨hi'≤lo):Q5 h' lo hi tyO tyI v ll:=by
  obtain⟨vs,h1,h2,h3,h4,h5⟩:=o
  exact⟨vs,h1,h2.same a hd,fun i hi=>(h3 i hi).same a hd,h4,h5⟩
theorem Q5.nil:Q5 h lo hi tyO tyI zh []:=⟨[],rfl,Own.nil,fun i hi=>(by simp at hi),fun i hi=>(by simp at hi),fun i j _ hi=>(by simp at hi)⟩
theorem Q5.zero (o:Own h lo hi 1 tyO v []):Q5 h lo hi tyO tyI v []:=⟨[],rfl,o,fun i hi=>(by simp at hi),fun i hi=>(by simp at hi),fun i j _ hi=>(by simp at hi)⟩
theorem Q5.live (o:Q5 h lo hi tyO tyI v ll):live v=true:=by
  obtain⟨vs,h1,h2,_,_,_⟩:=o;exact h2.live
theorem Q5.fin (hp:h <+: h')(o:Q5 h' h.length h'.length tyO tyI v ll):h <+: (zp h (v,h')).2∧Q5 (zp h (v,h')).2 h.length (zp h (v,h')).2.length tyO tyI (zp h (v,h')).1 ll:=by
  obtain⟨h3,e,p3,hc⟩:=vl (v:=v) hp;rw[e];rcases hc with rfl | ⟨hf,rfl⟩
  · exact⟨hp,o⟩
  · refine⟨p3,?_⟩
    obtain⟨vs,h1,h2,h4,h5,h6⟩:=o;rcases h2.is with⟨rfl,e2⟩ | ⟨b,_,_,rfl,_⟩
    · have:ll=[]:=by
        have:vs=[]:=by simpa using e2
        subst this;exact List.length_eq_zero_iff.1 h1.symm
      subst this;exact Q5.nil
    · cases hf
theorem yt.up (o:yt h v ll)(hp:h <+: h'):yt h' v ll:=by
  obtain⟨vs,h1,h2,h3⟩:=o
  exact⟨vs,h1,h2.up hp,fun i hi=>(h3 i hi).up hp⟩
theorem yt.ln (o:yt h v ll):lnV h v=some (.int .i64 ll.length):=by
  obtain⟨vs,h1,h2,h3⟩:=o;rw[h2.ln,List.length_map,h1]
theorem yt.el (o:yt h v ll){i:Nat}(hi:i<ll.length):∃x,iaV h 1 v (.int .i64 (i:Int))=some (zz v 1 i 0)∧ldC h (zz v 1 i 0) 1=some [x]∧Rows h 1 x (zq (ll.getD i [])):=by
  obtain⟨vs,h1,h2,h3⟩:=o
  have e:=h2.el (f:=fun x=>[x]) zh (i:=i) (by omega)
  exact⟨vs.getD i zh,e.1,e.2.2,h3 i hi⟩
theorem vV.pushG {lo2 hi2 : Nat} {vs : List Value} (o : vV h lo hi tyO tyI v ll vs) (hlo : lo ≤ h.length) (hhi : hi ≤ h.length) (q : Own h lo2 hi2 1 tyI w (zq l)) (hwsepv : Sep v w) (hws : ∀ i, i < ll.length → Sep (vs.getD i zh) w) (hd2 : hi2 ≤ h.length) (hl : ll.length < lim) :
    ∃v' h',qS h 1 tyO 1 v (some [w])=some (v',h')∧h.length≤h'.length∧(∀b,b<h.length→(b<tlo v∨thi v≤b)→h'[b]?=h[b]?)∧(v≠zh→h'.length=h.length∧tlo v'=tlo v∧thi v'=thi v) ∧
      (v'≠zh∧(v=zh→tlo v'=h.length))∧vV h' (min lo lo2) h'.length tyO tyI v' (ll++[l]) (vs++[w]):=by
  obtain⟨h1,h2,h3,h4,h5⟩:=o
  obtain⟨v',h',e,g,b,c,o'⟩:=UU h2 hlo [[w]] (fun r hr=>by rw[List.mem_singleton.1 hr];rfl) (by simp) (by simp;omega)
  simp only[List.flatten_cons,List.flatten_nil,List.append_nil,List.length_cons,List.length_nil,Nat.zero_add] at e
  have same:∀ {x:Value} {rr:List (List Value)} {p r:Nat},Own h p r 1 tyI x rr→r≤h.length→Sep v x→Own h' p r 1 tyI x rr:=by
    intro x rr p r ox hr hs;refine⟨ox.len,?_⟩;rcases ox.is with hn | ⟨c,l1,l2,rfl,hc⟩
    · exact .inl hn
    · exact .inr ⟨c,l1,l2,rfl,by rw[b c (by omega) (by simp only[Sep,tlo,thi] at hs ⊢;omega)];exact hc⟩
  have hv'sep:∀ {x:Value},Sep v x→(x=zh∨thi x≤h.length)→Sep v' x:=by
    intro x hs hx;rcases c with⟨rfl,c1,c2,c3⟩ | ⟨_,_,c2,c3⟩
    · rcases hx with rfl | hx
      · exact ge
      · exact .inr (by omega)
    · unfold Sep at hs ⊢;omega
  have hwin:w=zh∨thi w≤h.length:=by
    rcases q.within with h | ⟨_,h,_⟩
    · exact .inl h
    · exact .inr (by omega)
  have hlv:lo≤tlo v':=by
    rcases c with⟨_,c1,_⟩ | ⟨hv,_,c2,_⟩
    · omega
    · rcases h2.within with k | k
      · exact absurd k hv
      · omega
  have hnz:thi v'≤h'.length∧tlo v'<thi v':=by
    rcases c with⟨_,c1,c2,c3⟩ | ⟨hv,c1,c2,c3⟩
    · omega
    · rcases h2.within with k | k
      · exact absurd k hv
      · omega
  refine⟨v',h',e,g,b,fun hv=>?_,⟨?_,fun hv=>?_⟩,⟨by simp[h1],?_,fun i hi'=>?_,fun i hi'=>?_,fun i j hij hj=>?_⟩⟩
  · rcases c with⟨k,_⟩ | ⟨_,k⟩
    · exact absurd k hv
    · exact k
  · rintro rfl
    have:tlo zh<thi zh:=hnz.2;exact absurd this (Nat.lt_irrefl 0)
  · rcases c with⟨_,k,_⟩ | ⟨k,_⟩
    · exact k
    · exact absurd hv k
  · rw[List.map_append]
    exact o'.wide (by omega) hnz.1
  · by_cases hil:i<ll.length
    · have e1:(vs++[w]).getD i zh=vs.getD i zh:=by simp[List.getElem?_append_left (show i<vs.length by omega)]
      have e2:(ll++[l]).getD i []=ll.getD i []:=by simp[List.getElem?_append_left hil]
      rw[e1,e2]
      exact (same (h3 i hil) hhi (h4 i hil)).wide (by omega) (by omega)
    · have hil:i=ll.length:=by simp at hi';omega
      subst hil
      have e1:(vs++[w]).getD ll.length zh=w:=by rw[←h1];simp
      have e2:(ll++[l]).getD ll.length []=l:=by simp
      rw[e1,e2]
      exact (same q hd2 hwsepv).wide (by omega) (by omega)
  · by_cases hil:i<ll.length
    · have e1:(vs++[w]).getD i zh=vs.getD i zh:=by simp[List.getElem?_append_left (show i<vs.length by omega)]
      rw[e1];refine hv'sep (h4 i hil) ?_;rcases (h3 i hil).within with h | ⟨_,h,_⟩
      · exact .inl h
      · exact .inr (by omega)
    · have hil:i=ll.length:=by simp at hi';omega
      subst hil
      have e1:(vs++[w]).getD ll.length zh=w:=by rw[←h1];simp
      rw[e1];exact hv'sep hwsepv hwin
  · have hil:i<ll.length:=by simp at hj;omega
    have e1:(vs++[w]).getD i zh=vs.getD i zh:=by simp[List.getElem?_append_left (show i<vs.length by omega)]
    rw[e1]
    by_cases hjl:j<ll.length
    · have e2:(vs++[w]).getD j zh=vs.getD j zh:=by simp[List.getElem?_append_left (show j<vs.length by omega)]
      rw[e2];exact h5 i j hij hjl
    · have hjl:j=ll.length:=by simp at hj;omega
      subst hjl
      have e2:(vs++[w]).getD ll.length zh=w:=by rw[←h1];simp
      rw[e2];exact hws i hil
theorem vV.push {lo2 hi2 : Nat} {vs : List Value} (o : vV h lo hi tyO tyI v ll vs) (hlo : lo ≤ h.length) (hhi : hi ≤ h.length) (q : Own h lo2 hi2 1 tyI w (zq l)) (hd : hi ≤ lo2) (hd2 : hi2 ≤ h.length) (hl : ll.length < lim) :
    ∃v' h',qS h 1 tyO 1 v (some [w])=some (v',h')∧h.length≤h'.length∧(∀b,b<h.length→(b<tlo v∨thi v≤b)→h'[b]?=h[b]?)∧(v≠zh→h'.length=h.length∧tlo v'=tlo v∧thi v'=thi v) ∧
      (v'≠zh∧(v=zh→tlo v'=h.length))∧vV h' (min lo lo2) h'.length tyO tyI v' (ll++[l]) (vs++[w]) :=
  o.pushG hlo hhi q (o.out.sep q (.inl hd)) (fun i hi=>(o.ins i hi).sep q (.inl hd)) hd2 hl
theorem Q5.push (o : Q5 h0 lo hi tyO tyI v ll) (hlo : lo ≤ h0.length) (hhi : hi ≤ h0.length) (hp : h0 <+: h) (q : Own h h0.length h.length 1 tyI w (zq l)) (hl : ll.length < lim) :
    ∃v' h',qS h 1 tyO 1 v (some [w])=some (v',h')∧h.length≤h'.length∧(∀b,b<lo→h'[b]?=h[b]?)∧Q5 h' lo h'.length tyO tyI v' (ll++[l]):=by
  obtain⟨vs,o⟩:=o;have hlen:=zy hp
  obtain⟨v',h',e,g,b,c,_,o'⟩:=(show vV h lo hi tyO tyI v ll vs from⟨o.len,o.out.up hp,fun i hi=>(o.ins i hi).up hp,o.so,o.si⟩).push (by omega) (by omega) q hhi (Nat.le_refl _) hl
  refine⟨v',h',e,g,fun x hx=>?_,vs++[w],by rw[Nat.min_eq_left hlo] at o';exact o'⟩
  refine b x (by omega) ?_
  rcases o.out.within with rfl | ⟨k1,k2,_⟩
  · exact .inr (Nat.zero_le _)
  · exact .inl (by omega)
theorem vV.apart {vs:List Value}(o:vV h lo hi tyO tyI v ll vs)(a:Qq (tlo w) (thi w) h h')(h1:Sep v w)(h2:∀i,i<ll.length→Sep (vs.getD i zh) w):vV h' lo hi tyO tyI v ll vs :=
  ⟨o.len,o.out.apart a h1,fun i hi=>(o.ins i hi).apart a (h2 i hi),o.so,o.si⟩
end
end Go.Proofs.Ytafhipglhnfgnaa.Ab
