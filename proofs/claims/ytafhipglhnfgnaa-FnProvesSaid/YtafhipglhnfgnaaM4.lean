/- Joined: R, P0, R6. No conditions. -/
import Derived.Test.YtafhipglhnfgnaaA3
import Derived.IntWalk
set_option linter.unusedSimpArgs false
set_option linter.unusedVariables false
set_option linter.unnecessarySimpa false
set_option maxHeartbeats 4000000
/- Rows: a slice that shows a list of rows. No conditions. -/
namespace Go.Proofs.Ytafhipglhnfgnaa.Ab
open Go.RowKit
section
variable {t:Nat→Value} {loc:Nat→Option (List Value)} {al:Nat→Option (Nat × Nat)} {h h0:Heap}
theorem rets_box {F:Fun} {r:Value × Heap} {e:Exit} {d n:Nat} {agg:Bool} {cs:List Value} {v:Value} (hF:F.res=[.box d n agg]) (he:e=.ret∨e=.normal) (hl:loc d=some cs) (hn:n≤cs.length) (hv:ofCells agg (cs.take n)=some v) (hlive:live v=true) (hf:finish h0 (v,h)=r):Rets F h0 r e ⟨t,loc,al,h⟩:=by
  refine ⟨he.symm,v,?_,hf⟩;rw [hF];simp [results1,Res.get,hl,hn,hv,hlive]
theorem rets_two {F:Fun} {r:Value × Heap} {e:Exit} {d d':Nat} (hF:F.res=[.slot d,.slot d']) (he:e=.ret∨e=.normal) (hl:live (t d)=true) (hl':live (t d')=true) (hf:finish h0 (.tuple ⟨[t d,t d']⟩,h)=r):Rets F h0 r e ⟨t,loc,al,h⟩:=by
  refine ⟨he.symm,_,?_,hf⟩;rw [hF];simp [results1,Res.get,hl,hl']
end
structure Rows (h:Heap) (sz:Nat) (v:Value) (rows:List (List Value)):Prop where
  len:∀ r∈rows,r.length=sz
  is:(v=.slice none 0 0∧rows=[])∨∃ b off cap blk,v=.slice (some ⟨b,off,none⟩) rows.length cap∧h[b]?=some blk∧blk.sz=sz∧off+cap*sz=blk.cells.length∧rows.length≤cap∧(blk.cells.drop off).take (rows.length*sz)=rows.flatten
def elemP (v:Value) (sz i off:Nat):Value:=match v with
  | .slice (some ⟨b,o,none⟩) _ cap=>.pointer (some ⟨b,o+i*sz+off,some (o+cap*sz)⟩)
  | _=>.pointer none
section
variable {h h':Heap} {sz:Nat} {v:Value} {rows:List (List Value)}
theorem Rows.up (r:Rows h sz v rows) (hp:h <+: h'):Rows h' sz v rows:=by
  refine ⟨r.len,?_⟩;rcases r.is with hn | ⟨b,off,cap,blk,h1,h2,h3⟩
  · exact .inl hn
  · exact .inr ⟨b,off,cap,blk,h1,pre_get hp h2,h3⟩
theorem Rows.nil:Rows h sz (.slice none 0 0) []:=⟨fun _ h=>(by cases h),.inl ⟨rfl,rfl⟩⟩
theorem Rows.ln (r:Rows h sz v rows):lnV h v=some (.int .i64 rows.length):=by
  rcases r.is with ⟨rfl,rfl⟩ | ⟨b,off,cap,blk,rfl,h2,h3,h4,h5,_⟩
  · rfl
  · simp only [lnV,h2]
    subst h3;rw [if_pos h4]
theorem flatten_len (hl:∀ r∈rows,r.length=sz):rows.flatten.length=rows.length*sz:=by
  induction rows with
  | nil=>simp
  | cons r rows ih =>
    rw [List.flatten_cons,List.length_append,hl r List.mem_cons_self,ih fun q hq=>hl q (List.mem_cons_of_mem _ hq),List.length_cons,Nat.add_mul]
    omega
theorem flatten_at (hl:∀ r∈rows,r.length=sz):∀ {i:Nat} (hi:i < rows.length),(rows.flatten.drop (i*sz)).take sz=rows[i]:=by
  induction rows with
  | nil=>intro i hi;simp at hi
  | cons r rows ih =>
    intro i hi;have h1:=hl r List.mem_cons_self
    cases i with
    | zero=>simp [h1]
    | succ i =>
      have e:(i+1)*sz=i*sz+sz:=by rw [Nat.add_mul,Nat.one_mul]
      rw [List.flatten_cons,e,List.drop_append,h1,Nat.add_sub_cancel,List.drop_of_length_le (by omega),List.nil_append]
      exact ih (fun q hq=>hl q (List.mem_cons_of_mem _ hq)) (by simpa using hi)
theorem Rows.ia (r:Rows h sz v rows) {k:IntKind} {i:Int} (h0:0≤i) (hi:i < (rows.length:Int)):iaV h sz v (.int k i)=some (elemP v sz i.toNat 0):=by
  rcases r.is with ⟨rfl,rfl⟩ | ⟨b,off,cap,blk,rfl,h2,h3,h4,h5,_⟩
  · simp at hi;omega
  · simp only [iaV,h2,elemP]
    rw [if_pos ⟨h0,hi,h3,h4⟩,h4];rfl
theorem Rows.ld (r:Rows h sz v rows) {i off n:Nat} (hi:i < rows.length) (hn:off+n≤sz):ldC h (elemP v sz i off) n=some ((rows[i].drop off).take n):=by
  rcases r.is with ⟨rfl,rfl⟩ | ⟨b,o,cap,blk,rfl,h2,h3,h4,h5,h6⟩
  · simp at hi
  · have hm:i*sz+sz≤rows.length*sz:=by
      have:=Nat.mul_le_mul_right sz (show i+1≤rows.length by omega)
      rw [Nat.add_mul] at this;omega
    have hm2:rows.length*sz≤cap*sz:=Nat.mul_le_mul_right sz h5;simp only [ldC,h2,elemP]
    rw [if_pos ⟨h4,by omega⟩,← flatten_at r.len hi,← h6]
    congr 1
    rw [List.drop_take,List.take_take,List.drop_drop,List.drop_take,List.take_take,List.drop_drop]
    rw [show min (min n (sz - off)) (rows.length*sz - (i*sz+off))=n by omega]
    congr 2
    omega
theorem elem_fa {i off k:Nat} (r:Rows h sz v rows) (hi:i < rows.length):faV h (elemP v sz i off) k=some (elemP v sz i (off+k)):=by
  rcases r.is with ⟨rfl,rfl⟩ | ⟨b,o,cap,blk,rfl,h2,h3,h4,h5,h6⟩
  · simp at hi
  · simp only [faV,h2,elemP]
    rw [if_pos h4];simp only [Nat.add_assoc]
theorem Rows.row (r:Rows h sz v rows):rowC h sz v=some rows.flatten:=by
  rcases r.is with ⟨rfl,rfl⟩ | ⟨b,o,cap,blk,rfl,h2,h3,h4,h5,h6⟩
  · rfl
  · simp only [rowC,h2]
    rw [if_pos ⟨h3,h4⟩,h6]
theorem Rows.made (hl:∀ r∈rows,r.length=sz) {ty:TypeId}:Rows (h++[⟨rows.flatten,sz,ty,true⟩]) sz (.slice (some ⟨h.length,0,none⟩) rows.length rows.length) rows:=by
  refine ⟨hl,.inr ⟨h.length,0,rows.length,⟨rows.flatten,sz,ty,true⟩,rfl,by simp,rfl,by simp [flatten_len hl],Nat.le_refl _,?_⟩⟩
  rw [← flatten_len hl,List.drop_zero];exact List.take_length
end
def I64 (n:Int):Prop:=-9223372036854775808≤n∧n≤9223372036854775807
def ints (l:List Int):List (List Value):=l.map fun n=>[.int .i64 n]
theorem ints_len {l:List Int}:(ints l).length=l.length:=by simp [ints]
theorem ints_row {l:List Int}:∀ r∈ints l,r.length=1:=by
  intro r hr;obtain ⟨n,_,rfl⟩:=List.mem_map.1 hr;rfl
theorem ints_get {l:List Int} {i:Nat} (hi:i < (ints l).length):(ints l)[i]=[.int .i64 (l[i]'(by simpa [ints] using hi))]:=by simp [ints]
section
variable {h:Heap} {v:Value} {l:List Int}
theorem ints_ln (r:Rows h 1 v (ints l)):lnV h v=some (.int .i64 l.length):=by rw [r.ln,ints_len]
theorem ints_ia (r:Rows h 1 v (ints l)) {k:IntKind} {i:Int} (h0:0≤i) (hi:i < (l.length:Int)):iaV h 1 v (.int k i)=some (elemP v 1 i.toNat 0):=r.ia h0 (by rw [ints_len];exact hi)
theorem ints_ld (r:Rows h 1 v (ints l)) {i:Nat} (hi:i < l.length):ldC h (elemP v 1 i 0) 1=some [.int .i64 l[i]]:=by
  rw [r.ld (by rw [ints_len];exact hi) (Nat.le_refl _),ints_get]
  rfl
end
theorem w64 {n:Int} (h1:-9223372036854775808≤n) (h2:n≤9223372036854775807):IntKind.i64.wrap n=n:=by rw [IntKind.wrap_i64];omega
end Go.Proofs.Ytafhipglhnfgnaa.Ab
/- Lists that are made and then filled, row by row; lists that grow at their end. No conditions. -/
namespace Go.Proofs.Ytafhipglhnfgnaa.Ab
open Go.RowKit
theorem zeros_length {z:List Value}:∀ n,(zeros z n).length=n*z.length
  | 0=>by simp [zeros]
  | n+1=>by simp only [zeros,List.length_append,zeros_length n,Nat.add_mul];omega
def fillC (z:List Value) (rows:List (List Value)) (n i:Nat):List Value:=(rows.take i).flatten++zeros z (n - i)
theorem fill_start {z:List Value} {rows:List (List Value)} {n:Nat}:zeros z n=fillC z rows n 0:=by simp [fillC]
theorem fill_end {z:List Value} {rows:List (List Value)} {n:Nat} (hn:rows.length=n):fillC z rows n n=rows.flatten:=by
  subst hn;simp [fillC,zeros]
section
variable {h ext:Heap} {z:List Value} {rows:List (List Value)} {n sz:Nat} {ty:TypeId}
theorem take_len (hr:∀ r∈rows,r.length=sz) {i:Nat} (hi:i≤rows.length):(rows.take i).flatten.length=i*sz:=by
  rw [flatten_len fun r h=>hr r (List.mem_of_mem_take h),List.length_take,Nat.min_eq_left hi]
theorem fill_len (hr:∀ r∈rows,r.length=sz) (hz:z.length=sz) (hn:rows.length=n) {i:Nat} (hi:i≤n):(fillC z rows n i).length=n*sz:=by
  unfold fillC
  rw [List.length_append,take_len hr (by omega),zeros_length,hz,← Nat.add_mul]
  congr 1
  omega
theorem at_block {b:Blk}:(h++b::ext)[h.length]?=some b:=by simp
theorem set_block {b c:Blk}:(h++b::ext).set h.length c=h++c::ext:=by simp
theorem fill_ia (hr : ∀ r ∈ rows, r.length = sz) (hz : z.length = sz) (hn : rows.length = n) {i : Nat} (hi : i ≤ n) {k : IntKind} {j : Int} (h0 : 0 ≤ j) (hj : j < (n : Int)) :
    iaV (h++⟨fillC z rows n i,sz,ty,true⟩::ext) sz (.slice (some ⟨h.length,0,none⟩) n n) (.int k j)=some (elemP (.slice (some ⟨h.length,0,none⟩) n n) sz j.toNat 0):=by
  simp only [iaV,at_block,elemP,fill_len hr hz hn hi,Nat.zero_add,Nat.add_zero];simp [h0,hj]
theorem fill_st (hr : ∀ r ∈ rows, r.length = sz) (hz : z.length = sz) (hn : rows.length = n) {i : Nat} (hi : i < rows.length) :
    stC (h++⟨fillC z rows n i,sz,ty,true⟩::ext) (elemP (.slice (some ⟨h.length,0,none⟩) n n) sz i 0) rows[i]=some (h++⟨fillC z rows n (i+1),sz,ty,true⟩::ext):=by
  have hl:=fill_len (z:=z) hr hz hn (i:=i) (by omega)
  have hri:=hr rows[i] (List.getElem_mem hi)
  have hm:i*sz+sz≤n*sz:=by
    have:=Nat.mul_le_mul_right sz (show i+1≤n by omega)
    rw [Nat.add_mul] at this;omega
  simp only [stC,at_block,elemP,hl,Nat.zero_add,Nat.add_zero,hri];rw [if_pos ⟨trivial,hm,trivial⟩,set_block]
  have ht:=take_len hr (i:=i) (by omega)
  have e:putAt (fillC z rows n i) (i*sz) rows[i]=fillC z rows n (i+1):=by
    unfold putAt fillC
    rw [List.take_append,ht,Nat.sub_self,List.take_of_length_le (by omega),List.take_zero,List.append_nil,List.drop_append,List.drop_of_length_le (by rw [ht,hri];omega),ht,hri,List.nil_append,
      List.take_succ_eq_append_getElem hi,List.flatten_append]
    have e1:n - i=(n - (i+1))+1:=by omega
    rw [e1];simp only [zeros,List.flatten_cons,List.flatten_nil,List.append_nil]
    rw [List.drop_append,List.drop_of_length_le (by rw [hz];omega),hz,show i*sz+sz - i*sz - sz=0 by omega,List.nil_append,List.drop_zero]
  rw [e]
end
theorem ints_flat {l:List Int}:(ints l).flatten=l.map fun n=>.int .i64 n:=by
  induction l with
  | nil=>rfl
  | cons a l ih=>simp only [ints,List.map_cons,List.flatten_cons] at ih ⊢;rw [ih];rfl
end Go.Proofs.Ytafhipglhnfgnaa.Ab
/- Rows of what the functions hold: pairs, edges; an element by its place. No conditions. -/
namespace Go.Proofs.Ytafhipglhnfgnaa.Ab
open Go.RowKit
section
variable {h:Heap} {v:Value} {α:Type} {f:α→List Value} {l:List α} {sz:Nat}
theorem map_row (hf:∀ a,(f a).length=sz):∀ r∈l.map f,r.length=sz:=by
  intro r hr;obtain ⟨a,_,rfl⟩:=List.mem_map.1 hr;exact hf a
theorem map_at {d:α} {i:Nat} (hi:i < l.length):(l.map f)[i]'(by simpa using hi)=f (l.getD i d):=by
  simp [hi]
theorem Rows.el (r : Rows h sz v (l.map f)) (d : α) {i : Nat} (hi : i < l.length) :
    iaV h sz v (.int .i64 (i:Int))=some (elemP v sz i 0)∧(∀ o k,faV h (elemP v sz i o) k=some (elemP v sz i (o+k)))∧ldC h (elemP v sz i 0) sz=some (f (l.getD i d)):=by
  have hi':i < (l.map f).length:=by simpa using hi
  refine ⟨by have:=r.ia (k:=.i64) (i:=(i:Int)) (by omega) (by omega);simpa using this,fun o k=>elem_fa r hi',?_⟩
  rw [r.ld hi' (Nat.le_of_eq (Nat.zero_add sz)),map_at (d:=d) hi,List.drop_zero,List.take_of_length_le]
  have:=r.len (f (l.getD i d)) (by rw [← map_at (f:=f) (d:=d) hi];exact List.getElem_mem _)
  omega
theorem Rows.cell (r:Rows h sz v (l.map f)) (d:α) {i o:Nat} (hi:i < l.length) (ho:o < sz):ldC h (elemP v sz i o) 1=some [(f (l.getD i d)).getD o undef]:=by
  have hi':i < (l.map f).length:=by simpa using hi
  have hl:=r.len (f (l.getD i d)) (by rw [← map_at (f:=f) (d:=d) hi];exact List.getElem_mem _)
  rw [r.ld hi' (by omega),map_at (d:=d) hi]
  have ho':o < (f (l.getD i d)).length:=by omega
  rw [List.drop_eq_getElem_cons ho',List.take_succ_cons,List.take_zero];rw [List.getD_eq_getElem?_getD (l:=f (l.getD i d)),List.getElem?_eq_getElem ho',Option.getD_some]
theorem Rows.lnm (r:Rows h sz v (l.map f)):lnV h v=some (.int .i64 l.length):=by rw [r.ln,List.length_map]
end
structure E where
  a:Int
  b:Int
  w1:Int
  w2:Int
  w3:Int
def e0:E:=⟨0,0,0,0,0⟩
def edgeR (e:E):List Value:=[.int .i64 e.a,.int .i64 e.b,.int .i64 e.w1,.int .i64 e.w2,.int .i64 e.w3]
theorem edgeR_len (e:E):(edgeR e).length=5:=rfl
abbrev edges (l:List E):List (List Value):=l.map edgeR
theorem edge_el {h : Heap} {v : Value} {l : List E} {i : Nat} (r : Rows h 5 v (edges l)) (hi : i < l.length) :
    iaV h 5 v (.int .i64 (i:Int))=some (elemP v 5 i 0)∧(∀ o k,faV h (elemP v 5 i o) k=some (elemP v 5 i (o+k)))∧ldC h (elemP v 5 i 0) 5=some [.int .i64 (l.getD i e0).a,.int .i64 (l.getD i e0).b,.int .i64 (l.getD i e0).w1,.int .i64 (l.getD i e0).w2,.int .i64 (l.getD i e0).w3] ∧
    ldC h (elemP v 5 i 0) 1=some [.int .i64 (l.getD i e0).a]∧ldC h (elemP v 5 i 1) 1=some [.int .i64 (l.getD i e0).b]∧ldC h (elemP v 5 i 2) 1=some [.int .i64 (l.getD i e0).w1]∧ldC h (elemP v 5 i 3) 1=some [.int .i64 (l.getD i e0).w2]∧ldC h (elemP v 5 i 4) 1=some [.int .i64 (l.getD i e0).w3] :=
  ⟨(r.el e0 hi).1,(r.el e0 hi).2.1,(r.el e0 hi).2.2,r.cell e0 hi (by omega),r.cell e0 hi (by omega),r.cell e0 hi (by omega),r.cell e0 hi (by omega),r.cell e0 hi (by omega)⟩
structure Cp where
  a:Int
  b:Int
deriving DecidableEq
def c0:Cp:=⟨0,0⟩
def cpR (e:Cp):List Value:=[.int .i64 e.a,.int .i64 e.b]
theorem cpR_len (e:Cp):(cpR e).length=2:=rfl
abbrev cps (l:List Cp):List (List Value):=l.map cpR
theorem cp_el {h : Heap} {v : Value} {l : List Cp} {i : Nat} (r : Rows h 2 v (cps l)) (hi : i < l.length) :
    iaV h 2 v (.int .i64 (i:Int))=some (elemP v 2 i 0)∧(∀ o k,faV h (elemP v 2 i o) k=some (elemP v 2 i (o+k)))∧ldC h (elemP v 2 i 0) 2=some [.int .i64 (l.getD i c0).a,.int .i64 (l.getD i c0).b] ∧
    ldC h (elemP v 2 i 0) 1=some [.int .i64 (l.getD i c0).a]∧ldC h (elemP v 2 i 1) 1=some [.int .i64 (l.getD i c0).b] :=
  ⟨(r.el c0 hi).1,(r.el c0 hi).2.1,(r.el c0 hi).2.2,r.cell c0 hi (by omega),r.cell c0 hi (by omega)⟩
theorem int_el {h : Heap} {v : Value} {l : List Int} {i : Nat} (r : Rows h 1 v (ints l)) (hi : i < l.length) :
    iaV h 1 v (.int .i64 (i:Int))=some (elemP v 1 i 0)∧ldC h (elemP v 1 i 0) 1=some [.int .i64 (l.getD i 0)] :=
  ⟨(Rows.el (f:=fun n=>[Value.int .i64 n]) r 0 hi).1,(Rows.el (f:=fun n=>[Value.int .i64 n]) r 0 hi).2.2⟩
end Go.Proofs.Ytafhipglhnfgnaa.Ab
/- Lists that are appended to, from nothing on; texts of bytes. No conditions. -/
namespace Go.Proofs.Ytafhipglhnfgnaa.Ab
open Go.RowKit
structure Acc (h:Heap) (sz:Nat) (ty:TypeId) (v:Value) (rows:List (List Value)) (hh:Heap):Prop where
  len:∀ r∈rows,r.length=sz
  is:(v=.slice none 0 0∧rows=[]∧hh=h)∨(v=.slice (some ⟨h.length,0,none⟩) rows.length rows.length∧hh=h++[⟨rows.flatten,sz,ty,true⟩])
section
variable {h hh:Heap} {sz:Nat} {ty:TypeId} {v:Value} {rws:List (List Value)}
theorem Acc.nil:Acc h sz ty (.slice none 0 0) [] h:=⟨fun _ h=>(by cases h),.inl ⟨rfl,rfl,rfl⟩⟩
theorem Acc.new:Acc h sz ty (.slice (some ⟨h.length,0,none⟩) 0 0) [] (h++[⟨[],sz,ty,true⟩]):=⟨fun _ h=>(by cases h),.inr ⟨rfl,rfl⟩⟩
theorem Acc.made (hl:∀ r∈rws,r.length=sz):Acc h sz ty (.slice (some ⟨h.length,0,none⟩) rws.length rws.length) rws (h++[⟨rws.flatten,sz,ty,true⟩]):=⟨hl,.inr ⟨rfl,rfl⟩⟩
theorem Acc.rows (a:Acc h sz ty v rws hh):Rows hh sz v rws:=by
  rcases a.is with ⟨rfl,rfl,rfl⟩ | ⟨rfl,rfl⟩
  · exact Rows.nil
  · exact Rows.made a.len
theorem Acc.up (a:Acc h sz ty v rws hh):h <+: hh:=by
  rcases a.is with ⟨_,_,rfl⟩ | ⟨_,rfl⟩
  · exact List.prefix_refl _
  · exact List.prefix_append _ _
theorem Acc.push (a : Acc h sz ty v rws hh) (new : List (List Value)) (hn : ∀ r ∈ new, r.length = sz) (h1 : new ≠ []) (hl : rws.length + new.length ≤ lim) :
    ∃ v' hh',appLW hh sz ty new.length v (some new.flatten)=some (v',hh')∧Acc h sz ty v' (rws++new) hh':=by
  have hf:=flatten_len hn
  have h0:¬ new.length=0:=fun e=>h1 (List.length_eq_zero_iff.1 e)
  have hall:∀ r∈rws++new,r.length=sz:=fun r hr=>by
    rcases List.mem_append.1 hr with hr | hr
    · exact a.len r hr
    · exact hn r hr
  rcases a.is with ⟨rfl,rfl,rfl⟩ | ⟨rfl,rfl⟩
  · refine ⟨.slice (some ⟨hh.length,0,none⟩) new.length new.length,hh++[⟨new.flatten,sz,ty,true⟩],?_,hall,.inr ⟨rfl,rfl⟩⟩
    simp only [appLW,appV]
    rw [if_pos hf,if_neg h0,if_pos (by simpa using hl)]
  · refine ⟨.slice (some ⟨h.length,0,none⟩) (rws++new).length (rws++new).length,h++[⟨(rws++new).flatten,sz,ty,true⟩],?_,hall,.inr ⟨rfl,rfl⟩⟩
    have hr:=flatten_len a.len;simp only [appLW,appV,List.getElem?_append_right (Nat.le_refl _),Nat.sub_self,List.getElem?_cons_zero,List.length_append]
    rw [if_pos hf,if_pos (by rw [hr];omega),if_neg h0,if_pos ⟨trivial,trivial,trivial,trivial,trivial,hl⟩]
    rw [List.flatten_append,List.set_append_right _ _ (Nat.le_refl _),Nat.sub_self];rfl
theorem Acc.push1 (a : Acc h sz ty v rws hh) (cs : List Value) (hc : cs.length = sz) (hl : rws.length < lim) :
    ∃ v' hh',appLW hh sz ty 1 v (some cs)=some (v',hh')∧Acc h sz ty v' (rws++[cs]) hh':=by
  obtain ⟨v',hh',h1,h2⟩:=a.push [cs] (fun r hr=>by rw [List.mem_singleton.1 hr];exact hc) (by simp) (by simp;omega)
  rw [List.flatten_cons,List.flatten_nil,List.append_nil] at h1;exact ⟨v',hh',h1,h2⟩
end
def bys (l:List Int):List (List Value):=l.map fun n=>[.int .u8 n]
theorem ints8_u8:∀ l:List Int,ints8 (l.map fun n=>.int .u8 n)=some l
  | []=>rfl
  | n::l=>by simp only [List.map_cons,ints8,isInt8,ints8_u8 l]
theorem bys_flat {l:List Int}:(bys l).flatten=l.map fun n=>.int .u8 n:=by
  induction l with
  | nil=>rfl
  | cons a l ih=>simp only [bys,List.map_cons,List.flatten_cons] at ih ⊢;rw [ih];rfl
theorem bys_len {l:List Int}:(bys l).length=l.length:=by simp [bys]
theorem Rows.str {h:Heap} {v:Value} {l:List Int} (r:Rows h 1 v (bys l)):strV h v=some (.string (strOfNums l)):=by
  simp only [strV,r.row,bys_flat,ints8_u8,Option.map_some]
theorem wu8 {n:Int} (h1:0≤n) (h2:n≤255):IntKind.u8.wrap n=n:=by rw [IntKind.wrap_u8];omega
theorem tmodN (m k:Nat):(m:Int).tmod (k:Int)=((m%k:Nat):Int):=rfl
theorem tdivN (m k:Nat):(m:Int).tdiv (k:Int)=((m / k:Nat):Int):=rfl
theorem tmod128 (m:Nat):(m:Int).tmod 128=((m%128:Nat):Int):=rfl
theorem tdiv128 (m:Nat):(m:Int).tdiv 128=((m / 128:Nat):Int):=rfl
theorem prs_def {t:Nat→Value} {i:Nat} {x:Opd} {l:List (Nat × Opd)}:prs t ((i,x)::l)=(i,ov t x)::prs t l:=rfl
theorem zeros_zero {z:List Value}:zeros z 0=[]:=rfl
theorem zeros_succ {z:List Value} {n:Nat}:zeros z (n+1)=z++zeros z n:=rfl
theorem fillAt_nil {sz:Nat} {cs:List Value}:fillAt sz cs []=some cs:=rfl
theorem fillAt_cons {sz i : Nat} {cs : List Value} {v : Value} {l : List (Nat × Value)} : fillAt sz cs ((i, v) :: l) = match cellsOf v with
    | some vs=>if vs.length=sz∧i*sz+sz≤cs.length then fillAt sz (putAt cs (i*sz) vs) l else none
    | none=>none:=rfl
theorem fillOff_nil {cs:List Value}:fillOff cs []=some cs:=rfl
theorem fillOff_cons {n off : Nat} {cs : List Value} {v : Value} {l : List (Nat × Nat × Value)} : fillOff cs ((off, n, v) :: l) = match cellsOf v with
    | some vs=>if vs.length=n∧off+n≤cs.length then fillOff (putAt cs off vs) l else none
    | none=>none:=rfl
attribute [go_sem] List.getElem?_cons_zero List.getElem?_cons_succ zeros_zero zeros_succ fillAt_nil fillAt_cons fillOff_nil fillOff_cons
end Go.Proofs.Ytafhipglhnfgnaa.Ab
/- Slices of one's own, in blocks between two places: what they show, how they are written and grow; what leaves the rest alone. No conditions. -/
namespace Go.Proofs.Ytafhipglhnfgnaa.Ab
open Go.RowKit
structure Own (h:Heap) (lo hi sz:Nat) (ty:TypeId) (v:Value) (rows:List (List Value)):Prop where
  len:∀ r∈rows,r.length=sz
  is:(v=.slice none 0 0∧rows=[])∨∃ b,lo≤b∧b < hi∧v=.slice (some ⟨b,0,none⟩) rows.length rows.length∧h[b]?=some ⟨rows.flatten,sz,ty,true⟩
structure Same (lo hi:Nat) (h h':Heap):Prop where
  len:h'.length=h.length
  blk:∀ b,b < lo∨hi≤b→h'[b]?=h[b]?
theorem pre_of_get {h0 h:Heap} (hl:h0.length≤h.length) (hb:∀ b,b < h0.length→h[b]?=h0[b]?):h0 <+: h:=by
  rw [List.prefix_iff_eq_take];apply List.ext_getElem?
  intro i;rw [List.getElem?_take];split
  · rename_i hi;exact (hb i hi).symm
  · rename_i hi;rw [List.getElem?_eq_none (by omega)]
theorem get_of_pre {h0 h:Heap} (hp:h0 <+: h) {b:Nat} (hb:b < h0.length):h[b]?=h0[b]?:=by
  obtain ⟨e,rfl⟩:=hp;rw [List.getElem?_append_left hb]
theorem pre_len {h0 h:Heap} (hp:h0 <+: h):h0.length≤h.length:=hp.length_le
section
variable {h h' h'' h0:Heap} {lo hi lo' hi' sz:Nat} {ty:TypeId} {v:Value} {rws:List (List Value)}
theorem Same.refl:Same lo hi h h:=⟨rfl,fun _ _=>rfl⟩
theorem Same.trans (a:Same lo hi h h') (b:Same lo hi h' h''):Same lo hi h h'':=⟨b.len.trans a.len,fun x hx=>(b.blk x hx).trans (a.blk x hx)⟩
theorem Same.wide (a:Same lo hi h h') (h1:lo'≤lo) (h2:hi≤hi'):Same lo' hi' h h':=⟨a.len,fun b hb=>a.blk b (by omega)⟩
theorem Same.pre (a:Same lo hi h h') (hp:h0 <+: h) (hl:h0.length≤lo):h0 <+: h' :=
  pre_of_get (by rw [a.len];exact pre_len hp) fun b hb=>by rw [a.blk b (.inl (by omega)),get_of_pre hp hb]
theorem Own.rows (o:Own h lo hi sz ty v rws):Rows h sz v rws:=by
  refine ⟨o.len,?_⟩;rcases o.is with hn | ⟨b,_,_,h1,h2⟩
  · exact .inl hn
  · refine .inr ⟨b,0,rws.length,_,h1,h2,rfl,by simp [flatten_len o.len],Nat.le_refl _,?_⟩
    rw [← flatten_len o.len,List.drop_zero];exact List.take_length
theorem Own.up (o:Own h lo hi sz ty v rws) (hp:h <+: h'):Own h' lo hi sz ty v rws:=by
  refine ⟨o.len,?_⟩;rcases o.is with hn | ⟨b,l1,l2,h1,h2⟩
  · exact .inl hn
  · exact .inr ⟨b,l1,l2,h1,pre_get hp h2⟩
theorem Own.wide (o:Own h lo hi sz ty v rws) (h1:lo'≤lo) (h2:hi≤hi'):Own h lo' hi' sz ty v rws:=by
  refine ⟨o.len,?_⟩;rcases o.is with hn | ⟨b,l1,l2,h3⟩
  · exact .inl hn
  · exact .inr ⟨b,by omega,by omega,h3⟩
theorem Own.same (o:Own h lo hi sz ty v rws) (a:Same lo' hi' h h') (hd:hi≤lo'∨hi'≤lo):Own h' lo hi sz ty v rws:=by
  refine ⟨o.len,?_⟩;rcases o.is with hn | ⟨b,l1,l2,h1,h2⟩
  · exact .inl hn
  · exact .inr ⟨b,l1,l2,h1,by rw [a.blk b (by omega)];exact h2⟩
theorem Own.nil:Own h lo hi sz ty (.slice none 0 0) []:=⟨fun _ h=>(by cases h),.inl ⟨rfl,rfl⟩⟩
theorem Own.made (hl:∀ r∈rws,r.length=sz):Own (h++[⟨rws.flatten,sz,ty,true⟩]) h.length (h.length+1) sz ty (.slice (some ⟨h.length,0,none⟩) rws.length rws.length) rws :=
  ⟨hl,.inr ⟨h.length,Nat.le_refl _,Nat.lt_succ_self _,rfl,by simp⟩⟩
theorem Acc.own (a:Acc h sz ty v rws h'):Own h' h.length h'.length sz ty v rws:=by
  refine ⟨a.len,?_⟩;rcases a.is with ⟨rfl,rfl,rfl⟩ | ⟨rfl,rfl⟩
  · exact .inl ⟨rfl,rfl⟩
  · exact .inr ⟨h.length,Nat.le_refl _,by simp,rfl,by simp⟩
theorem putAt_flat (hl : ∀ r ∈ rws, r.length = sz) : ∀ {i : Nat} (hi : i < rws.length) {k : Nat} {vs : List Value}, k + vs.length ≤ sz →
    putAt rws.flatten (i*sz+k) vs=(rws.set i (putAt rws[i] k vs)).flatten:=by
  induction rws with
  | nil=>intro i hi;simp at hi
  | cons r rws ih =>
    intro i hi k vs hk;have h1:=hl r List.mem_cons_self
    cases i with
    | zero =>
      simp only [List.flatten_cons,List.set_cons_zero,List.getElem_cons_zero,putAt,Nat.zero_mul,Nat.zero_add]
      rw [List.take_append,List.drop_append,show k - r.length=0 by omega,show k+vs.length - r.length=0 by omega]
      simp
    | succ i =>
      have e:(i+1)*sz=sz+i*sz:=by rw [Nat.add_mul];omega
      have ih':=ih (fun q hq=>hl q (List.mem_cons_of_mem _ hq)) (i:=i) (by simpa using hi) hk
      simp only [List.flatten_cons,List.set_cons_succ,List.getElem_cons_succ];rw [← ih'];unfold putAt
      rw [e,List.take_append,List.drop_append,List.take_of_length_le (by omega),List.drop_of_length_le (by omega),h1,
        show sz+i*sz+k - sz=i*sz+k by omega,show sz+i*sz+k+vs.length - sz=i*sz+k+vs.length by omega]
      simp
theorem putAt_len {cs vs:List Value} {k:Nat} (hk:k+vs.length≤cs.length):(putAt cs k vs).length=cs.length:=by
  unfold putAt;simp only [List.length_append,List.length_take,List.length_drop];omega
theorem set_row_len {i:Nat} {r:List Value} (hl:∀ r∈rws,r.length=sz) (hr:r.length=sz):∀ q∈rws.set i r,q.length=sz:=by
  intro q hq;rcases List.mem_or_eq_of_mem_set hq with hq | rfl
  · exact hl q hq
  · exact hr
theorem Own.st (o : Own h lo hi sz ty v rws) {i : Nat} (hi' : i < rws.length) {k : Nat} {vs : List Value} (hk : k + vs.length ≤ sz) :
    ∃ h',stC h (elemP v sz i k) vs=some h'∧Same lo hi h h'∧Own h' lo hi sz ty v (rws.set i (putAt rws[i] k vs)):=by
  have hr:(putAt rws[i] k vs).length=sz:=by
    have:=o.len _ (List.getElem_mem hi')
    rw [putAt_len (by omega),this]
  rcases o.is with ⟨rfl,rfl⟩ | ⟨b,l1,l2,rfl,h2⟩
  · simp at hi'
  · have hb:=lt_of_get h2
    have hm:i*sz+sz≤rws.length*sz:=by
      have:=Nat.mul_le_mul_right sz (show i+1≤rws.length by omega)
      rw [Nat.add_mul] at this;omega
    have hfl:=flatten_len o.len
    refine ⟨h.set b ⟨(rws.set i (putAt rws[i] k vs)).flatten,sz,ty,true⟩,?_,⟨by simp,fun b' hb'=>?_⟩,set_row_len o.len hr,.inr ⟨b,l1,l2,by simp,by rw [List.getElem?_set_self hb]⟩⟩
    · simp only [stC,h2,elemP,Nat.zero_add]
      rw [if_pos ⟨hfl.symm,by omega,trivial⟩,putAt_flat o.len hi' hk]
    · rw [List.getElem?_set_ne (by omega)]
theorem Own.push (o : Own h lo hi sz ty v rws) (hlo : lo ≤ h.length) (new : List (List Value)) (hn : ∀ r ∈ new, r.length = sz) (h1 : new ≠ []) (hl : rws.length + new.length ≤ lim) :
    ∃ v' h',appLW h sz ty new.length v (some new.flatten)=some (v',h')∧h.length≤h'.length∧(∀ b,b < lo∨(hi≤b∧b < h.length)→h'[b]?=h[b]?)∧Own h' lo (max hi h'.length) sz ty v' (rws++new):=by
  have hf:=flatten_len hn
  have h0:¬ new.length=0:=fun e=>h1 (List.length_eq_zero_iff.1 e)
  have hall:∀ r∈rws++new,r.length=sz:=fun r hr=>by
    rcases List.mem_append.1 hr with hr | hr
    · exact o.len r hr
    · exact hn r hr
  rcases o.is with ⟨rfl,rfl⟩ | ⟨b,l1,l2,rfl,h2⟩
  · refine ⟨.slice (some ⟨h.length,0,none⟩) new.length new.length,h++[⟨new.flatten,sz,ty,true⟩],?_,by simp,fun b hb=>?_,hall,.inr ⟨h.length,hlo,by simp;omega,rfl,by simp⟩⟩
    · simp only [appLW,appV]
      rw [if_pos hf,if_neg h0,if_pos (by simpa using hl)]
    · rw [List.getElem?_append_left (by omega)]
  · have hb:=lt_of_get h2
    have hr:=flatten_len o.len
    refine ⟨.slice (some ⟨b,0,none⟩) (rws++new).length (rws++new).length,h.set b ⟨(rws++new).flatten,sz,ty,true⟩,?_,by simp,fun b' hb'=>?_,hall,.inr ⟨b,l1,by simp;omega,rfl,by rw [List.getElem?_set_self hb]⟩⟩
    · simp only [appLW,appV,h2,List.length_append]
      rw [if_pos hf,if_pos (by rw [hr];omega),if_neg h0,if_pos ⟨trivial,trivial,trivial,trivial,trivial,hl⟩]
      rw [List.flatten_append]
    · rw [List.getElem?_set_ne (by omega)]
theorem Own.push1 (o : Own h lo hi sz ty v rws) (hlo : lo ≤ h.length) (cs : List Value) (hc : cs.length = sz) (hl : rws.length < lim) :
    ∃ v' h',appLW h sz ty 1 v (some cs)=some (v',h')∧h.length≤h'.length∧(∀ b,b < lo∨(hi≤b∧b < h.length)→h'[b]?=h[b]?)∧Own h' lo (max hi h'.length) sz ty v' (rws++[cs]):=by
  obtain ⟨v',hh',h1,h2⟩:=o.push hlo [cs] (fun r hr=>by rw [List.mem_singleton.1 hr];exact hc) (by simp) (by simp;omega)
  rw [List.flatten_cons,List.flatten_nil,List.append_nil] at h1;exact ⟨v',hh',h1,h2⟩
theorem Own.app (o : Own h lo hi sz ty v rws) (hlo : lo ≤ h.length) {x : Value} {new : List (List Value)} (hx : Rows h sz x new) (hl : rws.length + new.length ≤ lim) :
    ∃ v' h',appW h sz ty v x=some (v',h')∧h.length≤h'.length∧(∀ b,b < lo∨(hi≤b∧b < h.length)→h'[b]?=h[b]?)∧Own h' lo (max hi h'.length) sz ty v' (rws++new):=by
  have hx':=hx.row
  have e:∃ a n c,x=.slice a n c∧n=new.length:=by
    rcases hx.is with ⟨rfl,rfl⟩ | ⟨b,off,cap,blk,rfl,_⟩
    · exact ⟨_,_,_,rfl,rfl⟩
    · exact ⟨_,_,_,rfl,rfl⟩
  obtain ⟨a,n,c,rfl,rfl⟩:=e
  by_cases h1:new=[]
  · subst h1
    refine ⟨v,h,?_,Nat.le_refl _,fun _ _=>rfl,by rw [List.append_nil];exact o.wide (Nat.le_refl _) (Nat.le_max_left _ _)⟩
    simp only [appW,hx',Option.bind_some,appV];rcases o.is with ⟨rfl,rfl⟩ | ⟨b,l1,l2,rfl,h2⟩
    · simp
    · simp only [h2]
      rw [if_pos (by simp [flatten_len o.len])]
      simp
  · obtain ⟨v',h',h2,h3⟩:=o.push hlo new hx.len h1 hl
    refine ⟨v',h',?_,h3⟩;simp only [appW,hx',Option.bind_some];simp only [appLW] at h2;rw [if_pos (flatten_len hx.len)] at h2;exact h2
theorem pre_push (hp:h0 <+: h) (hl:h0.length≤lo) (hg:h.length≤h'.length) (hb:∀ b,b < lo∨(hi≤b∧b < h.length)→h'[b]?=h[b]?):h0 <+: h' :=
  pre_of_get (Nat.le_trans (pre_len hp) hg) fun b hb'=>by rw [hb b (.inl (by omega)),get_of_pre hp hb']
end
section
variable {h hh h2:Heap} {lo hi sz:Nat} {ty:TypeId} {v:Value} {rws:List (List Value)}
theorem Own.cells (o:Own h lo hi sz ty v rws):cellsOf v=some [v]:=by
  rcases o.is with ⟨rfl,_⟩ | ⟨b,_,_,rfl,_⟩<;>rfl
theorem Rows.cells (o:Rows h sz v rws):cellsOf v=some [v]:=by
  rcases o.is with ⟨rfl,_⟩ | ⟨b,off,cap,blk,rfl,_⟩<;>rfl
theorem Own.live (o:Own h lo hi sz ty v rws):live v=true:=by
  rcases o.is with ⟨rfl,_⟩ | ⟨b,_,_,rfl,_⟩<;>rfl
theorem Own.flat (o:Own h lo hi sz ty v rws) (hf:flat1 v=true):Own h2 lo hi sz ty v rws:=by
  rcases o.is with ⟨rfl,rfl⟩ | ⟨b,_,_,rfl,_⟩
  · exact Own.nil
  · cases hf
theorem Own.fin (hp:h <+: hh) (o:Own hh h.length hh.length sz ty v rws):h <+: (finish h (v,hh)).2∧Own (finish h (v,hh)).2 h.length (finish h (v,hh)).2.length sz ty (finish h (v,hh)).1 rws:=by
  obtain ⟨h3,e,p3,hc⟩:=finish_cases (v:=v) hp;rw [e];rcases hc with rfl | ⟨hf,rfl⟩
  · exact ⟨hp,o⟩
  · refine ⟨p3,?_⟩
    rcases o.is with ⟨rfl,rfl⟩ | ⟨b,_,_,rfl,_⟩
    · exact Own.nil
    · cases hf
end
def Gives (r:Option (Value × Heap)) (h:Heap) (sz:Nat) (ty:TypeId) (rows:List (List Value)):Prop :=
  ∃ v hh,r=some (v,hh)∧h <+: hh∧Own hh h.length hh.length sz ty v rows
end Go.Proofs.Ytafhipglhnfgnaa.Ab
/- Rows of texts, pairs, asks; marks; writing a row part by part. No conditions. -/
namespace Go.Proofs.Ytafhipglhnfgnaa.Ab
open Go.RowKit
abbrev noT:ByteArray:=⟨⟨[]⟩⟩
def txR (s:ByteArray):List Value:=[.string s]
theorem txR_len (s:ByteArray):(txR s).length=1:=rfl
abbrev texts (l:List ByteArray):List (List Value):=l.map txR
def intR (n:Int):List Value:=[.int .i64 n]
theorem intR_len (n:Int):(intR n).length=1:=rfl
theorem ints_map {l:List Int}:ints l=l.map intR:=rfl
structure Pr where
  k:ByteArray
  v:ByteArray
deriving DecidableEq
def p0:Pr:=⟨noT,noT⟩
def prR (p:Pr):List Value:=[.string p.k,.string p.v]
theorem prR_len (p:Pr):(prR p).length=2:=rfl
abbrev prsL (l:List Pr):List (List Value):=l.map prR
structure Aq where
  op:Int
  a:Int
  b:Int
  w1:Int
  w2:Int
  w3:Int
def a0:Aq:=⟨0,0,0,0,0,0⟩
def aqR (x:Aq):List Value:=[.int .i64 x.op,.int .i64 x.a,.int .i64 x.b,.int .i64 x.w1,.int .i64 x.w2,.int .i64 x.w3]
theorem aqR_len (x:Aq):(aqR x).length=6:=rfl
abbrev asks (l:List Aq):List (List Value):=l.map aqR
theorem mkW_ok {h:Heap} {sz:Nat} {ty:TypeId} {z:List Value} {n:Nat} (hn:n≤lim):mkW h sz ty z (.int .i64 (n:Int))=some (.slice (some ⟨h.length,0,none⟩) n n,h++[⟨zeros z n,sz,ty,true⟩]):=by
  simp only [mkW]
  rw [if_pos ⟨by omega,by exact_mod_cast hn⟩,Int.toNat_natCast]
def mkRows (row:Nat→List Value) (k F n:Nat):List (List Value):=(List.range n).map fun i=>row (k+i*F)
theorem mkRows_len {row:Nat→List Value} {k F n:Nat}:(mkRows row k F n).length=n:=by simp [mkRows]
theorem range_getD {n i:Nat} (hi:i < n):(List.range n).getD i 0=i:=by simp [hi]
section
variable {h h' h0:Heap} {lo hi sz:Nat} {ty:TypeId} {v:Value} {rws:List (List Value)}
theorem Own.el (o:Own h lo hi sz ty v rws) {i:Nat} (hi':i < rws.length):iaV h sz v (.int .i64 (i:Int))=some (elemP v sz i 0)∧∀ o k,faV h (elemP v sz i o) k=some (elemP v sz i (o+k)) :=
  ⟨by have:=o.rows.ia (k:=.i64) (i:=(i:Int)) (by omega) (by omega);simpa using this,fun _ _=>elem_fa o.rows hi'⟩
theorem Own.ln (o:Own h lo hi sz ty v rws):lnV h v=some (.int .i64 rws.length):=o.rows.ln
theorem putAt_at {i:Nat} {r:List Value} (hi':i < rws.length) (h':i < (rws.set i r).length):(rws.set i r)[i]=r:=by simp
theorem Own.st2 {i : Nat} {r : List Value} (o : Own h lo hi sz ty v (rws.set i r)) (hi' : i < rws.length) {k : Nat} {vs : List Value} (hk : k + vs.length ≤ sz) :
    ∃ h',stC h (elemP v sz i k) vs=some h'∧Same lo hi h h'∧Own h' lo hi sz ty v (rws.set i (putAt r k vs)):=by
  obtain ⟨h',h1,h2,h3⟩:=o.st (i:=i) (by simpa using hi') hk
  rw [putAt_at hi',List.set_set] at h3;exact ⟨h',h1,h2,h3⟩
theorem Own.self {i:Nat} (o:Own h lo hi sz ty v rws) (hi':i < rws.length):Own h lo hi sz ty v (rws.set i rws[i]):=by rw [List.set_getElem_self];exact o
theorem Own.row_len (o:Own h lo hi sz ty v rws) {i:Nat} (hi':i < rws.length):rws[i].length=sz:=o.len _ (List.getElem_mem hi')
theorem rows_eq {rws rws':List (List Value)} (h1:rws.length=rws'.length) (h2:∀ j,j < rws.length→rws[j]?=rws'[j]?):rws=rws':=by
  apply List.ext_getElem?
  intro j
  by_cases hj:j < rws.length
  · exact h2 j hj
  · rw [List.getElem?_eq_none (by omega),List.getElem?_eq_none (by omega)]
theorem mkRows_get {row:Nat→List Value} {k F n j:Nat} (hj:j < n):(mkRows row k F n)[j]?=some (row (k+j*F)):=by simp [mkRows,hj]
end
def mkD (n:Nat) (s:ByteArray):ByteArray:=if 0 < n then mkD (n / 10) (strOfNums [((48+n%10:Nat):Int)]++s) else s
termination_by n
decreasing_by omega
def mByte:ByteArray:=⟨⟨[109]⟩⟩
def mkT (n:Nat):ByteArray:=if n=0 then ⟨⟨[109,48]⟩⟩ else mByte++mkD n noT
theorem mkD_zero {s:ByteArray}:mkD 0 s=s:=by unfold mkD;simp
theorem mkD_pos {n:Nat} {s:ByteArray} (h:0 < n):mkD n s=mkD (n / 10) (strOfNums [((48+n%10:Nat):Int)]++s):=by rw [mkD,if_pos h]
theorem mkD_size:∀ (k n:Nat) (s:ByteArray),n < 10 ^ k→(mkD n s).size≤s.size+k:=by
  intro k
  induction k with
  | zero => intro n s h; have : n = 0 := by simpa using h
            subst this;unfold mkD;simp
  | succ k ih =>
    intro n s h;unfold mkD;split
    · have:=ih (n / 10) (strOfNums [((48+n%10:Nat):Int)]++s) (by rw [Nat.pow_succ] at h;exact Nat.div_lt_of_lt_mul (by omega))
      rw [ByteArray.size_append,strOfNums_size] at this;simp only [List.length_cons,List.length_nil] at this;omega
    · omega
section
variable {h:Heap} {a:Value}
theorem Rows.sub {rws : List (List Value)} {sz i k : Nat} (r : Rows h sz a rws) (h1 : i ≤ k) (h2 : k ≤ rws.length) (hz : 0 < sz) {lo hi : Option Value} (hlo : bnd 0 lo = some (i : Int)) (hhi : bnd rws.length hi = some (k : Int)) :
    ∃ v',slLV sz a lo hi h=some v'∧Rows h sz v' ((rws.drop i).take (k - i)):=by
  rcases r.is with ⟨rfl,rfl⟩ | ⟨b,off,cap,blk,rfl,g1,g2,g3,g4,g5⟩
  · have e1:k=0:=by simpa using h2
    have e2:i=0:=by omega
    subst e1;subst e2
    have g1:bnd 0 lo=some 0:=by simpa using hlo
    have g2:bnd 0 hi=some 0:=by simpa using hhi
    exact ⟨.slice none 0 0,by simp only [slLV,g1,g2],by simpa using Rows.nil⟩
  · have hm:i*sz≤k*sz:=Nat.mul_le_mul_right sz h1
    have hm2:k*sz≤rws.length*sz:=Nat.mul_le_mul_right sz h2;have hm3:rws.length*sz≤cap*sz:=Nat.mul_le_mul_right sz g4
    have hlen:((rws.drop i).take (k - i)).length=k - i:=by simp;omega
    refine ⟨.slice (some ⟨b,off+i*sz,none⟩) (k - i) (cap - i),?_,fun q hq=>r.len q (List.mem_of_mem_drop (List.mem_of_mem_take hq)),.inr ⟨b,off+i*sz,cap - i,blk,by rw [hlen],g1,g2,?_,by omega,?_⟩⟩
    · simp only [slLV,g1,hlo,hhi]
      rw [if_pos ⟨by omega,by omega,by omega,g2,g3⟩]
      rw [show ((k:Int) - (i:Int)).toNat=k - i by omega,Int.toNat_natCast]
    · rw [Nat.sub_mul];omega
    · rw [hlen]
      have e2:(rws.drop i).flatten=(blk.cells.drop (off+i*sz)).take ((rws.length - i)*sz):=by
        have:rws.flatten=(rws.take i).flatten++(rws.drop i).flatten:=by rw [← List.flatten_append,List.take_append_drop]
        rw [← g5] at this
        have hl1:(rws.take i).flatten.length=i*sz:=by rw [flatten_len fun q hq=>r.len q (List.mem_of_mem_take hq),List.length_take,Nat.min_eq_left (by omega)]
        have h3:((blk.cells.drop off).take (rws.length*sz)).drop (i*sz)=(rws.drop i).flatten:=by rw [this,List.drop_append,hl1,Nat.sub_self,List.drop_of_length_le (by omega)];rfl
        rw [← h3,List.drop_take,List.drop_drop,Nat.sub_mul]
      have e3:((rws.drop i).take (k - i)).flatten=((rws.drop i).flatten).take ((k - i)*sz):=by
        have hl1:((rws.drop i).take (k - i)).flatten.length=(k - i)*sz:=by rw [flatten_len fun q hq=>r.len q (List.mem_of_mem_drop (List.mem_of_mem_take hq)),hlen]
        conv=>rhs;rw [← List.take_append_drop (k - i) (rws.drop i),List.flatten_append]
        rw [List.take_left' hl1]
      rw [e3,e2,List.take_take,Nat.min_eq_left (Nat.mul_le_mul_right sz (by omega))]
end
end Go.Proofs.Ytafhipglhnfgnaa.Ab
set_option linter.unusedSimpArgs false
set_option linter.unusedVariables false
set_option linter.unnecessarySimpa false
set_option maxHeartbeats 4000000
namespace Go.Proofs.Ytafhipglhnfgnaa.Ab
theorem take_getD {α:Type} {l:List α} {i:Nat} {d:α} (hi:i < l.length):l.take (i+1)=l.take i++[l.getD i d]:=by
  rw [List.take_succ_eq_append_getElem hi];simp [hi]
theorem getD_mem {α:Type} {l:List α} {i:Nat} {d:α} (hi:i < l.length):l.getD i d∈l:=by
  simp [hi]
theorem mem_getD {α:Type} {l:List α} {x d:α} (hx:x∈l):∃ i,i < l.length∧l.getD i d=x:=by
  obtain ⟨i,hi,rfl⟩:=List.getElem_of_mem hx
  exact ⟨i,hi,by simp [hi]⟩
theorem below_succ {P:Nat→Prop} {i:Nat} (h:∀ j,j < i→P j) (hi:P i):∀ j,j < i+1→P j:=fun j hj=>by
  by_cases e:j=i
  · subst e;exact hi
  · exact h j (by omega)
theorem not_mem_getD {α:Type} {l:List α} {x d:α} (h:∀ j,j < l.length→¬ l.getD j d=x):¬ x∈l:=fun hm=>by
  obtain ⟨i,h1,h2⟩:=mem_getD (d:=d) hm;exact h i h1 h2
def firstIx {α:Type} (p:α→Prop) [DecidablePred p]:List α→Int
  | []=>-1
  | a::l=>if p a then 0 else if firstIx p l < 0 then -1 else firstIx p l+1
section
variable {α:Type} {p:α→Prop} [DecidablePred p]
theorem firstIx_none {d:α}:∀ {l:List α},(∀ j,j < l.length→¬ p (l.getD j d))→firstIx p l=-1
  | [],_=>rfl
  | a::l,h=>by
    have h0:=h 0 (by simp)
    have h1:firstIx p l=-1:=firstIx_none fun j hj=>by have:=h (j+1) (by simpa using hj);simpa using this
    unfold firstIx
    rw [if_neg (by simpa using h0),if_pos (by omega)]
theorem firstIx_at {d:α}:∀ {l:List α} {i:Nat},i < l.length→p (l.getD i d)→(∀ j,j < i→¬ p (l.getD j d))→firstIx p l=i
  | [],_,h,_,_=>by simp at h
  | a::l,0,_,hp,_=>by unfold firstIx;rw [if_pos (by simpa using hp)];rfl
  | a::l,i+1,h,hp,hn=>by
    have h0:=hn 0 (by omega)
    have h1:firstIx p l=i:=firstIx_at (by simpa using h) (by simpa using hp) fun j hj=>by have:=hn (j+1) (by omega);simpa using this
    unfold firstIx
    rw [if_neg (by simpa using h0),if_neg (by omega),h1]
    omega
theorem firstIx_cases (d:α):∀ l:List α,(firstIx p l=-1∧∀ j,j < l.length→¬ p (l.getD j d))∨∃ i:Nat,firstIx p l=i∧i < l.length∧p (l.getD i d)∧∀ j,j < i→¬ p (l.getD j d)
  | []=>.inl ⟨rfl,fun j h=>by simp at h⟩
  | a::l=>by
    by_cases ha:p a
    · refine .inr ⟨0,by unfold firstIx;rw [if_pos ha];rfl,by simp,by simpa using ha,fun j h=>by omega⟩
    · rcases firstIx_cases d l with ⟨h1,h2⟩ | ⟨i,h1,h2,h3,h4⟩
      · refine .inl ⟨by unfold firstIx;rw [if_neg ha,if_pos (by omega)],fun j hj=>?_⟩
        cases j with
        | zero=>simpa using ha
        | succ j=>simpa using h2 j (by simpa using hj)
      · refine .inr ⟨i+1,by unfold firstIx;rw [if_neg ha,if_neg (by omega),h1];omega,by simpa using h2,by simpa using h3,fun j hj=>?_⟩
        cases j with
        | zero=>simpa using ha
        | succ j=>simpa using h4 j (by omega)
end
abbrev Asc (l:List Int):Prop:=l.Pairwise (· < ·)
theorem asc_ext:∀ {l m:List Int},Asc l→Asc m→(∀ x,x∈l↔x∈m)→l=m
  | [],[],_,_,_=>rfl
  | [],b::m,_,_,h=>by have:=(h b).2 List.mem_cons_self;cases this
  | a::l,[],_,_,h=>by have:=(h a).1 List.mem_cons_self;cases this
  | a::l,b::m,ha,hb,h=>by
    rw [Asc,List.pairwise_cons] at ha hb
    have e:a=b:=by
      have h1:=(h a).1 List.mem_cons_self;have h2:=(h b).2 List.mem_cons_self;rcases List.mem_cons.1 h1 with h1 | h1
      · exact h1
      rcases List.mem_cons.1 h2 with h2 | h2
      · exact h2.symm
      have:=hb.1 a h1;have:=ha.1 b h2;omega
    subst e
    congr 1
    refine asc_ext ha.2 hb.2 fun x=>⟨fun hx=>?_,fun hx=>?_⟩
    · rcases List.mem_cons.1 ((h x).1 (List.mem_cons_of_mem _ hx)) with rfl | hm
      · have:=ha.1 x hx;omega
      · exact hm
    · rcases List.mem_cons.1 ((h x).2 (List.mem_cons_of_mem _ hx)) with rfl | hm
      · have:=hb.1 x hx;omega
      · exact hm
end Go.Proofs.Ytafhipglhnfgnaa.Ab
set_option linter.unusedSimpArgs false
set_option linter.unusedVariables false
set_option linter.unnecessarySimpa false
set_option maxHeartbeats 4000000
namespace Go.Proofs.Ytafhipglhnfgnaa.Ab
open Go.RowKit
abbrev nilV:Value:=.slice none 0 0
def tlo:Value→Nat
  | .slice (some a) _ _=>a.block
  | _=>0
def thi:Value→Nat
  | .slice (some a) _ _=>a.block+1
  | _=>0
def Sep (v w:Value):Prop:=thi v≤tlo w∨thi w≤tlo v
theorem Sep.symm {v w:Value} (h:Sep v w):Sep w v:=Or.symm h
theorem sep_nil {v:Value}:Sep v nilV:=.inr (Nat.zero_le _)
section
variable {h h':Heap} {lo hi lo' hi' sz sz':Nat} {ty ty':TypeId} {v w:Value} {rws rws':List (List Value)}
theorem Own.tight (o:Own h lo hi sz ty v rws):Own h (tlo v) (thi v) sz ty v rws:=by
  refine ⟨o.len,?_⟩;rcases o.is with hn | ⟨b,_,_,rfl,h2⟩
  · exact .inl hn
  · exact .inr ⟨b,Nat.le_refl _,Nat.lt_succ_self _,rfl,h2⟩
theorem Own.within (o:Own h lo hi sz ty v rws):v=nilV∨(lo≤tlo v∧thi v≤hi∧tlo v < thi v):=by
  rcases o.is with ⟨rfl,_⟩ | ⟨b,_,_,rfl,h2⟩
  · exact .inl rfl
  · exact .inr ⟨by assumption,by assumption,Nat.lt_succ_self _⟩
theorem Own.sep (o:Own h lo hi sz ty v rws) (q:Own h' lo' hi' sz' ty' w rws') (hd:hi≤lo'∨hi'≤lo):Sep v w:=by
  rcases o.within with rfl | ⟨h1,h2,_⟩
  · exact sep_nil.symm
  rcases q.within with rfl | ⟨h3,h4,_⟩
  · exact sep_nil
  unfold Sep;omega
theorem Own.apart (o:Own h lo hi sz ty v rws) {w:Value} (a:Same (tlo w) (thi w) h h') (hs:Sep v w):Own h' lo hi sz ty v rws:=by
  have t:=o.tight.same a hs;rcases o.within with rfl | ⟨h1,h2,_⟩
  · refine ⟨o.len,.inl ⟨rfl,?_⟩⟩
    rcases o.is with ⟨_,e⟩ | ⟨b,_,_,e,_⟩
    · exact e
    · cases e
  · exact t.wide h1 h2
end
theorem push_is {h : Heap} {lo hi sz : Nat} {ty : TypeId} {v : Value} {rws : List (List Value)} (o : Own h lo hi sz ty v rws) (hlo : lo ≤ h.length) (new : List (List Value)) (hn : ∀ r ∈ new, r.length = sz) (h1 : new ≠ []) (hl : rws.length + new.length ≤ lim) :
    ∃ v' h',appLW h sz ty new.length v (some new.flatten)=some (v',h')∧h.length≤h'.length∧(∀ b,b < h.length→(b < tlo v∨thi v≤b)→h'[b]?=h[b]?) ∧
      ((v=nilV∧tlo v'=h.length∧thi v'=h.length+1∧h'.length=h.length+1)∨(v≠nilV∧h'.length=h.length∧tlo v'=tlo v∧thi v'=thi v))∧Own h' (tlo v') (thi v') sz ty v' (rws++new):=by
  have hf:=flatten_len hn
  have h0:¬ new.length=0:=fun e=>h1 (List.length_eq_zero_iff.1 e)
  have hall:∀ r∈rws++new,r.length=sz:=fun r hr=>by
    rcases List.mem_append.1 hr with hr | hr
    · exact o.len r hr
    · exact hn r hr
  rcases o.is with ⟨rfl,rfl⟩ | ⟨b,l1,l2,rfl,h2⟩
  · refine ⟨.slice (some ⟨h.length,0,none⟩) new.length new.length,h++[⟨new.flatten,sz,ty,true⟩],?_,by simp,fun b hb _=>?_,.inl ⟨rfl,rfl,rfl,by simp⟩,hall,.inr ⟨h.length,Nat.le_refl _,Nat.lt_succ_self _,rfl,by simp⟩⟩
    · simp only [appLW,appV]
      rw [if_pos hf,if_neg h0,if_pos (by simpa using hl)]
    · rw [List.getElem?_append_left hb]
  · have hb:=lt_of_get h2
    have hr:=flatten_len o.len
    refine ⟨.slice (some ⟨b,0,none⟩) (rws++new).length (rws++new).length,h.set b ⟨(rws++new).flatten,sz,ty,true⟩,?_,by simp,fun b' _ hb'=>?_,.inr ⟨(fun e=>by cases e),by simp,rfl,rfl⟩,hall,.inr ⟨b,Nat.le_refl _,Nat.lt_succ_self _,rfl,by rw [List.getElem?_set_self hb]⟩⟩
    · simp only [appLW,appV,h2,List.length_append]
      rw [if_pos hf,if_pos (by rw [hr];omega),if_neg h0,if_pos ⟨trivial,trivial,trivial,trivial,trivial,hl⟩]
      rw [List.flatten_append]
    · have:b'≠b:=by simp only [tlo,thi] at hb';omega
      rw [List.getElem?_set_ne (Ne.symm this)]
theorem Own.grow {h : Heap} {lo hi sz : Nat} {ty : TypeId} {v : Value} {rws : List (List Value)} (o : Own h lo hi sz ty v rws) (hv : v ≠ nilV) (new : List (List Value)) (hn : ∀ r ∈ new, r.length = sz) (h1 : new ≠ []) (hl : rws.length + new.length ≤ lim) :
    ∃ v' h',appLW h sz ty new.length v (some new.flatten)=some (v',h')∧v'≠nilV∧Same lo hi h h'∧Own h' lo hi sz ty v' (rws++new):=by
  have hlo:lo≤h.length:=by
    rcases o.is with ⟨rfl,_⟩ | ⟨b,l1,l2,rfl,h2⟩
    · exact absurd rfl hv
    · have:=lt_of_get h2;omega
  obtain ⟨v',h',e,g,b,c,o'⟩:=push_is o hlo new hn h1 hl;rcases c with ⟨c,_⟩ | ⟨_,c1,c2,c3⟩
  · exact absurd c hv
  · rcases o.within with w | ⟨w1,w2,w3⟩
    · exact absurd w hv
    refine ⟨v',h',e,?_,⟨c1,fun b' hb'=>?_⟩,by rw [c2,c3] at o';exact o'.wide w1 w2⟩
    · rintro rfl
      have:tlo v=thi v:=c2.symm.trans (show tlo nilV=thi v from c3)
      omega
    · by_cases hlt:b' < h.length
      · exact b b' hlt (by omega)
      · rw [List.getElem?_eq_none (by omega),List.getElem?_eq_none (by omega)]
def RowsLL (h:Heap) (v:Value) (ll:List (List Int)):Prop:=∃ vs:List Value,vs.length=ll.length∧Rows h 1 v (vs.map fun x=>[x])∧∀ i,i < ll.length→Rows h 1 (vs.getD i nilV) (ints (ll.getD i []))
structure OwnLLs (h:Heap) (lo hi:Nat) (tyO tyI:TypeId) (v:Value) (ll:List (List Int)) (vs:List Value):Prop where
  len:vs.length=ll.length
  out:Own h lo hi 1 tyO v (vs.map fun x=>[x])
  ins:∀ i,i < ll.length→Own h lo hi 1 tyI (vs.getD i nilV) (ints (ll.getD i []))
  so:∀ i,i < ll.length→Sep v (vs.getD i nilV)
  si:∀ i j,i < j→j < ll.length→Sep (vs.getD i nilV) (vs.getD j nilV)
def OwnLL (h:Heap) (lo hi:Nat) (tyO tyI:TypeId) (v:Value) (ll:List (List Int)):Prop:=∃ vs,OwnLLs h lo hi tyO tyI v ll vs
section
variable {h h' h0:Heap} {lo hi lo' hi':Nat} {tyO tyI:TypeId} {v w:Value} {ll:List (List Int)} {l:List Int}
theorem OwnLL.rows (o:OwnLL h lo hi tyO tyI v ll):RowsLL h v ll:=by
  obtain ⟨vs,h1,h2,h3,_,_⟩:=o
  exact ⟨vs,h1,h2.rows,fun i hi=>(h3 i hi).rows⟩
theorem OwnLL.up (o:OwnLL h lo hi tyO tyI v ll) (hp:h <+: h'):OwnLL h' lo hi tyO tyI v ll:=by
  obtain ⟨vs,h1,h2,h3,h4,h5⟩:=o
  exact ⟨vs,h1,h2.up hp,fun i hi=>(h3 i hi).up hp,h4,h5⟩
theorem OwnLL.wide (o:OwnLL h lo hi tyO tyI v ll) (k1:lo'≤lo) (k2:hi≤hi'):OwnLL h lo' hi' tyO tyI v ll:=by
  obtain ⟨vs,h1,h2,h3,h4,h5⟩:=o
  exact ⟨vs,h1,h2.wide k1 k2,fun i hi=>(h3 i hi).wide k1 k2,h4,h5⟩
theorem OwnLL.same (o:OwnLL h lo hi tyO tyI v ll) (a:Same lo' hi' h h') (hd:hi≤lo'∨hi'≤lo):OwnLL h' lo hi tyO tyI v ll:=by
  obtain ⟨vs,h1,h2,h3,h4,h5⟩:=o
  exact ⟨vs,h1,h2.same a hd,fun i hi=>(h3 i hi).same a hd,h4,h5⟩
theorem OwnLL.nil:OwnLL h lo hi tyO tyI nilV []:=⟨[],rfl,Own.nil,fun i hi=>(by simp at hi),fun i hi=>(by simp at hi),fun i j _ hi=>(by simp at hi)⟩
theorem OwnLL.zero (o:Own h lo hi 1 tyO v []):OwnLL h lo hi tyO tyI v []:=⟨[],rfl,o,fun i hi=>(by simp at hi),fun i hi=>(by simp at hi),fun i j _ hi=>(by simp at hi)⟩
theorem OwnLL.live (o:OwnLL h lo hi tyO tyI v ll):live v=true:=by
  obtain ⟨vs,h1,h2,_,_,_⟩:=o;exact h2.live
theorem OwnLL.fin (hp:h <+: h') (o:OwnLL h' h.length h'.length tyO tyI v ll):h <+: (finish h (v,h')).2∧OwnLL (finish h (v,h')).2 h.length (finish h (v,h')).2.length tyO tyI (finish h (v,h')).1 ll:=by
  obtain ⟨h3,e,p3,hc⟩:=finish_cases (v:=v) hp;rw [e];rcases hc with rfl | ⟨hf,rfl⟩
  · exact ⟨hp,o⟩
  · refine ⟨p3,?_⟩
    obtain ⟨vs,h1,h2,h4,h5,h6⟩:=o;rcases h2.is with ⟨rfl,e2⟩ | ⟨b,_,_,rfl,_⟩
    · have:ll=[]:=by
        have:vs=[]:=by simpa using e2
        subst this;exact List.length_eq_zero_iff.1 h1.symm
      subst this;exact OwnLL.nil
    · cases hf
theorem RowsLL.up (o:RowsLL h v ll) (hp:h <+: h'):RowsLL h' v ll:=by
  obtain ⟨vs,h1,h2,h3⟩:=o
  exact ⟨vs,h1,h2.up hp,fun i hi=>(h3 i hi).up hp⟩
theorem RowsLL.ln (o:RowsLL h v ll):lnV h v=some (.int .i64 ll.length):=by
  obtain ⟨vs,h1,h2,h3⟩:=o;rw [h2.ln,List.length_map,h1]
theorem RowsLL.el (o:RowsLL h v ll) {i:Nat} (hi:i < ll.length):∃ x,iaV h 1 v (.int .i64 (i:Int))=some (elemP v 1 i 0)∧ldC h (elemP v 1 i 0) 1=some [x]∧Rows h 1 x (ints (ll.getD i [])):=by
  obtain ⟨vs,h1,h2,h3⟩:=o
  have e:=h2.el (f:=fun x=>[x]) nilV (i:=i) (by omega)
  exact ⟨vs.getD i nilV,e.1,e.2.2,h3 i hi⟩
theorem OwnLLs.pushG {lo2 hi2 : Nat} {vs : List Value} (o : OwnLLs h lo hi tyO tyI v ll vs) (hlo : lo ≤ h.length) (hhi : hi ≤ h.length) (q : Own h lo2 hi2 1 tyI w (ints l)) (hwsepv : Sep v w) (hws : ∀ i, i < ll.length → Sep (vs.getD i nilV) w) (hd2 : hi2 ≤ h.length) (hl : ll.length < lim) :
    ∃ v' h',appLW h 1 tyO 1 v (some [w])=some (v',h')∧h.length≤h'.length∧(∀ b,b < h.length→(b < tlo v∨thi v≤b)→h'[b]?=h[b]?)∧(v≠nilV→h'.length=h.length∧tlo v'=tlo v∧thi v'=thi v) ∧
      (v'≠nilV∧(v=nilV→tlo v'=h.length))∧OwnLLs h' (min lo lo2) h'.length tyO tyI v' (ll++[l]) (vs++[w]):=by
  obtain ⟨h1,h2,h3,h4,h5⟩:=o
  obtain ⟨v',h',e,g,b,c,o'⟩:=push_is h2 hlo [[w]] (fun r hr=>by rw [List.mem_singleton.1 hr];rfl) (by simp) (by simp;omega)
  simp only [List.flatten_cons,List.flatten_nil,List.append_nil,List.length_cons,List.length_nil,Nat.zero_add] at e
  have same:∀ {x:Value} {rr:List (List Value)} {p r:Nat},Own h p r 1 tyI x rr→r≤h.length→Sep v x→Own h' p r 1 tyI x rr:=by
    intro x rr p r ox hr hs;refine ⟨ox.len,?_⟩;rcases ox.is with hn | ⟨c,l1,l2,rfl,hc⟩
    · exact .inl hn
    · exact .inr ⟨c,l1,l2,rfl,by rw [b c (by omega) (by simp only [Sep,tlo,thi] at hs ⊢;omega)];exact hc⟩
  have hv'sep:∀ {x:Value},Sep v x→(x=nilV∨thi x≤h.length)→Sep v' x:=by
    intro x hs hx;rcases c with ⟨rfl,c1,c2,c3⟩ | ⟨_,_,c2,c3⟩
    · rcases hx with rfl | hx
      · exact sep_nil
      · exact .inr (by omega)
    · unfold Sep at hs ⊢;omega
  have hwin:w=nilV∨thi w≤h.length:=by
    rcases q.within with h | ⟨_,h,_⟩
    · exact .inl h
    · exact .inr (by omega)
  have hlv:lo≤tlo v':=by
    rcases c with ⟨_,c1,_⟩ | ⟨hv,_,c2,_⟩
    · omega
    · rcases h2.within with k | k
      · exact absurd k hv
      · omega
  have hnz:thi v'≤h'.length∧tlo v' < thi v':=by
    rcases c with ⟨_,c1,c2,c3⟩ | ⟨hv,c1,c2,c3⟩
    · omega
    · rcases h2.within with k | k
      · exact absurd k hv
      · omega
  refine ⟨v',h',e,g,b,fun hv=>?_,⟨?_,fun hv=>?_⟩,⟨by simp [h1],?_,fun i hi'=>?_,fun i hi'=>?_,fun i j hij hj=>?_⟩⟩
  · rcases c with ⟨k,_⟩ | ⟨_,k⟩
    · exact absurd k hv
    · exact k
  · rintro rfl
    have:tlo nilV < thi nilV:=hnz.2;exact absurd this (Nat.lt_irrefl 0)
  · rcases c with ⟨_,k,_⟩ | ⟨k,_⟩
    · exact k
    · exact absurd hv k
  · rw [List.map_append]
    exact o'.wide (by omega) hnz.1
  · by_cases hil:i < ll.length
    · have e1:(vs++[w]).getD i nilV=vs.getD i nilV:=by simp [List.getElem?_append_left (show i < vs.length by omega)]
      have e2:(ll++[l]).getD i []=ll.getD i []:=by simp [List.getElem?_append_left hil]
      rw [e1,e2]
      exact (same (h3 i hil) hhi (h4 i hil)).wide (by omega) (by omega)
    · have hil:i=ll.length:=by simp at hi';omega
      subst hil
      have e1:(vs++[w]).getD ll.length nilV=w:=by rw [← h1];simp
      have e2:(ll++[l]).getD ll.length []=l:=by simp
      rw [e1,e2]
      exact (same q hd2 hwsepv).wide (by omega) (by omega)
  · by_cases hil:i < ll.length
    · have e1:(vs++[w]).getD i nilV=vs.getD i nilV:=by simp [List.getElem?_append_left (show i < vs.length by omega)]
      rw [e1];refine hv'sep (h4 i hil) ?_;rcases (h3 i hil).within with h | ⟨_,h,_⟩
      · exact .inl h
      · exact .inr (by omega)
    · have hil:i=ll.length:=by simp at hi';omega
      subst hil
      have e1:(vs++[w]).getD ll.length nilV=w:=by rw [← h1];simp
      rw [e1];exact hv'sep hwsepv hwin
  · have hil:i < ll.length:=by simp at hj;omega
    have e1:(vs++[w]).getD i nilV=vs.getD i nilV:=by simp [List.getElem?_append_left (show i < vs.length by omega)]
    rw [e1]
    by_cases hjl:j < ll.length
    · have e2:(vs++[w]).getD j nilV=vs.getD j nilV:=by simp [List.getElem?_append_left (show j < vs.length by omega)]
      rw [e2];exact h5 i j hij hjl
    · have hjl:j=ll.length:=by simp at hj;omega
      subst hjl
      have e2:(vs++[w]).getD ll.length nilV=w:=by rw [← h1];simp
      rw [e2];exact hws i hil
theorem OwnLLs.push {lo2 hi2 : Nat} {vs : List Value} (o : OwnLLs h lo hi tyO tyI v ll vs) (hlo : lo ≤ h.length) (hhi : hi ≤ h.length) (q : Own h lo2 hi2 1 tyI w (ints l)) (hd : hi ≤ lo2) (hd2 : hi2 ≤ h.length) (hl : ll.length < lim) :
    ∃ v' h',appLW h 1 tyO 1 v (some [w])=some (v',h')∧h.length≤h'.length∧(∀ b,b < h.length→(b < tlo v∨thi v≤b)→h'[b]?=h[b]?)∧(v≠nilV→h'.length=h.length∧tlo v'=tlo v∧thi v'=thi v) ∧
      (v'≠nilV∧(v=nilV→tlo v'=h.length))∧OwnLLs h' (min lo lo2) h'.length tyO tyI v' (ll++[l]) (vs++[w]) :=
  o.pushG hlo hhi q (o.out.sep q (.inl hd)) (fun i hi=>(o.ins i hi).sep q (.inl hd)) hd2 hl
theorem OwnLL.push (o : OwnLL h0 lo hi tyO tyI v ll) (hlo : lo ≤ h0.length) (hhi : hi ≤ h0.length) (hp : h0 <+: h) (q : Own h h0.length h.length 1 tyI w (ints l)) (hl : ll.length < lim) :
    ∃ v' h',appLW h 1 tyO 1 v (some [w])=some (v',h')∧h.length≤h'.length∧(∀ b,b < lo→h'[b]?=h[b]?)∧OwnLL h' lo h'.length tyO tyI v' (ll++[l]):=by
  obtain ⟨vs,o⟩:=o;have hlen:=pre_len hp
  obtain ⟨v',h',e,g,b,c,_,o'⟩:=(show OwnLLs h lo hi tyO tyI v ll vs from ⟨o.len,o.out.up hp,fun i hi=>(o.ins i hi).up hp,o.so,o.si⟩).push (by omega) (by omega) q hhi (Nat.le_refl _) hl
  refine ⟨v',h',e,g,fun x hx=>?_,vs++[w],by rw [Nat.min_eq_left hlo] at o';exact o'⟩
  refine b x (by omega) ?_
  rcases o.out.within with rfl | ⟨k1,k2,_⟩
  · exact .inr (Nat.zero_le _)
  · exact .inl (by omega)
theorem OwnLLs.apart {vs:List Value} (o:OwnLLs h lo hi tyO tyI v ll vs) (a:Same (tlo w) (thi w) h h') (h1:Sep v w) (h2:∀ i,i < ll.length→Sep (vs.getD i nilV) w):OwnLLs h' lo hi tyO tyI v ll vs :=
  ⟨o.len,o.out.apart a h1,fun i hi=>(o.ins i hi).apart a (h2 i hi),o.so,o.si⟩
end
end Go.Proofs.Ytafhipglhnfgnaa.Ab
