/- Groups and proofs: lists of structs that hold lists. No conditions. -/
import Derived.Test.YtafhipglhnfgnaaM4
import Derived.Test.YtafhipglhnfgnaaFN
set_option linter.unusedSimpArgs false
set_option linter.unusedVariables false
set_option linter.unnecessarySimpa false
set_option maxHeartbeats 4000000
namespace Go.Proofs.Ytafhipglhnfgnaa.Ab
open Go.RowKit
structure Gp where
  ms:List Int
  z:Int
def g0:Gp:=⟨[],0⟩
def Km (vs:List Value)(gs:List Gp)(i:Nat):List Value:=[vs.getD i zh,.int .i64 (gs.getD i g0).z]
abbrev qT (vs:List Value)(gs:List Gp):List (List Value):=(List.range gs.length).map (Km vs gs)
def qp (h:za)(v:Value)(gs:List Gp):Prop:=∃vs,Rows h 2 v (qT vs gs)∧∀i,i<gs.length→Rows h 1 (vs.getD i zh) (zq (gs.getD i g0).ms)
structure zdA (h:za)(lo hi:Nat)(ty:TypeId)(v:Value)(gs:List Gp)(vs:List Value):Prop where
  out:Own h lo hi 2 ty v (qT vs gs)
  ins:∀i,i<gs.length→Own h lo hi 1 zf (vs.getD i zh) (zq (gs.getD i g0).ms)
  so:∀i,i<gs.length→Sep v (vs.getD i zh)
  si:∀i j,i<j→j<gs.length→Sep (vs.getD i zh) (vs.getD j zh)
def qK (h:za)(lo hi:Nat)(ty:TypeId)(v:Value)(gs:List Gp):Prop:=∃vs,zdA h lo hi ty v gs vs
section
variable {h h':za}{lo hi lo' hi':Nat}{ty:TypeId}{v:Value}{gs:List Gp}
theorem qp.up (o:qp h v gs)(hp:h <+: h'):qp h' v gs:=by
  obtain⟨vs,h1,h2⟩:=o
  exact⟨vs,h1.up hp,fun i hi=>(h2 i hi).up hp⟩
theorem qp.ln (o:qp h v gs):lnV h v=some (.int .i64 gs.length):=by
  obtain⟨vs,h1,h2⟩:=o;rw[h1.ln,List.length_map,List.length_range]
theorem qp.el (o : qp h v gs) {i : Nat} (hi : i < gs.length) : ∃ x, iaV h 2 v (.int .i64 (i : Int)) = some (zz v 2 i 0) ∧ (∀ o k, faV h (zz v 2 i o) k = some (zz v 2 i (o + k))) ∧ ldC h (zz v 2 i 0) 2 = some [x, .int .i64 (gs.getD i g0).z] ∧
    ldC h (zz v 2 i 0) 1=some [x]∧ldC h (zz v 2 i 1) 1=some [.int .i64 (gs.getD i g0).z]∧Rows h 1 x (zq (gs.getD i g0).ms):=by
  obtain⟨vs,h1,h2⟩:=o
  have hr:i<(List.range gs.length).length:=by simpa using hi
  have e:=h1.el (f:=Km vs gs) 0 hr
  have c0:=h1.cell (f:=Km vs gs) 0 hr (o:=0) (by omega)
  have c1:=h1.cell (f:=Km vs gs) 0 hr (o:=1) (by omega)
  rw[cI hi] at e c0 c1;exact⟨vs.getD i zh,e.1,e.2.1,e.2.2,c0,c1,h2 i hi⟩
theorem qK.rows (o:qK h lo hi ty v gs):qp h v gs:=by
  obtain⟨vs,h1,h2,_,_⟩:=o
  exact⟨vs,h1.rows,fun i hi=>(h2 i hi).rows⟩
theorem qK.up (o:qK h lo hi ty v gs)(hp:h <+: h'):qK h' lo hi ty v gs:=by
  obtain⟨vs,h1,h2,h3,h4⟩:=o
  exact⟨vs,h1.up hp,fun i hi=>(h2 i hi).up hp,h3,h4⟩
theorem qK.wide (o:qK h lo hi ty v gs)(k1:lo'≤lo)(k2:hi≤hi'):qK h lo' hi' ty v gs:=by
  obtain⟨vs,h1,h2,h3,h4⟩:=o
  exact⟨vs,h1.wide k1 k2,fun i hi=>(h2 i hi).wide k1 k2,h3,h4⟩
theorem qK.same (o:qK h lo hi ty v gs)(a:Qq lo' hi' h h')(hd:hi≤lo'∨hi'≤lo):qK h' lo hi ty v gs:=by
  obtain⟨vs,h1,h2,h3,h4⟩:=o
  exact⟨vs,h1.same a hd,fun i hi=>(h2 i hi).same a hd,h3,h4⟩
end
def Zg (yv gv:Value):Value:=.agg ⟨[yv,gv]⟩
def uG (ys:List Int)(gs:List Gp):Prop:=ys.length≤1048576∧gs.length≤1048576∧∀g∈gs,g.ms.length≤1048576
def yj (size:Int)(g:Gp):Prop:=(3≤g.ms.length∧g.ms.length%2=1∧1≤g.z∧g.z≤1000000000)∧∀j,j<g.ms.length→(0≤g.ms.getD j 0∧g.ms.getD j 0≤size-1)∧(0<j→g.ms.getD (j-1) 0<g.ms.getD j 0)
def gj (a b:List Int):Prop:=(∀x∈b,x∈a)∨(∀x∈b,¬x∈a)∨∀x∈a,x∈b
def ZJ (w1 w2 w3:Int):Int:=90000*w1+300*w2+w3
end Go.Proofs.Ytafhipglhnfgnaa.Ab
