/- Groups and proofs: lists of structs that hold lists. No conditions. -/
import Derived.Test.YtafhipglhnfgnaaM4
import Derived.Test.YtafhipglhnfgnaaFN
set_option linter.unusedSimpArgs false
set_option linter.unusedVariables false
set_option linter.unnecessarySimpa false
set_option maxHeartbeats 4000000
namespace Go.Proofs.Ytafhipglhnfgnaa.Ab
open Go.RowKit
structure Gp where
  ms:List Int
  z:Int
def g0:Gp:=⟨[],0⟩
def gRow (vs:List Value) (gs:List Gp) (i:Nat):List Value:=[vs.getD i nilV,.int .i64 (gs.getD i g0).z]
abbrev gRows (vs:List Value) (gs:List Gp):List (List Value):=(List.range gs.length).map (gRow vs gs)
def RowsG (h:Heap) (v:Value) (gs:List Gp):Prop:=∃ vs,Rows h 2 v (gRows vs gs)∧∀ i,i < gs.length→Rows h 1 (vs.getD i nilV) (ints (gs.getD i g0).ms)
structure OwnGs (h:Heap) (lo hi:Nat) (ty:TypeId) (v:Value) (gs:List Gp) (vs:List Value):Prop where
  out:Own h lo hi 2 ty v (gRows vs gs)
  ins:∀ i,i < gs.length→Own h lo hi 1 y_int (vs.getD i nilV) (ints (gs.getD i g0).ms)
  so:∀ i,i < gs.length→Sep v (vs.getD i nilV)
  si:∀ i j,i < j→j < gs.length→Sep (vs.getD i nilV) (vs.getD j nilV)
def OwnG (h:Heap) (lo hi:Nat) (ty:TypeId) (v:Value) (gs:List Gp):Prop:=∃ vs,OwnGs h lo hi ty v gs vs
section
variable {h h':Heap} {lo hi lo' hi':Nat} {ty:TypeId} {v:Value} {gs:List Gp}
theorem RowsG.up (o:RowsG h v gs) (hp:h <+: h'):RowsG h' v gs:=by
  obtain ⟨vs,h1,h2⟩:=o
  exact ⟨vs,h1.up hp,fun i hi=>(h2 i hi).up hp⟩
theorem RowsG.ln (o:RowsG h v gs):lnV h v=some (.int .i64 gs.length):=by
  obtain ⟨vs,h1,h2⟩:=o;rw [h1.ln,List.length_map,List.length_range]
theorem RowsG.el (o : RowsG h v gs) {i : Nat} (hi : i < gs.length) : ∃ x, iaV h 2 v (.int .i64 (i : Int)) = some (elemP v 2 i 0) ∧ (∀ o k, faV h (elemP v 2 i o) k = some (elemP v 2 i (o + k))) ∧ ldC h (elemP v 2 i 0) 2 = some [x, .int .i64 (gs.getD i g0).z] ∧
    ldC h (elemP v 2 i 0) 1=some [x]∧ldC h (elemP v 2 i 1) 1=some [.int .i64 (gs.getD i g0).z]∧Rows h 1 x (ints (gs.getD i g0).ms):=by
  obtain ⟨vs,h1,h2⟩:=o
  have hr:i < (List.range gs.length).length:=by simpa using hi
  have e:=h1.el (f:=gRow vs gs) 0 hr
  have c0:=h1.cell (f:=gRow vs gs) 0 hr (o:=0) (by omega)
  have c1:=h1.cell (f:=gRow vs gs) 0 hr (o:=1) (by omega)
  rw [range_getD hi] at e c0 c1;exact ⟨vs.getD i nilV,e.1,e.2.1,e.2.2,c0,c1,h2 i hi⟩
theorem OwnG.rows (o:OwnG h lo hi ty v gs):RowsG h v gs:=by
  obtain ⟨vs,h1,h2,_,_⟩:=o
  exact ⟨vs,h1.rows,fun i hi=>(h2 i hi).rows⟩
theorem OwnG.up (o:OwnG h lo hi ty v gs) (hp:h <+: h'):OwnG h' lo hi ty v gs:=by
  obtain ⟨vs,h1,h2,h3,h4⟩:=o
  exact ⟨vs,h1.up hp,fun i hi=>(h2 i hi).up hp,h3,h4⟩
theorem OwnG.wide (o:OwnG h lo hi ty v gs) (k1:lo'≤lo) (k2:hi≤hi'):OwnG h lo' hi' ty v gs:=by
  obtain ⟨vs,h1,h2,h3,h4⟩:=o
  exact ⟨vs,h1.wide k1 k2,fun i hi=>(h2 i hi).wide k1 k2,h3,h4⟩
theorem OwnG.same (o:OwnG h lo hi ty v gs) (a:Same lo' hi' h h') (hd:hi≤lo'∨hi'≤lo):OwnG h' lo hi ty v gs:=by
  obtain ⟨vs,h1,h2,h3,h4⟩:=o
  exact ⟨vs,h1.same a hd,fun i hi=>(h2 i hi).same a hd,h3,h4⟩
end
def proofV (yv gv:Value):Value:=.agg ⟨[yv,gv]⟩
def PfBnd (ys:List Int) (gs:List Gp):Prop:=ys.length≤1048576∧gs.length≤1048576∧∀ g∈gs,g.ms.length≤1048576
def GrOk (size:Int) (g:Gp):Prop:=(3≤g.ms.length∧g.ms.length%2=1∧1≤g.z∧g.z≤1000000000)∧∀ j,j < g.ms.length→(0≤g.ms.getD j 0∧g.ms.getD j 0≤size - 1)∧(0 < j→g.ms.getD (j - 1) 0 < g.ms.getD j 0)
def Nest (a b:List Int):Prop:=(∀ x∈b,x∈a)∨(∀ x∈b,¬ x∈a)∨∀ x∈a,x∈b
def scalar (w1 w2 w3:Int):Int:=90000*w1+300*w2+w3
end Go.Proofs.Ytafhipglhnfgnaa.Ab
