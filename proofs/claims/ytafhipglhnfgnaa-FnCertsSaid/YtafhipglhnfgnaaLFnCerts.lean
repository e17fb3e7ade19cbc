/- The law FnCerts, of arguments as they are shown. No conditions. -/
import Derived.Test.YtafhipglhnfgnaaM21
set_option linter.unusedSimpArgs false
set_option linter.unusedVariables false
set_option linter.unnecessarySimpa false
set_option maxHeartbeats 4000000
namespace Go.Proofs.Ytafhipglhnfgnaa.Ab
open Go.RowKit
section
variable {X:Zb}{h:za}{cv:Value}{l:List Int}
theorem zeI (s:ByteArray):(rdI s).es.length≤100∧(rdI s).m.length≤100∧uG (rdI s).ys (rdI s).gs:=by
  unfold rdI
  by_cases ok:C3 s
  · rw[if_pos ok]
    obtain⟨k1,k2,k3,k4,k5,k6⟩:=vZ ok.2.2
    exact⟨by simp only;omega,by simp only;omega,by simp only;omega,by simp only;omega,fun g hg=>by have:=k6 g hg;omega⟩
  · rw[if_neg ok]
    exact⟨Nat.zero_le _,Nat.zero_le _,Nat.zero_le _,Nat.zero_le _,fun g hg=>absurd hg List.not_mem_nil⟩
open Classical in
set_option maxRecDepth 100000 in
theorem zcC (hc:Rows h 1 cv (bys l)):C T X vF [cv] h=some (.bool true,h):=by
  refine qH xB rfl ?_;unfold W1;have cb:=zfX (X:=X) hc
  by_cases hz:(l.length:Int)>1048576
  · simp only[cb,hz,go_sem]
  obtain⟨n,es,m,ys,gs,ev,mv,yv,gv,h1,c1,p1,ct⟩:=Gw (X:=X) hc (by omega)
  have hel:=Ye ct.g;have hng:=ct.g.1;have hml:=ct.ml
  have hell:es.length≤lim:=by unfold lim;omega
  have c2:=yf (X:=X) (size:=(n:Int)) ct.re ct.rm ct.ry ct.gr hell (by omega) ct.bd
  have hsz:=Ga (n:=n) (es:=es) (m:=m) (ys:=ys) (gs:=gs);obtain⟨s,hs⟩:∃s,s=(if ZG (n:Int) es m ys gs then wV n es m ys gs else noT):=⟨_,rfl⟩;rw[←hs] at c2 hsz
  obtain⟨v3,h3,c3,p3,ew,mw,yw,gw,rfl,i1,i2,i3,i4,hi,oe,om,oy,og⟩:=yg (X:=X) (h:=h1) (s:=s) (by omega)
  have e3:=ct.re.up p3;have m3:=ct.rm.up p3;have y3:=ct.ry.up p3;have g3:=ct.gr.up p3
  have c4:=Um (X:=X) (size:=(n:Int)) e3 m3 y3 g3 hell (by omega) ct.bd
  obtain⟨u,h5,c5,hu,p5⟩:=Gz (X:=X) (hc.up (p1.trans p3)) (by omega)
  obtain⟨v6,h6,c6,p6,ew6,mw6,yw6,gw6,rfl,j1,j2,j3,j4,hj,oe6,om6,oy6,og6⟩:=yg (X:=X) (h:=h5) (s:=u) hu;obtain⟨v7,h7,c7,p7,ew7,mw7,yw7,gw7,rfl,oe7,om7,oy7,og7⟩:=Kq (X:=X) (h:=h6) (s:=u) hu;rw[CM] at c7;obtain⟨r1,r2,r3⟩:=zeI u
  have c8:=yf (X:=X) (size:=(rdI u).size) (oe6.rows.up p7) (om6.rows.up p7) (oy6.rows.up p7) (og6.rows.up p7) (by unfold lim;omega) (by omega) r3
  have h8:(rdI u).ok=true→(if ZG (rdI u).size (rdI u).es (rdI u).m (rdI u).ys (rdI u).gs then wV (rdI u).size (rdI u).es (rdI u).m (rdI u).ys (rdI u).gs else noT)=u:=by
    intro ho;rw[←CM] at ho ⊢;unfold rdS at ho ⊢
    by_cases ok:zbX u
    · rw[if_pos ok]
      rw[if_pos ok.2.1];exact ok.2.2
    · rw[if_neg ok] at ho
      cases ho
  obtain⟨a8,ha8⟩:∃a,a=(if ZG (rdI u).size (rdI u).es (rdI u).m (rdI u).ys (rdI u).gs then wV (rdI u).size (rdI u).es (rdI u).m (rdI u).ys (rdI u).gs else noT):=⟨_,rfl⟩;rw[←ha8] at c8 h8
  obtain⟨t,h9,c9,ht,p9⟩:=Kn (X:=X) (hc.up ((((p1.trans p3).trans p5).trans p6).trans p7)) (by omega)
  obtain⟨pv,h10,c10,p10,L,⟨L1,L2,L3⟩,rL⟩:=JT (X:=X) (h:=h9) (s:=t) (by omega)
  have pAll:h <+: h10:=(((((p1.trans p3).trans p5).trans p6).trans p7).trans p9).trans p10;have hLn:lnV h10 pv=some (.int .i64 (L.length:Nat)):=rL.lnm
  have cat:∀i,i≤L.length→(Xp (L.take i)).size≤40*i:=by
    intro i
    induction i with
    | zero=>intro _;rw[List.take_zero];exact Nat.le_refl 0
    | succ i ih =>
      intro hi
      have:=ih (by omega)
      have hl:=(L3 i (by omega)).2.1
      rw[Zj (d:=noT) (by omega),y8,ByteArray.size_append]
      omega
  have hne:∀b:Bool,(!(b==b))=false:=fun b=>by cases b<;>rfl
  unfold ui at *
  by_cases ok:ZG (n:Int) es m ys gs
  case' pos =>
    rw[decide_eq_true ok] at c2 c4;rw[if_pos ok] at hs;obtain⟨b1,b2,b3,b4,b5,b6⟩:=dk ok;rw[←hs] at b1 b2 b3 b4 b5 b6
    have hrd:rdI s=⟨n,es,m,ys,gs,true⟩:=by
      unfold rdI;rw[if_pos b1,b2,b3,b4,b5,b6]
    rw[hrd] at c3 oe om oy og;have s1:=bu (X:=X) (n:=n) e3 oe.rows hell
    have s2:=Xt (X:=X) m3 om.rows (by unfold lim;omega)
    have s3:=bw (X:=X) y3 oy.rows g3 og.rows ct.bd;unfold zC Zg at *;cases ho:(rdI u).ok
    case' true =>
      have h8:=h8 ho;rw[ho] at c6 c7;rw[h8] at c8;simp only[cb,hz,c1,c2,c3,c4,s1,s2,s3,c5,c6,c7,c8,c9,c10,hne,zj,zi,yU,decide_true,List.prefix_refl,go_sem]
    case' false =>
      rw[ho] at c6 c7;simp only[cb,hz,c1,c2,c3,c4,s1,s2,s3,c5,c6,c7,c8,c9,c10,hne,zj,zi,List.prefix_refl,go_sem]
  case' neg =>
    rw[decide_eq_false ok] at c2 c4;unfold zC Zg at *;cases ho:(rdI u).ok
    case' true =>
      have h8:=h8 ho;rw[ho] at c6 c7;rw[h8] at c8;simp only[cb,hz,c1,c2,c3,c4,c5,c6,c7,c8,c9,c10,hne,zj,zi,yU,decide_true,List.prefix_refl,go_sem]
    case' false =>
      rw[ho] at c6 c7;simp only[cb,hz,c1,c2,c3,c4,c5,c6,c7,c8,c9,c10,hne,zj,zi,List.prefix_refl,go_sem]
  all_goals
    refine zT L.length (fun i t' loc hh=>hh=h10∧t' 15=.string t∧t' 16=pv∧t' 17=.string (Xp (L.take i))∧t' 18=.int .i64 (i:Nat)) ⟨rfl,rfl,rfl,rfl,rfl⟩ ?_
    rintro i t' loc hh hi ⟨hhe,t15,t16,t17,t18⟩;rw[hhe];simp only[t16,t18,hLn,go_sem]
    refine zt (by simp only[go_sem];rfl) ?_ ?_<;>intro hc
    · have hi1:i<L.length:=by omega
      have hw:IntKind.i64.wrap ((i:Int)+1)=((i+1:Nat):Int):=w64 (by omega) (by omega)
      have el:=Rows.el (f:=txR) rL noT hi1;obtain⟨q,hq⟩:∃q,q=L.getD i noT:=⟨_,rfl⟩
      have el2:ldC h10 (zz pv 1 i 0) 1=some [.string q]:=by rw[hq];exact el.2.2
      have z:=L3 i hi1;rw[←hq] at z
      have hcat:=cat i (by omega)
      have d1:¬((q.size:Nat):Int)=0:=by omega
      have d2:¬((q.size:Nat):Int)>40:=by omega
      have fit:(Xp (L.take i)).size+q.size≤9223372036854775807:=by omega
      have hnx:Xp (L.take (i+1))=Xp (L.take i)++q:=by rw[Zj (d:=noT) hi1,y8,hq]
      by_cases la:((i+1:Nat):Int)<(L.length:Nat)
      · have d3:((q.size:Nat):Int)=40:=by have:=z.2.2 (by omega);omega
        have d4:¬(40:Int)=0:=by omega
        have d5:¬(40:Int)>40:=by omega
        simp only[t15,t16,t17,t18,hLn,el.1,el2,d3,d4,d5,hw,la,fit,go_sem]
        exact⟨hi1,by rw[hnx]⟩
      · simp only[t15,t16,t17,t18,hLn,el.1,el2,d1,d2,hw,la,fit,go_sem]
        exact⟨hi1,by rw[hnx]⟩
    · have hin:i=L.length:=by omega
      rw[hin,List.take_length,L1] at t17;simp only[t15,t16,t17,yU,decide_true,go_sem];exact zF rfl pAll
end
def ps_FnCerts:List (Bool × List CK):=[(false,[.sl [.int .u8]])]
theorem law_FnCerts (h:za)(avs:List Value)(ha:zP (uE h) ps_FnCerts avs):C T noX vF avs h=some (.bool true,h):=by
  obtain⟨v0,r,rfl,k0,ha⟩:=ha.cons_inv;obtain rfl:=ha.nil_inv;obtain⟨l,hl⟩:=k0.cell.bytes_inv;exact zcC hl
end Go.Proofs.Ytafhipglhnfgnaa.Ab
