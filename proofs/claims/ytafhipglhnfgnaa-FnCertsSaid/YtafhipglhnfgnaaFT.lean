/- The table of the functions, and that it is the program. No conditions. -/
import Derived.Test.YtafhipglhnfgnaaFC
import Derived.Test.YtafhipglhnfgnaaA3
namespace Go.Proofs.Ytafhipglhnfgnaa.Ab
open Go.RowKit
def tab:List (Nat × Fun):=[(vF,W1),(UR,UC),(vw,WW),(vH,W4),(wJ,VX),(Qt,wo),(Qu,ww),(vG,W3),(QR,We),(qu,Qn),(QP,Wc),(QQ,Wd),(wH,wr),(QL,QI),(wI,wu),(qv,Qo),(Wx,Wg),(qd,qY),(Qs,wn),(Qi,Vp),(QT,Wj),(Qw,W7),(zJ,Wh),(wd,WU),(qg,y5),(vD,WZ),(w8,Vn),(vE,W0),(Qv,W2),(qA,VY),(wK,wF),(WA,Wv),(Vz,Vm),(QW,Wt),(Qz,wC),(Z0,Wo),(qe,vd),(vu,WV),(w6,Vj),(w7,Vk),(WB,Ww),(VA,Vt),(vJ,V2),(ZH,VZ),(qG,Vo),(qF,Vl),(QC,vh),(Zk,uF),(zu,Q1),(qt,Qm),(ZP,QH),(QS,Wf),(Qx,wA),(zV,Vu),(qO,W8),(Zc,Q2),(ZM,W6),(qV,Wl),(QV,Wr),(qb,wE),(Wz,Wm),(wh,W9),(QX,Wu),(we,WY),(vC,WX),(zQ,Vq),(vI,W5),(QU,Wp),(Qy,wB),(zH,Vr),(QB,wD),(Qe,Q3),(QA,vc),(wk,vf),(qW,Ws),(wj,ve),(ZZ,Wn),(Qj,Vs),(Wy,Wk),(Qf,Q4),(qi,Wq)]
def T:FuncId→Option Fun:=fun f=>tab.lookup f
theorem xB:T vF=some W1:=rfl
theorem cP:T UR=some UC:=rfl
theorem xw:T vw=some WW:=rfl
theorem xE:T vH=some W4:=rfl
theorem Fw:T wJ=some VX:=rfl
theorem kl:T Qt=some wo:=rfl
theorem ko:T Qu=some ww:=rfl
theorem xD:T vG=some W3:=rfl
theorem Kx:T QR=some We:=rfl
theorem YD:T qu=some Qn:=rfl
theorem Kv:T QP=some Wc:=rfl
theorem Kw:T QQ=some Wd:=rfl
theorem km:T wH=some wr:=rfl
theorem jb:T QL=some QI:=rfl
theorem kn:T wI=some wu:=rfl
theorem YE:T qv=some Qo:=rfl
theorem Kz:T Wx=some Wg:=rfl
theorem yV:T qd=some qY:=rfl
theorem kj:T Qs=some wn:=rfl
theorem XI:T Qi=some Vp:=rfl
theorem KC:T QT=some Wj:=rfl
theorem xI:T Qw=some W7:=rfl
theorem KB:T zJ=some Wh:=rfl
theorem xu:T wd=some WU:=rfl
theorem Dd:T qg=some y5:=rfl
theorem xz:T vD=some WZ:=rfl
theorem XG:T w8=some Vn:=rfl
theorem xA:T vE=some W0:=rfl
theorem xC:T Qv=some W2:=rfl
theorem Fx:T qA=some VY:=rfl
theorem kA:T wK=some wF:=rfl
theorem KO:T WA=some Wv:=rfl
theorem XF:T Vz=some Vm:=rfl
theorem KM:T QW=some Wt:=rfl
theorem kr:T Qz=some wC:=rfl
theorem KH:T Z0=some Wo:=rfl
theorem xN:T qe=some vd:=rfl
theorem xv:T vu=some WV:=rfl
theorem XC:T w6=some Vj:=rfl
theorem XD:T w7=some Vk:=rfl
theorem KQ:T WB=some Ww:=rfl
theorem XM:T VA=some Vt:=rfl
theorem Fz:T vJ=some V2:=rfl
theorem Fy:T ZH=some VZ:=rfl
theorem XH:T qG=some Vo:=rfl
theorem XE:T qF=some Vl:=rfl
theorem xR:T QC=some vh:=rfl
theorem Bm:T Zk=some uF:=rfl
theorem Ji:T zu=some Q1:=rfl
theorem YC:T qt=some Qm:=rfl
theorem Y9:T ZP=some QH:=rfl
theorem Ky:T QS=some Wf:=rfl
theorem kp:T Qx=some wA:=rfl
theorem XN:T zV=some Vu:=rfl
theorem xJ:T qO=some W8:=rfl
theorem Jj:T Zc=some Q2:=rfl
theorem xH:T ZM=some W6:=rfl
theorem KE:T qV=some Wl:=rfl
theorem KK:T QV=some Wr:=rfl
theorem kw:T qb=some wE:=rfl
theorem KF:T Wz=some Wm:=rfl
theorem xK:T wh=some W9:=rfl
theorem KN:T QX=some Wu:=rfl
theorem xy:T we=some WY:=rfl
theorem xx:T vC=some WX:=rfl
theorem XJ:T zQ=some Vq:=rfl
theorem xF:T vI=some W5:=rfl
theorem KI:T QU=some Wp:=rfl
theorem kq:T Qy=some wB:=rfl
theorem XK:T zH=some Vr:=rfl
theorem kt:T QB=some wD:=rfl
theorem Jk:T Qe=some Q3:=rfl
theorem xL:T QA=some vc:=rfl
theorem xQ:T wk=some vf:=rfl
theorem KL:T qW=some Ws:=rfl
theorem xP:T wj=some ve:=rfl
theorem KG:T ZZ=some Wn:=rfl
theorem XL:T Qj=some Vs:=rfl
theorem KD:T Wy=some Wk:=rfl
theorem Jl:T Qf=some Q4:=rfl
theorem KJ:T qi=some Wq:=rfl
theorem B6 {l:List (Nat × Fun)}{f:Nat}{F:Fun}(h:l.lookup f=some F):(f,F)∈l:=by
  induction l with
  | nil=>simp at h
  | cons p l ih =>
    obtain⟨a,b⟩:=p;rw[List.lookup_cons] at h;split at h
    · rename_i he
      cases h
      have:f=a:=by simpa using he
      subst this;exact List.mem_cons_self
    · exact List.mem_cons_of_mem _ (ih h)
def Ca (p:Nat × Fun):Prop:=∃fn b,Try.prog.funcs[p.1]?=some fn∧zk b Try.prog fn=some p.2.bare
theorem zl {p:Nat × Fun}{l:List (Nat × Fun)}(h:Ca p)(hl:∀q∈l,Ca q):∀q∈p::l,Ca q:=by
  intro q hq;rcases List.mem_cons.1 hq with rfl | hq
  · exact h
  · exact hl q hq
set_option maxRecDepth 100000 in
theorem zfn:zdB Try.prog T:=by
  have key:∀q∈tab,Ca q :=
    zl ⟨_,_,Try.func6,gJ⟩ <|
    zl ⟨_,_,Try.func10,BI⟩ <|
    zl ⟨_,_,Try.func12,gE⟩ <|
    zl ⟨_,_,Try.func13,gM⟩ <|
    zl ⟨_,_,Try.func17,fE⟩ <|
    zl ⟨_,_,Try.func18,Jz⟩ <|
    zl ⟨_,_,Try.func19,JC⟩ <|
    zl ⟨_,_,Try.func20,gL⟩ <|
    zl ⟨_,_,Try.func25,kU⟩ <|
    zl ⟨_,_,Try.func27,YA⟩ <|
    zl ⟨_,_,Try.func28,kS⟩ <|
    zl ⟨_,_,Try.func29,kT⟩ <|
    zl ⟨_,_,Try.func30,JA⟩ <|
    zl ⟨_,_,Try.func31,YT⟩ <|
    zl ⟨_,_,Try.func32,JB⟩ <|
    zl ⟨_,_,Try.func33,YB⟩ <|
    zl ⟨_,_,Try.func34,kW⟩ <|
    zl ⟨_,_,Try.func35,yx⟩ <|
    zl ⟨_,_,Try.func36,Jy⟩ <|
    zl ⟨_,_,Try.func47,Xj⟩ <|
    zl ⟨_,_,Try.func48,kY⟩ <|
    zl ⟨_,_,Try.func49,gP⟩ <|
    zl ⟨_,_,Try.func50,kX⟩ <|
    zl ⟨_,_,Try.func51,gC⟩ <|
    zl ⟨_,_,Try.func52,dg⟩ <|
    zl ⟨_,_,Try.func53,gH⟩ <|
    zl ⟨_,_,Try.func54,Xh⟩ <|
    zl ⟨_,_,Try.func55,gI⟩ <|
    zl ⟨_,_,Try.func56,gK⟩ <|
    zl ⟨_,_,Try.func57,fF⟩ <|
    zl ⟨_,_,Try.func58,JI⟩ <|
    zl ⟨_,_,Try.func59,Kj⟩ <|
    zl ⟨_,_,Try.func60,Xg⟩ <|
    zl ⟨_,_,Try.func63,Kh⟩ <|
    zl ⟨_,_,Try.func64,JF⟩ <|
    zl ⟨_,_,Try.func65,Kb⟩ <|
    zl ⟨_,_,Try.func66,gT⟩ <|
    zl ⟨_,_,Try.func67,gD⟩ <|
    zl ⟨_,_,Try.func68,Xd⟩ <|
    zl ⟨_,_,Try.func69,Xe⟩ <|
    zl ⟨_,_,Try.func70,Kk⟩ <|
    zl ⟨_,_,Try.func71,Xn⟩ <|
    zl ⟨_,_,Try.func72,fH⟩ <|
    zl ⟨_,_,Try.func73,fG⟩ <|
    zl ⟨_,_,Try.func75,Xi⟩ <|
    zl ⟨_,_,Try.func80,Xf⟩ <|
    zl ⟨_,_,Try.func81,gW⟩ <|
    zl ⟨_,_,Try.func82,FQ⟩ <|
    zl ⟨_,_,Try.func83,js⟩ <|
    zl ⟨_,_,Try.func84,Yz⟩ <|
    zl ⟨_,_,Try.func85,YS⟩ <|
    zl ⟨_,_,Try.func86,kV⟩ <|
    zl ⟨_,_,Try.func87,JD⟩ <|
    zl ⟨_,_,Try.func88,Xo⟩ <|
    zl ⟨_,_,Try.func89,gQ⟩ <|
    zl ⟨_,_,Try.func90,jt⟩ <|
    zl ⟨_,_,Try.func94,gO⟩ <|
    zl ⟨_,_,Try.func100,k8⟩ <|
    zl ⟨_,_,Try.func102,Kf⟩ <|
    zl ⟨_,_,Try.func103,JH⟩ <|
    zl ⟨_,_,Try.func104,k9⟩ <|
    zl ⟨_,_,Try.func105,gR⟩ <|
    zl ⟨_,_,Try.func107,Ki⟩ <|
    zl ⟨_,_,Try.func108,gG⟩ <|
    zl ⟨_,_,Try.func109,gF⟩ <|
    zl ⟨_,_,Try.func110,Xk⟩ <|
    zl ⟨_,_,Try.func111,gN⟩ <|
    zl ⟨_,_,Try.func120,Kd⟩ <|
    zl ⟨_,_,Try.func121,JE⟩ <|
    zl ⟨_,_,Try.func122,Xl⟩ <|
    zl ⟨_,_,Try.func123,JG⟩ <|
    zl ⟨_,_,Try.func124,ju⟩ <|
    zl ⟨_,_,Try.func125,gS⟩ <|
    zl ⟨_,_,Try.func127,gV⟩ <|
    zl ⟨_,_,Try.func141,Kg⟩ <|
    zl ⟨_,_,Try.func142,gU⟩ <|
    zl ⟨_,_,Try.func143,Ka⟩ <|
    zl ⟨_,_,Try.func144,Xm⟩ <|
    zl ⟨_,_,Try.func145,kZ⟩ <|
    zl ⟨_,_,Try.func146,jv⟩ <|
    zl ⟨_,_,Try.func163,Ke⟩ <|
    fun q hq=>by cases hq
  exact fun f F hf=>key _ (B6 hf)
theorem sound {X:Zb}{W:World}(hX:SoundC Try.prog W X)(n:Nat):SoundC Try.prog W (call T X n):=BJ zfn hX (fun _ _ _ _ _ h=>zcq h) (fun _ _ _ _ _ h=>zeF h) n
end Go.Proofs.Ytafhipglhnfgnaa.Ab
