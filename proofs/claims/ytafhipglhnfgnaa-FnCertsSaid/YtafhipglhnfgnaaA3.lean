/- The rules by which the small language is stepped. No conditions. -/
import Derived.Test.YtafhipglhnfgnaaA2
set_option linter.unusedSimpArgs false
set_option linter.unusedVariables false
set_option linter.unnecessarySimpa false
set_option maxHeartbeats 4000000
/- The run without rounds to count: what calls and loops come to, by equations. No conditions. -/
namespace Go.Proofs.Ytafhipglhnfgnaa.Ab
open Go.RowKit
abbrev Zb:=FuncId→List Value→za→Option (Value × za)
def uf (c d:Zb):Prop:=∀f l h r,c f l h=some r→d f l h=some r
section
variable {c d:Zb}{last:Bool}{h0:za}
theorem uN (hb:uf c d){o:MOp}{s s':St}(h:o.go c s=some s'):o.go d s=some s':=by
  unfold MOp.go at h ⊢;split at h
  case h_9 f args hi =>
    simp only[Option.map_eq_some_iff] at h ⊢;obtain⟨r,hr,rfl⟩:=h;exact⟨r,hb _ _ _ _ hr,rfl⟩
  case h_10 f args hi =>
    split at h
    · simp only[Option.map_eq_some_iff] at h ⊢
      obtain⟨r,hr,rfl⟩:=h;exact⟨r,hb _ _ _ _ hr,rfl⟩
    · cases h
  case h_11 f n sz ty e hi =>
    split at h
    · split at h
      · rename_i hc
        rw[if_pos hc];simp only[Option.map_eq_some_iff] at h ⊢;obtain⟨r,hr,rfl⟩:=h;exact⟨r,hb _ _ _ _ hr,rfl⟩
      · cases h
    · cases h
  all_goals exact h
theorem fj (hb:uf c d){o:MOp}{s s':St}(h:o.step c s=some s'):o.step d s=some s':=by
  unfold MOp.step at h ⊢;split at h
  · exact uN hb h
  · exact h
  · cases h
theorem G8 (hb:uf c d):∀ {l:List MOp} {s s':St},wQ c l s=some s'→wQ d l s=some s'
  | [],_,_,h=>h
  | o::l,s,s',h=>by
    simp only[wQ,Option.bind_eq_some_iff] at h ⊢;obtain⟨s1,h1,h2⟩:=h;exact⟨s1,fj hb h1,G8 hb h2⟩
open Classical in
theorem QZ (hb:uf c d){o:MOp}{s s':St}(h:o.free c last h0 s=some s'):o.free d last h0 s=some s':=by
  unfold MOp.free at h ⊢;split at h
  · split at h
    · exact uN hb h
    · exact uN hb h
    · exact uN hb h
    · exact uN hb h
    · exact uN hb h
    · exact uN hb h
    · simp only[Option.bind_eq_some_iff] at h ⊢
      obtain⟨r,hr,h⟩:=h;exact⟨r,hb _ _ _ _ hr,h⟩
    · split at h
      · split at h
        · rename_i hc
          rw[if_pos hc];simp only[Option.bind_eq_some_iff] at h ⊢;obtain⟨r,hr,h⟩:=h;exact⟨r,hb _ _ _ _ hr,h⟩
        · cases h
      · cases h
    · simp only[Option.bind_eq_some_iff] at h ⊢
      obtain⟨r,hr,h⟩:=h;exact⟨r,uN hb hr,h⟩
    · exact h
  · exact h
  · cases h
theorem YX (hb:uf c d):∀ {l:List MOp} {s s':St},Zs c last h0 l s=some s'→Zs d last h0 l s=some s'
  | [],_,_,h=>h
  | o::l,s,s',h=>by
    simp only[Zs,Option.bind_eq_some_iff] at h ⊢;obtain⟨s1,h1,h2⟩:=h;exact⟨s1,QZ hb h1,YX hb h2⟩
open Classical in
theorem bU (hb:uf c d){g:Tag}{hs:List za}{o:MOp}{s s':St}(h:o.opn c g hs s=some s'):o.opn d g hs s=some s':=by
  cases g with
  | l k =>
    simp only[MOp.opn,Option.bind_eq_some_iff] at h ⊢;obtain⟨t,ht,h⟩:=h;refine⟨t,QZ hb ht,?_⟩;split at h
    · rename_i hall
      rw[if_pos fun h hh=>QZ hb (hall h hh)]
      exact h
    · cases h
  | m=>exact QZ hb h
  | c=>exact QZ hb h
theorem J3 (hb:uf c d):∀ {l:List (Tag × MOp)} {hs:List za} {s s':St},qC c l hs s=some s'→qC d l hs s=some s'
  | [],_,_,_,h=>h
  | (g,o)::l,hs,s,s',h=>by
    simp only[qC,Option.bind_eq_some_iff] at h ⊢;obtain⟨s1,h1,h2⟩:=h;exact⟨s1,bU hb h1,J3 hb h2⟩
theorem Yh {f g:St→Option (Exit × St)}(hfg:∀s r,f s=some r→g s=some r):∀ {n m:Nat} {s:St} {r:Exit × St},n≤m→yn f n s=some r→yn g m s=some r
  | 0,_,_,_,_,h=>by cases h
  | n+1,0,_,_,hl,_=>by omega
  | n+1,m+1,s,r,hl,h=>by
    simp only[yn] at h ⊢
    cases hf:f s with
    | none=>rw[hf] at h;cases h
    | some q =>
      rw[hf] at h;rw[hfg s q hf];obtain⟨e,s1⟩:=q
      cases e with
      | normal=>exact Yh hfg (by omega) h
      | _=>exact h
theorem JK (hb:uf c d){n m:Nat}(hl:n≤m):∀ {i:IR} {s:St} {r:Exit × St},Zf c n i s=some r→Zf d m i s=some r:=by
  intro i
  induction i with
  | skip=>intro s r h;exact h
  | ops l=>intro s r h;simp only[Zf,Option.map_eq_some_iff] at h ⊢;obtain⟨s1,h1,h2⟩:=h;exact⟨s1,G8 hb h1,h2⟩
  | free b l=>intro s r h;simp only[Zf,Option.map_eq_some_iff] at h ⊢;obtain⟨s1,h1,h2⟩:=h;exact⟨s1,YX hb h1,h2⟩
  | opn l=>intro s r h;simp only[Zf,Option.map_eq_some_iff] at h ⊢;obtain⟨s1,h1,h2⟩:=h;exact⟨s1,J3 hb h1,h2⟩
  | seq x y ihx ihy =>
    intro s r h;simp only[Zf] at h ⊢
    cases hx:Zf c n x s with
    | none=>rw[hx] at h;cases h
    | some q =>
      rw[hx] at h;rw[ihx hx];obtain⟨e,s1⟩:=q
      cases e with
      | normal=>exact ihy h
      | _=>exact h
  | cond b x y ihx ihy =>
    intro s r h;simp only[Zf] at h ⊢;split at h
    · split at h
      · rename_i hc;rw[if_pos hc];exact ihx h
      · rename_i hc;rw[if_neg hc];exact ihy h
    · cases h
  | block id x ih =>
    intro s r h;simp only[Zf] at h ⊢
    cases hx:Zf c n x s with
    | none=>rw[hx] at h;cases h
    | some q=>rw[hx] at h;rw[ih hx];exact h
  | loop x ih =>
    intro s r h;simp only[Zf] at h ⊢
    exact Yh (fun s r=>ih) hl h
  | exit id=>intro s r h;exact h
  | ret=>intro s r h;exact h
  | keep l=>intro s r h;exact h
end
section
variable (T:FuncId→Option Fun)(X:Zb)
theorem XR (n : Nat) (f : FuncId) (l : List Value) (h : za) : call T X (n + 1) f l h = match T f with
    | some F=>if l.length=F.np then
        match Zf (call T X n) n F.body (start l h) with
        | some (.normal,s)=>(Qg s F.res).map fun v=>zp h (v,s.h)
        | some (.ret,s)=>(Qg s F.res).map fun v=>zp h (v,s.h)
        | _=>none
      else none
    | none=>X f l h:=rfl
theorem gX:∀n,uf (call T X n) (call T X (n+1))
  | 0=>fun f l h r hr=>by cases hr
  | n+1=>fun f l h r hr=>by
    rw[XR] at hr ⊢
    cases hT:T f with
    | none=>rw[hT] at hr;exact hr
    | some F =>
      rw[hT] at hr;simp only at hr ⊢;split at hr
      · rename_i hn
        rw[if_pos hn]
        cases he:Zf (call T X n) n F.body (start l h) with
        | none=>rw[he] at hr;cases hr
        | some q =>
          rw[he] at hr;rw[JK (gX n) (Nat.le_succ n) he];exact hr
      · cases hr
theorem qI {n m:Nat}(h:n≤m):uf (call T X n) (call T X m):=by
  induction h with
  | refl=>exact fun _ _ _ _ h=>h
  | step _ ih=>exact fun f l h r hr=>gX T X _ f l h r (ih f l h r hr)
open Classical in
noncomputable def C (f:FuncId)(l:List Value)(h:za):Option (Value × za):=if hr:∃n r,call T X n f l h=some r then some (Classical.choose (Classical.choose_spec hr)) else none
theorem zfA {n:Nat}{f:FuncId}{l:List Value}{h:za}{r:Value × za}(hr:call T X n f l h=some r):C T X f l h=some r:=by
  have hx:∃n r,call T X n f l h=some r:=⟨n,r,hr⟩;unfold C;rw[dif_pos hx];have h2:=Classical.choose_spec (Classical.choose_spec hx);have h3:=qI T X (Nat.le_max_left n (Classical.choose hx)) f l h _ hr;have h4:=qI T X (Nat.le_max_right n (Classical.choose hx)) f l h _ h2;rw[h3] at h4;exact h4.symm
theorem C2 {f:FuncId}{l:List Value}{h:za}{r:Value × za}(hr:C T X f l h=some r):∃n,call T X n f l h=some r:=by
  unfold C at hr;split at hr
  · rename_i hx
    cases hr;exact⟨_,Classical.choose_spec (Classical.choose_spec hx)⟩
  · cases hr
theorem zhC (n:Nat):uf (call T X n) (C T X):=fun _ _ _ _ h=>zfA T X h
theorem zdw {o:MOp}{s s':St}(h:o.step (C T X) s=some s'):∃n,o.step (call T X n) s=some s':=by
  unfold MOp.step at h ⊢;split at h
  · unfold MOp.go at h ⊢
    split at h
    case h_9 f args hi =>
      simp only[Option.map_eq_some_iff] at h;obtain⟨r,hr,rfl⟩:=h;obtain⟨n,hn⟩:=C2 T X hr
      exact⟨n,by simp only[hn,Option.map_some]⟩
    case h_10 f args hi =>
      split at h
      · rename_i g caps hf
        simp only[Option.map_eq_some_iff] at h;obtain⟨r,hr,rfl⟩:=h;obtain⟨n,hn⟩:=C2 T X hr
        exact⟨n,by simp only[hn,Option.map_some]⟩
      · cases h
    case h_11 f n sz ty e hi =>
      split at h
      · split at h
        · rename_i hc
          simp only[Option.map_eq_some_iff] at h;obtain⟨r,hr,rfl⟩:=h;obtain⟨n,hn⟩:=C2 T X hr
          exact⟨n,by rw[if_pos hc];simp only[hn,Option.map_some]⟩
        · cases h
      · cases h
    all_goals exact⟨0,h⟩
  · exact⟨0,h⟩
  · cases h
theorem za2:∀ {l:List MOp} {s s':St},wQ (C T X) l s=some s'→∃n,wQ (call T X n) l s=some s'
  | [],_,_,h=>⟨0,h⟩
  | o::l,s,s',h=>by
    simp only[wQ,Option.bind_eq_some_iff] at h;obtain⟨s1,h1,h2⟩:=h;obtain⟨n,hn⟩:=zdw T X h1;obtain⟨m,hm⟩:=za2 h2;refine⟨max n m,?_⟩;simp only[wQ,Option.bind_eq_some_iff];exact⟨s1,fj (qI T X (Nat.le_max_left n m)) hn,G8 (qI T X (Nat.le_max_right n m)) hm⟩
open Classical in
theorem jI {last:Bool}{h0:za}{o:MOp}{s s':St}(h:o.free (C T X) last h0 s=some s'):∃n,o.free (call T X n) last h0 s=some s':=by
  unfold MOp.free at h ⊢;split at h
  · have key:∀s',o.go (C T X) s=some s'→(∀f l,o.ins≠.callV f l)→(∀f l,o.ins≠.call f l)→(∀f n sz ty e,o.ins≠.callL f n sz ty e)→o.go (call T X 0) s=some s':=by
      intro s' h h1 h2 h3;unfold MOp.go at h ⊢;split at h
      case h_9 f args hi=>exact absurd hi (h2 _ _)
      case h_10 f args hi=>exact absurd hi (h1 _ _)
      case h_11 f n sz ty e hi=>exact absurd hi (h3 _ _ _ _ _)
      all_goals exact h
    split at h
    · rename_i hi;exact⟨0,key _ h (by rw[hi];intro _ _ h;cases h) (by rw[hi];intro _ _ h;cases h) (by rw[hi];intro _ _ _ _ _ h;cases h)⟩
    · rename_i hi;exact⟨0,key _ h (by rw[hi];intro _ _ h;cases h) (by rw[hi];intro _ _ h;cases h) (by rw[hi];intro _ _ _ _ _ h;cases h)⟩
    · rename_i hi;exact⟨0,key _ h (by rw[hi];intro _ _ h;cases h) (by rw[hi];intro _ _ h;cases h) (by rw[hi];intro _ _ _ _ _ h;cases h)⟩
    · rename_i hi;exact⟨0,key _ h (by rw[hi];intro _ _ h;cases h) (by rw[hi];intro _ _ h;cases h) (by rw[hi];intro _ _ _ _ _ h;cases h)⟩
    · rename_i hi;exact⟨0,key _ h (by rw[hi];intro _ _ h;cases h) (by rw[hi];intro _ _ h;cases h) (by rw[hi];intro _ _ _ _ _ h;cases h)⟩
    · rename_i hi;exact⟨0,key _ h (by rw[hi];intro _ _ h;cases h) (by rw[hi];intro _ _ h;cases h) (by rw[hi];intro _ _ _ _ _ h;cases h)⟩
    · simp only[Option.bind_eq_some_iff] at h
      obtain⟨r,hr,h⟩:=h;obtain⟨n,hn⟩:=C2 T X hr
      exact⟨n,by simp only[Option.bind_eq_some_iff];exact⟨r,hn,h⟩⟩
    · split at h
      · split at h
        · rename_i hc
          simp only[Option.bind_eq_some_iff] at h;obtain⟨r,hr,h⟩:=h;obtain⟨n,hn⟩:=C2 T X hr
          exact⟨n,by rw[if_pos hc];simp only[Option.bind_eq_some_iff];exact⟨r,hn,h⟩⟩
        · cases h
      · cases h
    · rename_i hi
      simp only[Option.bind_eq_some_iff] at h;obtain⟨r,hr,h⟩:=h
      exact⟨0,by simp only[Option.bind_eq_some_iff];exact⟨r,key _ hr (by rw[hi];intro _ _ h;cases h) (by rw[hi];intro _ _ h;cases h) (by rw[hi];intro _ _ _ _ _ h;cases h),h⟩⟩
    · exact⟨0,h⟩
  · exact⟨0,h⟩
  · cases h
theorem bc {last:Bool}{h0:za}:∀ {l:List MOp} {s s':St},Zs (C T X) last h0 l s=some s'→∃n,Zs (call T X n) last h0 l s=some s'
  | [],_,_,h=>⟨0,h⟩
  | o::l,s,s',h=>by
    simp only[Zs,Option.bind_eq_some_iff] at h;obtain⟨s1,h1,h2⟩:=h;obtain⟨n,hn⟩:=jI T X h1;obtain⟨m,hm⟩:=bc h2;refine⟨max n m,?_⟩;simp only[Zs,Option.bind_eq_some_iff];exact⟨s1,QZ (qI T X (Nat.le_max_left n m)) hn,YX (qI T X (Nat.le_max_right n m)) hm⟩
theorem Dx {h:za}{o:MOp}{s s':St}:∀ {l:List za},(∀h∈l,o.free (C T X) false h s=some s')→∃n,∀h∈l,o.free (call T X n) false h s=some s'
  | [],_=>⟨0,fun h hh=>by cases hh⟩
  | h::l,hl=>by
    obtain⟨n,hn⟩:=jI T X (hl h List.mem_cons_self)
    obtain⟨m,hm⟩:=Dx (h:=h) fun k hk=>hl k (List.mem_cons_of_mem _ hk)
    refine⟨max n m,fun k hk=>?_⟩
    rcases List.mem_cons.1 hk with e | e
    · rw[e];exact QZ (qI T X (Nat.le_max_left n m)) hn
    · exact QZ (qI T X (Nat.le_max_right n m)) (hm k e)
open Classical in
theorem zeG {g:Tag}{hs:List za}{o:MOp}{s s':St}(h:o.opn (C T X) g hs s=some s'):∃n,o.opn (call T X n) g hs s=some s':=by
  cases g with
  | l k =>
    simp only[MOp.opn,Option.bind_eq_some_iff] at h ⊢;obtain⟨t,ht,h⟩:=h;split at h
    · rename_i hall
      obtain⟨n,hn⟩:=jI T X ht;obtain⟨m,hm⟩:=Dx T X (h:=[]) hall;refine⟨max n m,t,QZ (qI T X (Nat.le_max_left n m)) hn,?_⟩
      rw[if_pos fun k hk=>QZ (qI T X (Nat.le_max_right n m)) (hm k hk)]
      exact h
    · cases h
  | m=>exact jI T X h
  | c=>exact jI T X h
theorem CG:∀ {l:List (Tag × MOp)} {hs:List za} {s s':St},qC (C T X) l hs s=some s'→∃n,qC (call T X n) l hs s=some s'
  | [],_,_,_,h=>⟨0,h⟩
  | (g,o)::l,hs,s,s',h=>by
    simp only[qC,Option.bind_eq_some_iff] at h;obtain⟨s1,h1,h2⟩:=h;obtain⟨n,hn⟩:=zeG T X h1;obtain⟨m,hm⟩:=CG h2;refine⟨max n m,?_⟩;simp only[qC,Option.bind_eq_some_iff];exact⟨s1,bU (qI T X (Nat.le_max_left n m)) hn,J3 (qI T X (Nat.le_max_right n m)) hm⟩
theorem Jo {n m k:Nat}(hn:n≤k)(hm:m≤k){i:IR}{s:St}{r:Exit × St}(h:Zf (call T X n) m i s=some r):Zf (call T X k) k i s=some r :=
  JK (qI T X hn) hm h
theorem zco:∀ {i:IR} {m:Nat} {s:St} {r:Exit × St},Zf (C T X) m i s=some r→∃n,Zf (call T X n) n i s=some r:=by
  intro i
  induction i with
  | skip=>intro m s r h;exact⟨0,h⟩
  | ops l=>intro m s r h;simp only[Zf,Option.map_eq_some_iff] at h ⊢;obtain⟨s1,h1,h2⟩:=h;obtain⟨n,hn⟩:=za2 T X h1;exact⟨n,s1,hn,h2⟩
  | free b l=>intro m s r h;simp only[Zf,Option.map_eq_some_iff] at h ⊢;obtain⟨s1,h1,h2⟩:=h;obtain⟨n,hn⟩:=bc T X h1;exact⟨n,s1,hn,h2⟩
  | opn l=>intro m s r h;simp only[Zf,Option.map_eq_some_iff] at h ⊢;obtain⟨s1,h1,h2⟩:=h;obtain⟨n,hn⟩:=CG T X h1;exact⟨n,s1,hn,h2⟩
  | seq x y ihx ihy =>
    intro m s r h;simp only[Zf] at h ⊢
    cases hx:Zf (C T X) m x s with
    | none=>rw[hx] at h;cases h
    | some q =>
      rw[hx] at h;obtain⟨n,hn⟩:=ihx hx;obtain⟨e,s1⟩:=q
      cases e with
      | normal =>
        obtain⟨k,hk⟩:=ihy h;refine⟨max n k,?_⟩;rw[Jo T X (Nat.le_max_left n k) (Nat.le_max_left n k) hn];exact Jo T X (Nat.le_max_right n k) (Nat.le_max_right n k) hk
      | _=>exact⟨n,by rw[hn];exact h⟩
  | cond b x y ihx ihy =>
    intro m s r h;simp only[Zf] at h ⊢;split at h
    · split at h
      · rename_i hc;simp only[hc,if_true];exact ihx h
      · rename_i hc;simp only[hc];exact ihy h
    · cases h
  | block id x ih =>
    intro m s r h;simp only[Zf] at h ⊢
    cases hx:Zf (C T X) m x s with
    | none=>rw[hx] at h;cases h
    | some q=>rw[hx] at h;obtain⟨n,hn⟩:=ih hx;exact⟨n,by rw[hn];exact h⟩
  | loop x ih =>
    intro m s r h;simp only[Zf] at h ⊢
    have key:∀k s,yn (Zf (C T X) m x) k s=some r→∃n,yn (Zf (call T X n) n x) n s=some r:=by
      intro k
      induction k with
      | zero=>intro s h;cases h
      | succ k ihk =>
        intro s h;simp only[yn] at h
        cases hx:Zf (C T X) m x s with
        | none=>rw[hx] at h;cases h
        | some q =>
          rw[hx] at h;obtain⟨n,hn⟩:=ih hx;obtain⟨e,s1⟩:=q
          cases e with
          | normal =>
            obtain⟨j,hj⟩:=ihk s1 h;refine⟨max n j+1,?_⟩;simp only[yn]
            rw[Jo T X (k:=max n j+1) (by omega) (by omega) hn]
            exact Yh (fun s r h=>Jo T X (k:=max n j+1) (by omega) (by omega) h) (by omega) hj
          | _ =>
            refine⟨n+1,?_⟩;simp only[yn]
            rw[Jo T X (k:=n+1) (by omega) (by omega) hn]
            exact h
    exact key m s h
  | exit id=>intro m s r h;exact⟨0,h⟩
  | ret=>intro m s r h;exact⟨0,h⟩
  | keep l=>intro m s r h;exact⟨0,h⟩
def W (i:IR)(s:St)(Q:Exit→St→Prop):Prop:=∃n e s',Zf (C T X) n i s=some (e,s')∧Q e s'
def zbZ (F:Fun)(h:za)(r:Value × za)(e:Exit)(s:St):Prop:=(e=.normal∨e=.ret)∧∃v,Qg s F.res=some v∧zp h (v,s.h)=r
theorem KS {f:FuncId}{l:List Value}{h:za}{r:Value × za}{F:Fun}(hT:T f=some F)(hl:l.length=F.np)(hw:W T X F.body (start l h) (zbZ F h r)):C T X f l h=some r:=by
  obtain⟨n,e,s',he,hq,v,h1,h2⟩:=hw;obtain⟨m,hm⟩:=zco T X he;refine zfA T X (n:=m+1) ?_;rw[XR];simp only[hT,hl,if_true,hm]
  rcases hq with rfl | rfl<;>simp only[h1,Option.map_some,h2]
theorem W.mono {i:IR}{s:St}{Q R:Exit→St→Prop}(h:W T X i s Q)(hq:∀e s,Q e s→R e s):W T X i s R:=by
  obtain⟨n,e,s',h1,h2⟩:=h;exact⟨n,e,s',h1,hq _ _ h2⟩
theorem zd0 {s:St}{Q:Exit→St→Prop}:W T X .skip s Q↔Q .normal s:=by
  simp only[W,Zf,Option.some.injEq,Prod.mk.injEq]
  exact⟨fun⟨_,_,_,⟨h1,h2⟩,h⟩=>h1▸h2▸h,fun h=>⟨0,_,_,⟨rfl,rfl⟩,h⟩⟩
theorem zb7 {s:St}{l:List Nat}{Q:Exit→St→Prop}:W T X (.keep l) s Q↔Q .normal (s.keep l):=by
  simp only[W,Zf,Option.some.injEq,Prod.mk.injEq]
  exact⟨fun⟨_,_,_,⟨h1,h2⟩,h⟩=>h1▸h2▸h,fun h=>⟨0,_,_,⟨rfl,rfl⟩,h⟩⟩
theorem zdW {s:St}{id:Nat}{Q:Exit→St→Prop}:W T X (.exit id) s Q↔Q (.exit id) s:=by
  simp only[W,Zf,Option.some.injEq,Prod.mk.injEq]
  exact⟨fun⟨_,_,_,⟨h1,h2⟩,h⟩=>h1▸h2▸h,fun h=>⟨0,_,_,⟨rfl,rfl⟩,h⟩⟩
theorem zfK {s:St}{Q:Exit→St→Prop}:W T X .ret s Q↔Q .ret s:=by
  simp only[W,Zf,Option.some.injEq,Prod.mk.injEq]
  exact⟨fun⟨_,_,_,⟨h1,h2⟩,h⟩=>h1▸h2▸h,fun h=>⟨0,_,_,⟨rfl,rfl⟩,h⟩⟩
def WO (l:List MOp)(s:St)(K:St→Prop):Prop:=∃s',wQ (C T X) l s=some s'∧K s'
def WF (last:Bool)(h0:za)(l:List MOp)(s:St)(K:St→Prop):Prop:=∃s',Zs (C T X) last h0 l s=some s'∧K s'
def SO (o:MOp)(s:St)(K:St→Prop):Prop:=∃s',o.step (C T X) s=some s'∧K s'
def SF (last:Bool)(h0:za)(o:MOp)(s:St)(K:St→Prop):Prop:=∃s',o.free (C T X) last h0 s=some s'∧K s'
theorem zfJ {l:List MOp}{s:St}{Q:Exit→St→Prop}:W T X (.ops l) s Q↔WO T X l s fun s'=>Q .normal s'.close:=by
  constructor
  · rintro⟨n,e,s',h1,h2⟩
    simp only[Zf,Option.map_eq_some_iff,Prod.mk.injEq] at h1;obtain⟨s1,h1,rfl,rfl⟩:=h1;exact⟨s1,h1,h2⟩
  · rintro⟨s1,h1,h2⟩
    exact⟨0,_,_,by simp only[Zf,h1,Option.map_some],h2⟩
theorem zdX {last:Bool}{l:List MOp}{s:St}{Q:Exit→St→Prop}:W T X (.free last l) s Q↔WF T X last s.h l s fun s'=>Q .normal s'.close:=by
  constructor
  · rintro⟨n,e,s',h1,h2⟩
    simp only[Zf,Option.map_eq_some_iff,Prod.mk.injEq] at h1;obtain⟨s1,h1,rfl,rfl⟩:=h1;exact⟨s1,h1,h2⟩
  · rintro⟨s1,h1,h2⟩
    exact⟨0,_,_,by simp only[Zf,h1,Option.map_some],h2⟩
def WN (l:List (Tag × MOp))(hs:List za)(s:St)(K:St→Prop):Prop:=∃s',qC (C T X) l hs s=some s'∧K s'
def FH (p:za→Prop):List za→Prop
  | []=>True
  | h::l=>p h∧FH p l
theorem FL {p:za→Prop}:∀ {l:List za},FH p l↔∀h∈l,p h
  | []=>by simp[FH]
  | h::l=>by simp[FH,FL (l:=l)]
def jy (k:Nat)(l:List za):List za:=l.drop k
def Bl (l:List za)(h:za):List za:=l++[h]
theorem zcf {l:List za}:jy 0 l=l:=rfl
theorem zcg {a:za}{l:List za}:jy 1 (a::l)=l:=rfl
theorem zch {a b:za}{l:List za}:jy 2 (a::b::l)=l:=rfl
theorem zci {a b c:za}{l:List za}:jy 3 (a::b::c::l)=l:=rfl
theorem zcj {a b c d:za}{l:List za}:jy 4 (a::b::c::d::l)=l:=rfl
theorem zck {a b c d e:za}{l:List za}:jy 5 (a::b::c::d::e::l)=l:=rfl
theorem zcl {a b c d e f:za}{l:List za}:jy 6 (a::b::c::d::e::f::l)=l:=rfl
theorem dX {h:za}:Bl [] h=[h]:=rfl
theorem cO {h a:za}{l:List za}:Bl (a::l) h=a::Bl l h:=rfl
theorem Dw {p:za→Prop}:FH p []↔True:=Iff.rfl
theorem C8 {p:za→Prop}{h:za}{l:List za}:FH p (h::l)↔p h∧FH p l:=Iff.rfl
theorem zfI {l:List (Tag × MOp)}{s:St}{Q:Exit→St→Prop}:W T X (.opn l) s Q↔WN T X l [s.h] s fun s'=>Q .normal s'.close:=by
  constructor
  · rintro⟨n,e,s',h1,h2⟩
    simp only[Zf,Option.map_eq_some_iff,Prod.mk.injEq] at h1;obtain⟨s1,h1,rfl,rfl⟩:=h1;exact⟨s1,h1,h2⟩
  · rintro⟨s1,h1,h2⟩
    exact⟨0,_,_,by simp only[Zf,h1,Option.map_some],h2⟩
theorem zdT {hs:List za}{s:St}{K:St→Prop}:WN T X [] hs s K↔K s:=by simp[WN,qC]
theorem zhw {o:MOp}{l:List (Tag × MOp)}{hs:List za}{s:St}{K:St→Prop}:WN T X ((.c,o)::l) hs s K↔SF T X true [] o s fun s'=>WN T X l hs s' K:=by
  simp only[WN,SF,qC,MOp.opn,VT,Option.bind_eq_some_iff];constructor
  · rintro⟨s2,⟨s1,h1,h2⟩,h3⟩;exact⟨s1,h1,s2,h2,h3⟩
  · rintro⟨s1,h1,s2,h2,h3⟩;exact⟨s2,⟨s1,h1,h2⟩,h3⟩
theorem zhy {o:MOp}{l:List (Tag × MOp)}{hs:List za}{s:St}{K:St→Prop}:WN T X ((.m,o)::l) hs s K↔SF T X true [] o s fun s'=>WN T X l (Bl hs s'.h) s' K:=by
  simp only[Bl,WN,SF,qC,MOp.opn,VT,Option.bind_eq_some_iff];constructor
  · rintro⟨s2,⟨s1,h1,h2⟩,h3⟩;exact⟨s1,h1,s2,h2,h3⟩
  · rintro⟨s1,h1,s2,h2,h3⟩;exact⟨s2,⟨s1,h1,h2⟩,h3⟩
open Classical in
theorem zhx {k:Nat}{o:MOp}{l:List (Tag × MOp)}{hs:List za}{s:St}{K:St→Prop}:WN T X ((.l k,o)::l) hs s K↔SF T X false s.h o s fun s'=>FH (fun h=>SF T X false h o s fun s2=>s2=s') (jy k hs)∧WN T X l hs s' K:=by
  have e:∀h s',(SF T X false h o s fun s2=>s2=s')↔o.free (C T X) false h s=some s':=fun h s'=>by
    unfold SF;constructor
    · rintro⟨s2,h1,rfl⟩;exact h1
    · intro h1;exact⟨_,h1,rfl⟩
  simp only[jy,WN,qC,MOp.opn,VT,Option.bind_eq_some_iff,FL,e];unfold SF;constructor
  · rintro⟨s2,⟨s1,⟨s0,h1,h2⟩,h3⟩,h4⟩
    split at h2
    · rename_i hall
      cases h2;exact⟨s1,h1,hall,s2,h3,h4⟩
    · cases h2
  · rintro⟨s1,h1,hall,s2,h3,h4⟩
    exact⟨s2,⟨s1,⟨s1,h1,if_pos hall⟩,h3⟩,h4⟩
theorem zdU {s:St}{K:St→Prop}:WO T X [] s K↔K s:=by simp[WO,wQ]
theorem zdS {last:Bool}{h0:za}{s:St}{K:St→Prop}:WF T X last h0 [] s K↔K s:=by simp[WF,Zs]
theorem zb5 {o:MOp}{l:List MOp}{s:St}{K:St→Prop}:WO T X (o::l) s K↔SO T X o s fun s'=>WO T X l s' K:=by
  simp only[WO,SO,wQ,Option.bind_eq_some_iff];constructor
  · rintro⟨s2,⟨s1,h1,h2⟩,h3⟩;exact⟨s1,h1,s2,h2,h3⟩
  · rintro⟨s1,h1,s2,h2,h3⟩;exact⟨s2,⟨s1,h1,h2⟩,h3⟩
theorem zb4 {last:Bool}{h0:za}{o:MOp}{l:List MOp}{s:St}{K:St→Prop}:WF T X last h0 (o::l) s K↔SF T X last h0 o s fun s'=>WF T X last h0 l s' K:=by
  simp only[WF,SF,Zs,Option.bind_eq_some_iff];constructor
  · rintro⟨s2,⟨s1,h1,h2⟩,h3⟩;exact⟨s1,h1,s2,h2,h3⟩
  · rintro⟨s1,h1,s2,h2,h3⟩;exact⟨s2,⟨s1,h1,h2⟩,h3⟩
theorem jC {n m:Nat}(h:n≤m){i:IR}{s:St}{r:Exit × St}(hr:Zf (C T X) n i s=some r):Zf (C T X) m i s=some r:=JK (fun _ _ _ _ h=>h) h hr
def andThen (b:IR)(Q:Exit→St→Prop):Exit→St→Prop
  | .normal,s=>W T X b s Q
  | e,s=>Q e s
theorem zfL {x y:IR}{s:St}{Q:Exit→St→Prop}:W T X (.seq x y) s Q↔W T X x s (andThen T X y Q):=by
  constructor
  · rintro⟨n,e,s',h1,h2⟩
    simp only[Zf] at h1
    cases hx:Zf (C T X) n x s with
    | none=>rw[hx] at h1;cases h1
    | some q =>
      obtain⟨e1,s1⟩:=q;rw[hx] at h1;refine⟨n,e1,s1,hx,?_⟩
      cases e1 with
      | normal=>exact⟨n,e,s',h1,h2⟩
      | _=>cases h1;exact h2
  · rintro⟨n,e1,s1,h1,h2⟩
    cases e1 with
    | normal =>
      obtain⟨m,e,s',h3,h4⟩:=h2;refine⟨max n m,e,s',?_,h4⟩;simp only[Zf,jC T X (Nat.le_max_left n m) h1];exact jC T X (Nat.le_max_right n m) h3
    | _=>exact⟨n,_,s1,by simp only[Zf,h1],h2⟩
theorem zdV {b:Opd}{x y:IR}{s:St}{Q:Exit→St→Prop}{c:Bool}(hc:s.val b=.bool c):W T X (.cond b x y) s Q↔if c=true then W T X x s Q else W T X y s Q:=by
  unfold W;simp only[Zf,hc]
  cases c<;>simp
def Ya (id:Nat)(Q:Exit→St→Prop):Exit→St→Prop
  | .exit i,s=>if i=id then Q .normal s else Q (.exit i) s
  | e,s=>Q e s
theorem zb6 {id:Nat}{x:IR}{s:St}{Q:Exit→St→Prop}:W T X (.block id x) s Q↔W T X x s (Ya id Q):=by
  constructor
  · rintro⟨n,e,s',h1,h2⟩
    simp only[Zf] at h1
    cases hx:Zf (C T X) n x s with
    | none=>rw[hx] at h1;cases h1
    | some q =>
      obtain⟨e1,s1⟩:=q;rw[hx] at h1;refine⟨n,e1,s1,hx,?_⟩
      cases e1 with
      | exit i =>
        simp only at h1;unfold Ya;split at h1
        · rename_i hi;cases h1;simp only[hi,if_true];exact h2
        · rename_i hi;cases h1;simp only[hi,if_false];exact h2
      | _=>cases h1;exact h2
  · rintro⟨n,e1,s1,h1,h2⟩
    cases e1 with
    | exit i =>
      unfold Ya at h2;simp only at h2;split at h2
      · rename_i hi;exact⟨n,_,s1,by simp only[Zf,h1,hi,if_true],h2⟩
      · rename_i hi;exact⟨n,_,s1,by simp only[Zf,h1,hi,if_false],h2⟩
    | _=>exact⟨n,_,s1,by simp only[Zf,h1],h2⟩
theorem zdZ {x:IR}{s:St}{Q:Exit→St→Prop}(h:W T X x s (andThen T X (.loop x) Q)):W T X (.loop x) s Q:=by
  obtain⟨n,e1,s1,h1,h2⟩:=h
  cases e1 with
  | normal =>
    obtain⟨m,e,s',h3,h4⟩:=h2;refine⟨max n m+1,e,s',?_,h4⟩;simp only[Zf] at h3 ⊢;simp only[yn]
    rw[jC T X (by omega) h1]
    exact Yh (fun s r h=>jC T X (by omega) h) (by omega) h3
  | _ =>
    refine⟨n+1,_,s1,?_,h2⟩;simp only[Zf,yn]
    rw[jC T X (by omega) h1]
theorem zb8 {x:IR}{Q:Exit→St→Prop}(I:Nat→St→Prop)(step:∀n s,I n s→W T X x s fun e s'=>match e with | .normal=>∃m,m<n∧I m s' | e=>Q e s'):∀n s,I n s→W T X (.loop x) s Q:=by
  intro n
  induction n using Nat.strongRecOn with
  | _ n ih =>
    intro s hs
    refine zdZ T X ((step n s hs).mono T X fun e s' h=>?_)
    cases e with
    | normal=>obtain⟨m,hm,hi⟩:=h;exact ih m hm s' hi
    | _=>exact h
end
end Go.Proofs.Ytafhipglhnfgnaa.Ab
/- The rules by which the small language is stepped. No conditions. -/
namespace Go.Proofs.Ytafhipglhnfgnaa.Ab
open Go.RowKit
def ov (t:Nat→Value):Opd→Value
  | .t n=>t n
  | .c v=>v
theorem zhN {t:Nat→Value}{n:Nat}:ov t (.t n)=t n:=rfl
theorem zhM {t:Nat→Value}{v:Value}:ov t (.c v)=v:=rfl
def oov (t:Nat→Value):Option Opd→Option Value
  | some x=>some (ov t x)
  | none=>none
theorem zaX {t:Nat→Value}{x:Opd}:oov t (some x)=some (ov t x):=rfl
theorem zaW {t:Nat→Value}:oov t none=none:=rfl
def ovs (t:Nat→Value):List Opd→List Value
  | []=>[]
  | x::l=>ov t x::ovs t l
theorem zcY {t:Nat→Value}:ovs t []=[]:=rfl
theorem za3 {t:Nat→Value}{x:Opd}{l:List Opd}:ovs t (x::l)=ov t x::ovs t l:=rfl
def pls (t:Nat→Value):List (Nat × Nat × Opd)→List (Nat × Nat × Value)
  | []=>[]
  | (a,b,x)::l=>(a,b,ov t x)::pls t l
theorem zc1 {t:Nat→Value}:pls t []=[]:=rfl
theorem za8 {t:Nat→Value}{a b:Nat}{x:Opd}{l:List (Nat × Nat × Opd)}:pls t ((a,b,x)::l)=(a,b,ov t x)::pls t l:=rfl
def prs (t:Nat→Value):List (Nat × Opd)→List (Nat × Value)
  | []=>[]
  | (a,x)::l=>(a,ov t x)::prs t l
theorem zc2 {t:Nat→Value}:prs t []=[]:=rfl
theorem zba {t:Nat→Value}{a:Nat}{x:Opd}{l:List (Nat × Opd)}:prs t ((a,x)::l)=(a,ov t x)::prs t l:=rfl
theorem CI {t:Nat→Value}{l:List (Nat × Nat × Opd)}:(l.map fun p=>(p.1,p.2.1,ov t p.2.2))=pls t l:=by
  induction l with
  | nil=>rfl
  | cons x l ih=>obtain⟨a,b,x⟩:=x;rw[List.map_cons,ih];rfl
theorem CJ {t:Nat→Value}{l:List (Nat × Opd)}:(l.map fun p=>(p.1,ov t p.2))=prs t l:=by
  induction l with
  | nil=>rfl
  | cons x l ih=>obtain⟨a,x⟩:=x;rw[List.map_cons,ih];rfl
def bX (c a b:Value):Option Value:=match c with
  | .bool c=>some (if c=true then a else b)
  | _=>none
def F0 (ks:List Nat)(neg:Bool)(x y:Value):Option Value:=match x,y with
  | .agg ⟨xs⟩,.agg ⟨ys⟩=>(Vw ks xs ys).map fun b=>.bool (if neg=true then !b else b)
  | _,_=>none
def FW (k:IntKind):Value→Option Value
  | .int _ n=>some (.int k (k.wrap n))
  | _=>none
def flV (off n:Nat)(agg:Bool):Value→Option Value
  | .agg ⟨xs⟩=>if off+n≤xs.length then ofCells agg ((xs.drop off).take n) else none
  | _=>none
def zaN:Value→Option Value
  | .string b=>some (.int .i64 b.size)
  | _=>none
def zai (i:Nat):Value→Option Value
  | .tuple ⟨xs⟩=>xs[i]?
  | _=>none
def jw (h:za)(x:Value):Option Value:=(ldC h x 0).map fun _=>x
def mmV (isMax:Bool):Value→Value→Option Value
  | .int k a,.int _ b=>some (.int k (if isMax=true then (if b>a then b else a) else (if b<a then b else a)))
  | _,_=>none
def fnV (f:Fn)(l:List Value):Option Value:=if l.all yF=true then some (.func f #[] ⟨l⟩) else none
def zaH (n:Nat)(agg:Bool):Option (List Value)→Option Value
  | some cs=>if n≤cs.length then ofCells agg (cs.take n) else none
  | none=>none
def zaJ (n:Nat)(agg:Bool)(d:Nat):Option (Nat × Nat)→Option (List Value)→Option Value
  | some (d',off),some cs=>if d'=d∧off+n≤cs.length then ofCells agg ((cs.drop off).take n) else none
  | _,_=>none
def CU (n:Nat):Option (List Value)→Option Value
  | some cs=>if cs.length=n then (jJ cs).map fun ns=>.string (strOfNums ns) else none
  | none=>none
def fD (h:za)(sz:Nat)(ty:TypeId)(x:Value):Value→Option (Value × za)
  | .slice a n c=>(xi h sz (.slice a n c)).bind fun cs=>Jx h sz ty x cs n
  | _=>none
def qS (h:za)(sz:Nat)(ty:TypeId)(n:Nat)(x:Value):Option (List Value)→Option (Value × za)
  | some cs=>if cs.length=n*sz then Jx h sz ty x cs n else none
  | none=>none
def mkW (h:za)(sz:Nat)(ty:TypeId)(z:List Value):Value→Option (Value × za)
  | .int .i64 n=>if 0≤n∧n≤lim then some (.slice (some ⟨h.length,0,none⟩) n.toNat n.toNat,h++[⟨zj z n.toNat,sz,ty,true⟩]) else none
  | _=>none
def bxW (h:za)(ty:TypeId)(n:Nat)(x:Value):Option (Value × za):=match cellsOf x with
  | some cs=>if cs.length=n then some (.pointer (some ⟨h.length,0,some n⟩),h++[⟨cs,n,ty,true⟩]) else none
  | none=>none
def VK {α:Type}(o:Option α)(K:α→Prop):Prop:=∃v,o=some v∧K v
theorem zb2 {α:Type}{v:α}{K:α→Prop}:VK (some v) K↔K v:=by simp[VK]
theorem zb1 {α:Type}{K:α→Prop}:VK (none:Option α) K↔False:=by simp[VK]
theorem zhu {α:Type}{c:Prop}[Decidable c]{a b:Option α}{K:α→Prop}:VK (if c then a else b) K↔if c then VK a K else VK b K:=by split<;>rfl
theorem zg6 {α:Type}{c:Prop}[Decidable c]{a:Option α}{K:α→Prop}:VK (if c then a else none) K↔c∧VK a K:=by split<;>simp[VK, *]
theorem zhv {α β:Type}{o:Option α}{f:α→β}{K:β→Prop}:VK (o.map f) K↔VK o fun v=>K (f v):=by
  cases o<;>simp[VK]
theorem zg5 {α β:Type}{o:Option α}{f:α→Option β}{K:β→Prop}:VK (o.bind f) K↔VK o fun v=>VK (f v) K:=by
  cases o<;>simp[VK]
section
variable {T:FuncId→Option Fun}{X:Zb}{t:Nat→Value}{loc:Nat→Option (List Value)}{al:Nat→Option (Nat × Nat)}{h h0:za}{d:Nat}{K:St→Prop}{Q:Exit→St→Prop}{last:Bool}
theorem zB {x:Opd}:St.val ⟨t,loc,al,h⟩ x=ov t x:=by cases x<;>rfl
theorem zK {x:Option Opd}:x.map (St.val ⟨t,loc,al,h⟩)=oov t x:=by cases x<;>simp[oov,zB]
theorem zD {l:List Opd}:l.map (St.val ⟨t,loc,al,h⟩)=ovs t l:=by
  induction l with
  | nil=>rfl
  | cons x l ih=>rw[List.map_cons,ih,zB];rfl
theorem zm {l:List (Nat × Nat × Opd)}:(l.map fun p=>(p.1,p.2.1,St.val ⟨t,loc,al,h⟩ p.2.2))=pls t l:=by
  induction l with
  | nil=>rfl
  | cons x l ih=>obtain⟨a,b,x⟩:=x;rw[List.map_cons,ih,zB];rfl
theorem za4 {l:List (Nat × Opd)}:(l.map fun p=>(p.1,St.val ⟨t,loc,al,h⟩ p.2))=prs t l:=by
  induction l with
  | nil=>rfl
  | cons x l ih=>obtain⟨a,x⟩:=x;rw[List.map_cons,ih,zB];rfl
theorem qo {i : MI} {o : Option Value} (hg : ∀ s, MOp.go (C T X) ⟨some d, i, none⟩ s = (i.run s).map fun r => { s.put (some d) r.1 with h := r.2 }) (hr : i.run ⟨t, loc, al, h⟩ = o.map fun v => (v, h)) :
    SO T X ⟨some d,i,none⟩ ⟨t,loc,al,h⟩ K↔VK o fun v=>K ⟨upd t d v,loc,al,h⟩:=by
  unfold SO MOp.step;simp only[MOp.want,hg,hr,Option.map_map,VK]
  cases o<;>simp[St.put]
open Classical in
theorem qm {i : MI} {o : Option Value} (hg : ∀ s, MOp.free (C T X) last h0 ⟨some d, i, none⟩ s = (i.run { s with h := VW last s.h h0 }).map fun r => s.put (some d) r.1) (hr : i.run ⟨t, loc, al, VW last h h0⟩ = o.map fun v => (v, VW last h h0)) :
    SF T X last h0 ⟨some d,i,none⟩ ⟨t,loc,al,h⟩ K↔VK o fun v=>K ⟨upd t d v,loc,al,h⟩:=by
  unfold SF;simp only[hg,hr,Option.map_map,VK]
  cases o<;>simp[St.put]
theorem Yt {i : MI} {o : Option (Value × za)} (hg : ∀ s, MOp.go (C T X) ⟨some d, i, none⟩ s = (i.run s).map fun r => { s.put (some d) r.1 with h := r.2 }) (hr : i.run ⟨t, loc, al, h⟩ = o) :
    SO T X ⟨some d,i,none⟩ ⟨t,loc,al,h⟩ K↔VK o fun r=>K ⟨upd t d r.1,loc,al,r.2⟩:=by
  unfold SO MOp.step;simp only[MOp.want,hg,hr,VK]
  cases o<;>simp[St.put]
open Classical in
theorem Yr {i : MI} {o : Option (Value × za)} (hg : ∀ s, MOp.free (C T X) last h0 ⟨some d, i, none⟩ s = (i.run s).bind fun r => if last = true ∨ h0 <+: r.2 then some { s.put (some d) r.1 with h := r.2 } else none) (hr : i.run ⟨t, loc, al, h⟩ = o) :
    SF T X last h0 ⟨some d,i,none⟩ ⟨t,loc,al,h⟩ K↔VK o fun r=>(last=true∨h0 <+: r.2)∧K ⟨upd t d r.1,loc,al,r.2⟩:=by
  unfold SF;simp only[hg,hr,VK]
  cases o with
  | none=>simp
  | some r =>
    simp only[Option.bind_some,Option.some.injEq,exists_eq_left']
    by_cases hc:last=true∨h0 <+: r.2
    · simp[hc,St.put]
    · simp[hc]
theorem zfi {x:Opd}:SO T X ⟨some d,.mov x,none⟩ ⟨t,loc,al,h⟩ K↔VK (some (ov t x)) fun v=>K ⟨upd t d v,loc,al,h⟩ :=
  qo (fun s=>rfl) (by simp only[MI.run,zB,zK,zD,zm];(try rfl))
theorem zeZ {x:Opd}:SF T X last h0 ⟨some d,.mov x,none⟩ ⟨t,loc,al,h⟩ K↔VK (some (ov t x)) fun v=>K ⟨upd t d v,loc,al,h⟩ :=
  qm (fun s=>by simp[MOp.free,MOp.want,MI.makes,MI.reads]) (by simp only[MI.run,zB,zK,zD,zm];(try rfl))
theorem zdu {c a b:Opd}:SO T X ⟨some d,.pick c a b,none⟩ ⟨t,loc,al,h⟩ K↔VK (bX (ov t c) (ov t a) (ov t b)) fun v=>K ⟨upd t d v,loc,al,h⟩ :=
  qo (fun s=>rfl) (by simp only[MI.run,zB,zK,zD,zm];unfold bX;cases ov t c<;>rfl)
theorem zdj {c a b:Opd}:SF T X last h0 ⟨some d,.pick c a b,none⟩ ⟨t,loc,al,h⟩ K↔VK (bX (ov t c) (ov t a) (ov t b)) fun v=>K ⟨upd t d v,loc,al,h⟩ :=
  qm (fun s=>by simp[MOp.free,MOp.want,MI.makes,MI.reads]) (by simp only[MI.run,zB,zK,zD,zm];unfold bX;cases ov t c<;>rfl)
theorem ze8 {op:BinOp}{x y:Opd}:SO T X ⟨some d,.bin op x y,none⟩ ⟨t,loc,al,h⟩ K↔VK (Qr op (ov t x) (ov t y)) fun v=>K ⟨upd t d v,loc,al,h⟩ :=
  qo (fun s=>rfl) (by simp only[MI.run,zB,zK,zD,zm];(try rfl))
theorem zeN {op:BinOp}{x y:Opd}:SF T X last h0 ⟨some d,.bin op x y,none⟩ ⟨t,loc,al,h⟩ K↔VK (Qr op (ov t x) (ov t y)) fun v=>K ⟨upd t d v,loc,al,h⟩ :=
  qm (fun s=>by simp[MOp.free,MOp.want,MI.makes,MI.reads]) (by simp only[MI.run,zB,zK,zD,zm];(try rfl))
theorem zdq {op:BinOp}{x y:Opd}:SO T X ⟨some d,.binB op x y,none⟩ ⟨t,loc,al,h⟩ K↔VK (FP op (ov t x) (ov t y)) fun v=>K ⟨upd t d v,loc,al,h⟩ :=
  qo (fun s=>rfl) (by simp only[MI.run,zB,zK,zD,zm];(try rfl))
theorem zde {op:BinOp}{x y:Opd}:SF T X last h0 ⟨some d,.binB op x y,none⟩ ⟨t,loc,al,h⟩ K↔VK (FP op (ov t x) (ov t y)) fun v=>K ⟨upd t d v,loc,al,h⟩ :=
  qm (fun s=>by simp[MOp.free,MOp.want,MI.makes,MI.reads]) (by simp only[MI.run,zB,zK,zD,zm];(try rfl))
theorem zfb {ks:List Nat}{neg:Bool}{x y:Opd}:SO T X ⟨some d,.eqS ks neg x y,none⟩ ⟨t,loc,al,h⟩ K↔VK (F0 ks neg (ov t x) (ov t y)) fun v=>K ⟨upd t d v,loc,al,h⟩ :=
  qo (fun s=>rfl) (by simp only[MI.run,zB,zK,zD,zm];unfold F0;(cases ov t x with | agg a=>(cases ov t y with | agg b=>(obtain⟨a⟩:=a;obtain⟨b⟩:=b;simp[Option.map_map,Function.comp_def]) | _=>rfl) | _=>rfl))
theorem zeQ {ks:List Nat}{neg:Bool}{x y:Opd}:SF T X last h0 ⟨some d,.eqS ks neg x y,none⟩ ⟨t,loc,al,h⟩ K↔VK (F0 ks neg (ov t x) (ov t y)) fun v=>K ⟨upd t d v,loc,al,h⟩ :=
  qm (fun s=>by simp[MOp.free,MOp.want,MI.makes,MI.reads]) (by simp only[MI.run,zB,zK,zD,zm];unfold F0;(cases ov t x with | agg a=>(cases ov t y with | agg b=>(obtain⟨a⟩:=a;obtain⟨b⟩:=b;simp[Option.map_map,Function.comp_def]) | _=>rfl) | _=>rfl))
theorem zg1 {op:UnOp}{x:Opd}:SO T X ⟨some d,.un op x,none⟩ ⟨t,loc,al,h⟩ K↔VK (unV op (ov t x)) fun v=>K ⟨upd t d v,loc,al,h⟩ :=
  qo (fun s=>rfl) (by simp only[MI.run,zB,zK,zD,zm];(try rfl))
theorem zgE {op:UnOp}{x:Opd}:SF T X last h0 ⟨some d,.un op x,none⟩ ⟨t,loc,al,h⟩ K↔VK (unV op (ov t x)) fun v=>K ⟨upd t d v,loc,al,h⟩ :=
  qm (fun s=>by simp[MOp.free,MOp.want,MI.makes,MI.reads]) (by simp only[MI.run,zB,zK,zD,zm];(try rfl))
theorem zdt {k:IntKind}{x:Opd}:SO T X ⟨some d,.conv k x,none⟩ ⟨t,loc,al,h⟩ K↔VK (FW k (ov t x)) fun v=>K ⟨upd t d v,loc,al,h⟩ :=
  qo (fun s=>rfl) (by simp only[MI.run,zB,zK,zD,zm];unfold FW;cases ov t x<;>rfl)
theorem zdg {k:IntKind}{x:Opd}:SF T X last h0 ⟨some d,.conv k x,none⟩ ⟨t,loc,al,h⟩ K↔VK (FW k (ov t x)) fun v=>K ⟨upd t d v,loc,al,h⟩ :=
  qm (fun s=>by simp[MOp.free,MOp.want,MI.makes,MI.reads]) (by simp only[MI.run,zB,zK,zD,zm];unfold FW;cases ov t x<;>rfl)
theorem zfl {x:Opd}:SO T X ⟨some d,.str x,none⟩ ⟨t,loc,al,h⟩ K↔VK (XB h (ov t x)) fun v=>K ⟨upd t d v,loc,al,h⟩ :=
  qo (fun s=>rfl) (by simp only[MI.run,zB,zK,zD,zm];(try rfl))
theorem ze4 {x:Opd}:SF T X last h0 ⟨some d,.str x,none⟩ ⟨t,loc,al,h⟩ K↔VK (XB (VW last h h0) (ov t x)) fun v=>K ⟨upd t d v,loc,al,h⟩ :=
  qm (fun s=>by simp[MOp.free,MOp.want,MI.makes,MI.reads]) (by simp only[MI.run,zB,zK,zD,zm];(try rfl))
theorem zgV {n:Nat}{agg:Bool}{x:Opd}:SO T X ⟨some d,.ld n agg x,none⟩ ⟨t,loc,al,h⟩ K↔VK ((ldC h (ov t x) n).bind (ofCells agg)) fun v=>K ⟨upd t d v,loc,al,h⟩ :=
  qo (fun s=>rfl) (by simp only[MI.run,zB,zK,zD,zm];(try rfl))
theorem zgy {n:Nat}{agg:Bool}{x:Opd}:SF T X last h0 ⟨some d,.ld n agg x,none⟩ ⟨t,loc,al,h⟩ K↔VK ((ldC (VW last h h0) (ov t x) n).bind (ofCells agg)) fun v=>K ⟨upd t d v,loc,al,h⟩ :=
  qm (fun s=>by simp[MOp.free,MOp.want,MI.makes,MI.reads]) (by simp only[MI.run,zB,zK,zD,zm];(try rfl))
theorem zgL {off:Nat}{x:Opd}:SO T X ⟨some d,.fa off x,none⟩ ⟨t,loc,al,h⟩ K↔VK (faV h (ov t x) off) fun v=>K ⟨upd t d v,loc,al,h⟩ :=
  qo (fun s=>rfl) (by simp only[MI.run,zB,zK,zD,zm];(try rfl))
theorem zgo {off:Nat}{x:Opd}:SF T X last h0 ⟨some d,.fa off x,none⟩ ⟨t,loc,al,h⟩ K↔VK (faV (VW last h h0) (ov t x) off) fun v=>K ⟨upd t d v,loc,al,h⟩ :=
  qm (fun s=>by simp[MOp.free,MOp.want,MI.makes,MI.reads]) (by simp only[MI.run,zB,zK,zD,zm];(try rfl))
theorem zgT {sz:Nat}{x i:Opd}:SO T X ⟨some d,.ia sz x i,none⟩ ⟨t,loc,al,h⟩ K↔VK (iaV h sz (ov t x) (ov t i)) fun v=>K ⟨upd t d v,loc,al,h⟩ :=
  qo (fun s=>rfl) (by simp only[MI.run,zB,zK,zD,zm];(try rfl))
theorem zgw {sz:Nat}{x i:Opd}:SF T X last h0 ⟨some d,.ia sz x i,none⟩ ⟨t,loc,al,h⟩ K↔VK (iaV (VW last h h0) sz (ov t x) (ov t i)) fun v=>K ⟨upd t d v,loc,al,h⟩ :=
  qm (fun s=>by simp[MOp.free,MOp.want,MI.makes,MI.reads]) (by simp only[MI.run,zB,zK,zD,zm];(try rfl))
theorem zgU {x i:Opd}:SO T X ⟨some d,.ix x i,none⟩ ⟨t,loc,al,h⟩ K↔VK (ixV (ov t x) (ov t i)) fun v=>K ⟨upd t d v,loc,al,h⟩ :=
  qo (fun s=>rfl) (by simp only[MI.run,zB,zK,zD,zm];(try rfl))
theorem zgx {x i:Opd}:SF T X last h0 ⟨some d,.ix x i,none⟩ ⟨t,loc,al,h⟩ K↔VK (ixV (ov t x) (ov t i)) fun v=>K ⟨upd t d v,loc,al,h⟩ :=
  qm (fun s=>by simp[MOp.free,MOp.want,MI.makes,MI.reads]) (by simp only[MI.run,zB,zK,zD,zm];(try rfl))
theorem zgM {off n:Nat}{agg:Bool}{x:Opd}:SO T X ⟨some d,.fl off n agg x,none⟩ ⟨t,loc,al,h⟩ K↔VK (flV off n agg (ov t x)) fun v=>K ⟨upd t d v,loc,al,h⟩ :=
  qo (fun s=>rfl) (by simp only[MI.run,zB,zK,zD,zm];unfold flV;(cases ov t x with | agg a=>(obtain⟨a⟩:=a;simp only[];split<;>rfl) | _=>rfl))
theorem zgp {off n:Nat}{agg:Bool}{x:Opd}:SF T X last h0 ⟨some d,.fl off n agg x,none⟩ ⟨t,loc,al,h⟩ K↔VK (flV off n agg (ov t x)) fun v=>K ⟨upd t d v,loc,al,h⟩ :=
  qm (fun s=>by simp[MOp.free,MOp.want,MI.makes,MI.reads]) (by simp only[MI.run,zB,zK,zD,zm];unfold flV;(cases ov t x with | agg a=>(obtain⟨a⟩:=a;simp only[];split<;>rfl) | _=>rfl))
theorem zfk {x:Opd}{lo hi:Option Opd}:SO T X ⟨some d,.slS x lo hi,none⟩ ⟨t,loc,al,h⟩ K↔VK (Xz (ov t x) (oov t lo) (oov t hi)) fun v=>K ⟨upd t d v,loc,al,h⟩ :=
  qo (fun s=>rfl) (by simp only[MI.run,zB,zK,zD,zm];(try rfl))
theorem ze1 {x:Opd}{lo hi:Option Opd}:SF T X last h0 ⟨some d,.slS x lo hi,none⟩ ⟨t,loc,al,h⟩ K↔VK (Xz (ov t x) (oov t lo) (oov t hi)) fun v=>K ⟨upd t d v,loc,al,h⟩ :=
  qm (fun s=>by simp[MOp.free,MOp.want,MI.makes,MI.reads]) (by simp only[MI.run,zB,zK,zD,zm];(try rfl))
theorem zfj {sz:Nat}{x:Opd}{lo hi:Option Opd}:SO T X ⟨some d,.slL sz x lo hi,none⟩ ⟨t,loc,al,h⟩ K↔VK (kb sz (ov t x) (oov t lo) (oov t hi) h) fun v=>K ⟨upd t d v,loc,al,h⟩ :=
  qo (fun s=>rfl) (by simp only[MI.run,zB,zK,zD,zm];(try rfl))
theorem ze0 {sz:Nat}{x:Opd}{lo hi:Option Opd}:SF T X last h0 ⟨some d,.slL sz x lo hi,none⟩ ⟨t,loc,al,h⟩ K↔VK (kb sz (ov t x) (oov t lo) (oov t hi) (VW last h h0)) fun v=>K ⟨upd t d v,loc,al,h⟩ :=
  qm (fun s=>by simp[MOp.free,MOp.want,MI.makes,MI.reads]) (by simp only[MI.run,zB,zK,zD,zm];(try rfl))
theorem zgW {x:Opd}:SO T X ⟨some d,.ln x,none⟩ ⟨t,loc,al,h⟩ K↔VK (lnV h (ov t x)) fun v=>K ⟨upd t d v,loc,al,h⟩ :=
  qo (fun s=>rfl) (by simp only[MI.run,zB,zK,zD,zm];(try rfl))
theorem zgz {x:Opd}:SF T X last h0 ⟨some d,.ln x,none⟩ ⟨t,loc,al,h⟩ K↔VK (lnV (VW last h h0) (ov t x)) fun v=>K ⟨upd t d v,loc,al,h⟩ :=
  qm (fun s=>by simp[MOp.free,MOp.want,MI.makes,MI.reads]) (by simp only[MI.run,zB,zK,zD,zm];(try rfl))
theorem zfh {x:Opd}:SO T X ⟨some d,.lnS x,none⟩ ⟨t,loc,al,h⟩ K↔VK (zaN (ov t x)) fun v=>K ⟨upd t d v,loc,al,h⟩ :=
  qo (fun s=>rfl) (by simp only[MI.run,zB,zK,zD,zm];unfold zaN;cases ov t x<;>rfl)
theorem zeY {x:Opd}:SF T X last h0 ⟨some d,.lnS x,none⟩ ⟨t,loc,al,h⟩ K↔VK (zaN (ov t x)) fun v=>K ⟨upd t d v,loc,al,h⟩ :=
  qm (fun s=>by simp[MOp.free,MOp.want,MI.makes,MI.reads]) (by simp only[MI.run,zB,zK,zD,zm];unfold zaN;cases ov t x<;>rfl)
theorem ze9 {z:List Value}{ps:List (Nat × Nat × Opd)}:SO T X ⟨some d,.bld z ps,none⟩ ⟨t,loc,al,h⟩ K↔VK ((Qp z (pls t ps)).map fun cs=>.agg ⟨cs⟩) fun v=>K ⟨upd t d v,loc,al,h⟩ :=
  qo (fun s=>rfl) (by simp only[MI.run,zB,zK,zD,zm];rw[CI];simp[Option.map_map,Function.comp_def])
theorem zeO {z:List Value}{ps:List (Nat × Nat × Opd)}:SF T X last h0 ⟨some d,.bld z ps,none⟩ ⟨t,loc,al,h⟩ K↔VK ((Qp z (pls t ps)).map fun cs=>.agg ⟨cs⟩) fun v=>K ⟨upd t d v,loc,al,h⟩ :=
  qm (fun s=>by simp[MOp.free,MOp.want,MI.makes,MI.reads]) (by simp only[MI.run,zB,zK,zD,zm];rw[CI];simp[Option.map_map,Function.comp_def])
theorem zfc {i:Nat}{x:Opd}:SO T X ⟨some d,.ext i x,none⟩ ⟨t,loc,al,h⟩ K↔VK (zai i (ov t x)) fun v=>K ⟨upd t d v,loc,al,h⟩ :=
  qo (fun s=>rfl) (by simp only[MI.run,zB,zK,zD,zm];unfold zai;(cases ov t x with | tuple a=>(obtain⟨a⟩:=a;rfl) | _=>rfl))
theorem zeR {i:Nat}{x:Opd}:SF T X last h0 ⟨some d,.ext i x,none⟩ ⟨t,loc,al,h⟩ K↔VK (zai i (ov t x)) fun v=>K ⟨upd t d v,loc,al,h⟩ :=
  qm (fun s=>by simp[MOp.free,MOp.want,MI.makes,MI.reads]) (by simp only[MI.run,zB,zK,zD,zm];unfold zai;(cases ov t x with | tuple a=>(obtain⟨a⟩:=a;rfl) | _=>rfl))
theorem zfa {x:Opd}:SO T X ⟨some d,.chk x,none⟩ ⟨t,loc,al,h⟩ K↔VK (jw h (ov t x)) fun v=>K ⟨upd t d v,loc,al,h⟩ :=
  qo (fun s=>rfl) (by simp only[MI.run,zB,zK,zD,zm];simp[jw,Option.map_map,Function.comp_def])
theorem zeP {x:Opd}:SF T X last h0 ⟨some d,.chk x,none⟩ ⟨t,loc,al,h⟩ K↔VK (jw (VW last h h0) (ov t x)) fun v=>K ⟨upd t d v,loc,al,h⟩ :=
  qm (fun s=>by simp[MOp.free,MOp.want,MI.makes,MI.reads]) (by simp only[MI.run,zB,zK,zD,zm];simp[jw,Option.map_map,Function.comp_def])
theorem zgY {m:Bool}{x y:Opd}:SO T X ⟨some d,.mm m x y,none⟩ ⟨t,loc,al,h⟩ K↔VK (mmV m (ov t x) (ov t y)) fun v=>K ⟨upd t d v,loc,al,h⟩ :=
  qo (fun s=>rfl) (by simp only[MI.run,zB,zK,zD,zm];unfold mmV;(cases ov t x with | int k a=>(cases ov t y<;>rfl) | _=>rfl))
theorem zgB {m:Bool}{x y:Opd}:SF T X last h0 ⟨some d,.mm m x y,none⟩ ⟨t,loc,al,h⟩ K↔VK (mmV m (ov t x) (ov t y)) fun v=>K ⟨upd t d v,loc,al,h⟩ :=
  qm (fun s=>by simp[MOp.free,MOp.want,MI.makes,MI.reads]) (by simp only[MI.run,zB,zK,zD,zm];unfold mmV;(cases ov t x with | int k a=>(cases ov t y<;>rfl) | _=>rfl))
theorem zgN {f:Fn}{l:List Opd}:SO T X ⟨some d,.fn f l,none⟩ ⟨t,loc,al,h⟩ K↔VK (fnV f (ovs t l)) fun v=>K ⟨upd t d v,loc,al,h⟩ :=
  qo (fun s=>rfl) (by simp only[MI.run,zB,zK,zD,zm];unfold fnV;split<;>rfl)
theorem zgq {f:Fn}{l:List Opd}:SF T X last h0 ⟨some d,.fn f l,none⟩ ⟨t,loc,al,h⟩ K↔VK (fnV f (ovs t l)) fun v=>K ⟨upd t d v,loc,al,h⟩ :=
  qm (fun s=>by simp[MOp.free,MOp.want,MI.makes,MI.reads]) (by simp only[MI.run,zB,zK,zD,zm];unfold fnV;split<;>rfl)
theorem zfe {n:Nat}{agg:Bool}{e:Nat}:SO T X ⟨some d,.ldB n agg e,none⟩ ⟨t,loc,al,h⟩ K↔VK (zaH n agg (loc e)) fun v=>K ⟨upd t d v,loc,al,h⟩ :=
  qo (fun s=>rfl) (by simp only[MI.run,zB,zK,zD,zm];unfold zaH;(cases loc e with | none=>rfl | some cs=>(simp only[];split<;>rfl)))
theorem zeV {n:Nat}{agg:Bool}{e:Nat}:SF T X last h0 ⟨some d,.ldB n agg e,none⟩ ⟨t,loc,al,h⟩ K↔VK (zaH n agg (loc e)) fun v=>K ⟨upd t d v,loc,al,h⟩ :=
  qm (fun s=>by simp[MOp.free,MOp.want,MI.makes,MI.reads]) (by simp only[MI.run,zB,zK,zD,zm];unfold zaH;(cases loc e with | none=>rfl | some cs=>(simp only[];split<;>rfl)))
theorem zff {n:Nat}{agg:Bool}{e f:Nat}:SO T X ⟨some d,.ldE n agg e f,none⟩ ⟨t,loc,al,h⟩ K↔VK (zaJ n agg e (al f) (loc e)) fun v=>K ⟨upd t d v,loc,al,h⟩ :=
  qo (fun s=>rfl) (by simp only[MI.run,zB,zK,zD,zm];unfold zaJ;(cases al f with | none=>rfl | some p=>(obtain⟨a,b⟩:=p;cases loc e with | none=>rfl | some cs=>(simp only[];split<;>rfl))))
theorem zeW {n:Nat}{agg:Bool}{e f:Nat}:SF T X last h0 ⟨some d,.ldE n agg e f,none⟩ ⟨t,loc,al,h⟩ K↔VK (zaJ n agg e (al f) (loc e)) fun v=>K ⟨upd t d v,loc,al,h⟩ :=
  qm (fun s=>by simp[MOp.free,MOp.want,MI.makes,MI.reads]) (by simp only[MI.run,zB,zK,zD,zm];unfold zaJ;(cases al f with | none=>rfl | some p=>(obtain⟨a,b⟩:=p;cases loc e with | none=>rfl | some cs=>(simp only[];split<;>rfl))))
theorem zdv {n e:Nat}:SO T X ⟨some d,.strL n e,none⟩ ⟨t,loc,al,h⟩ K↔VK (CU n (loc e)) fun v=>K ⟨upd t d v,loc,al,h⟩ :=
  qo (fun s=>rfl) (by simp only[MI.run,zB,zK,zD,zm];unfold CU;(cases loc e with | none=>rfl | some cs=>(simp only[];split<;>simp[Option.map_map,Function.comp_def])))
theorem zdk {n e:Nat}:SF T X last h0 ⟨some d,.strL n e,none⟩ ⟨t,loc,al,h⟩ K↔VK (CU n (loc e)) fun v=>K ⟨upd t d v,loc,al,h⟩ :=
  qm (fun s=>by simp[MOp.free,MOp.want,MI.makes,MI.reads]) (by simp only[MI.run,zB,zK,zD,zm];unfold CU;(cases loc e with | none=>rfl | some cs=>(simp only[];split<;>simp[Option.map_map,Function.comp_def])))
theorem ze7 {sz:Nat}{ty:TypeId}{b:Nat}{x y:Opd}:SO T X ⟨some d,.app sz ty b x y,none⟩ ⟨t,loc,al,h⟩ K↔VK (fD h sz ty (ov t x) (ov t y)) fun r=>K ⟨upd t d r.1,loc,al,r.2⟩ :=
  Yt (fun s=>rfl) (by simp only[MI.run,zB];unfold fD;cases ov t y<;>rfl)
theorem zeM {sz:Nat}{ty:TypeId}{b:Nat}{x y:Opd}:SF T X last h0 ⟨some d,.app sz ty b x y,none⟩ ⟨t,loc,al,h⟩ K↔VK (fD h sz ty (ov t x) (ov t y)) fun r=>(last=true∨h0 <+: r.2)∧K ⟨upd t d r.1,loc,al,r.2⟩ :=
  Yr (fun s=>by simp[MOp.free,MOp.want,MI.makes,MI.reads]) (by simp only[MI.run,zB];unfold fD;cases ov t y<;>rfl)
theorem zdp {sz:Nat}{ty:TypeId}{b n:Nat}{x:Opd}{e:Nat}:SO T X ⟨some d,.appL sz ty b n x e,none⟩ ⟨t,loc,al,h⟩ K↔VK (qS h sz ty n (ov t x) (loc e)) fun r=>K ⟨upd t d r.1,loc,al,r.2⟩ :=
  Yt (fun s=>rfl) (by simp only[MI.run,zB];unfold qS;cases loc e<;>rfl)
theorem zdd {sz:Nat}{ty:TypeId}{b n:Nat}{x:Opd}{e:Nat}:SF T X last h0 ⟨some d,.appL sz ty b n x e,none⟩ ⟨t,loc,al,h⟩ K↔VK (qS h sz ty n (ov t x) (loc e)) fun r=>(last=true∨h0 <+: r.2)∧K ⟨upd t d r.1,loc,al,r.2⟩ :=
  Yr (fun s=>by simp[MOp.free,MOp.want,MI.makes,MI.reads]) (by simp only[MI.run,zB];unfold qS;cases loc e<;>rfl)
theorem zfg {n sz:Nat}{ty:TypeId}{z:List Value}{ps:List (Nat × Opd)}:SO T X ⟨some d,.lit n sz ty z ps,none⟩ ⟨t,loc,al,h⟩ K↔VK ((zi sz (zj z n) (prs t ps)).map fun cs=>(.slice (some ⟨h.length,0,none⟩) n n,h++[⟨cs,sz,ty,true⟩])) fun r=>K ⟨upd t d r.1,loc,al,r.2⟩ :=
  Yt (fun s=>rfl) (by simp only[MI.run,zB];rw[CJ])
theorem zgX {sz:Nat}{ty:TypeId}{b:Nat}{z:List Value}{x:Opd}:SO T X ⟨some d,.mk sz ty b z x,none⟩ ⟨t,loc,al,h⟩ K↔VK (mkW h sz ty z (ov t x)) fun r=>K ⟨upd t d r.1,loc,al,r.2⟩ :=
  Yt (fun s=>rfl) (by simp only[MI.run,zB];unfold mkW;(cases ov t x with | int k a=>(cases k<;>rfl) | _=>rfl))
theorem zgZ {ty:TypeId}{cs:List Value}:SO T X ⟨some d,.nw ty cs,none⟩ ⟨t,loc,al,h⟩ K↔VK (some (.pointer (some ⟨h.length,0,some cs.length⟩),h++[⟨cs,cs.length,ty,true⟩])) fun r=>K ⟨upd t d r.1,loc,al,r.2⟩ :=
  Yt (fun s=>rfl) (by simp only[MI.run,zB];(try rfl))
theorem zgK {ty:TypeId}{n:Nat}{x:Opd}:SO T X ⟨some d,.bx ty n x,none⟩ ⟨t,loc,al,h⟩ K↔VK (bxW h ty n (ov t x)) fun r=>K ⟨upd t d r.1,loc,al,r.2⟩ :=
  Yt (fun s=>rfl) (by simp only[MI.run,zB];unfold bxW;cases cellsOf (ov t x)<;>rfl)
theorem zds {f:FuncId}{l:List Opd}:SO T X ⟨some d,.call f l,none⟩ ⟨t,loc,al,h⟩ K↔VK (C T X f (ovs t l) h) fun r=>K ⟨upd t d r.1,loc,al,r.2⟩:=by
  unfold SO MOp.step;simp only[MOp.want,MOp.go,zD,VK]
  cases C T X f (ovs t l) h<;>simp[St.put]
theorem zby {f:FuncId}{l:List Opd}:SO T X ⟨none,.call f l,none⟩ ⟨t,loc,al,h⟩ K↔VK (C T X f (ovs t l) h) fun r=>K ⟨t,loc,al,r.2⟩:=by
  unfold SO MOp.step;simp only[MOp.want,MOp.go,zD,VK]
  cases C T X f (ovs t l) h<;>simp[St.put]
open Classical in
theorem zdf {f:FuncId}{l:List Opd}:SF T X last h0 ⟨some d,.call f l,none⟩ ⟨t,loc,al,h⟩ K↔VK (C T X f (ovs t l) h) fun r=>(last=true∨h <+: r.2)∧K ⟨upd t d r.1,loc,al,r.2⟩:=by
  unfold SF MOp.free;simp only[MOp.want,zD,VK]
  cases C T X f (ovs t l) h with
  | none=>simp
  | some r=>
    simp only[Option.bind_some,Option.some.injEq,exists_eq_left']
    by_cases hc:last=true∨h <+: r.2
    · simp[hc,St.put]
    · simp[hc]
open Classical in
theorem zbw {f:FuncId}{l:List Opd}:SF T X last h0 ⟨none,.call f l,none⟩ ⟨t,loc,al,h⟩ K↔VK (C T X f (ovs t l) h) fun r=>(last=true∨h <+: r.2)∧K ⟨t,loc,al,r.2⟩:=by
  unfold SF MOp.free;simp only[MOp.want,zD,VK]
  cases C T X f (ovs t l) h with
  | none=>simp
  | some r=>
    simp only[Option.bind_some,Option.some.injEq,exists_eq_left']
    by_cases hc:last=true∨h <+: r.2
    · simp[hc,St.put]
    · simp[hc]
theorem cF {h h0:za}:VW true h h0=h:=rfl
theorem bW {h h0:za}:VW false h h0=h0:=rfl
def Ua (n sz:Nat)(ty:TypeId)(h:za)(x:Option (List Value)):Option (Value × za):=match x with
  | some cs=>if cs.length=n*sz∧0<sz∧n≤lim then some (.slice (some ⟨h.length,0,none⟩) n n,h++[⟨cs,sz,ty,false⟩]) else none
  | none=>none
theorem yI {n sz:Nat}{ty:TypeId}{cs:List Value}(hc:cs.length=n*sz∧0<sz∧n≤lim):Ua n sz ty h (some cs)=some (.slice (some ⟨h.length,0,none⟩) n n,h++[⟨cs,sz,ty,false⟩]):=if_pos hc
theorem zbz {f:FuncId}{n sz:Nat}{ty:TypeId}{e:Nat}:SO T X ⟨some d,.callL f n sz ty e,none⟩ ⟨t,loc,al,h⟩ K↔VK (Ua n sz ty h (loc e)) fun p=>VK (C T X f [p.1] p.2) fun r=>K ⟨upd t d r.1,upd loc e none,al,r.2⟩:=by
  unfold SO MOp.step Ua;simp only[MOp.want,MOp.go,VK]
  cases loc e with
  | none=>simp
  | some cs =>
    by_cases hc:cs.length=n*sz∧0<sz∧n≤lim
    · simp only[if_pos hc,Option.some.injEq,exists_eq_left']
      cases C T X f [.slice (some ⟨h.length,0,none⟩) n n] (h++[⟨cs,sz,ty,false⟩])<;>simp[St.put]
    · simp only[if_neg hc];simp
theorem dY {f:FuncId}{n sz:Nat}{ty:TypeId}{e:Nat}:SO T X ⟨none,.callL f n sz ty e,none⟩ ⟨t,loc,al,h⟩ K↔VK (Ua n sz ty h (loc e)) fun p=>VK (C T X f [p.1] p.2) fun r=>K ⟨t,upd loc e none,al,r.2⟩:=by
  unfold SO MOp.step Ua;simp only[MOp.want,MOp.go,VK]
  cases loc e with
  | none=>simp
  | some cs =>
    by_cases hc:cs.length=n*sz∧0<sz∧n≤lim
    · simp only[if_pos hc,Option.some.injEq,exists_eq_left']
      cases C T X f [.slice (some ⟨h.length,0,none⟩) n n] (h++[⟨cs,sz,ty,false⟩])<;>simp[St.put]
    · simp only[if_neg hc];simp
open Classical in
theorem zbx {f:FuncId}{n sz:Nat}{ty:TypeId}{e:Nat}:SF T X last h0 ⟨some d,.callL f n sz ty e,none⟩ ⟨t,loc,al,h⟩ K↔VK (Ua n sz ty h (loc e)) fun p=>VK (C T X f [p.1] p.2) fun r=>(last=true∨h <+: r.2)∧K ⟨upd t d r.1,upd loc e none,al,r.2⟩:=by
  unfold SF MOp.free Ua;simp only[MOp.want,VK]
  cases loc e with
  | none=>simp
  | some cs =>
    by_cases hc:cs.length=n*sz∧0<sz∧n≤lim
    · simp only[if_pos hc,Option.some.injEq,exists_eq_left']
      cases hr:C T X f [.slice (some ⟨h.length,0,none⟩) n n] (h++[⟨cs,sz,ty,false⟩]) with
      | none=>simp
      | some r =>
        simp only[Option.bind_some,Option.some.injEq,exists_eq_left']
        by_cases hc:last=true∨h <+: r.2
        · simp[hc,St.put]
        · simp[hc]
    · simp only[if_neg hc];simp
theorem zgA {sz:Nat}{ty:TypeId}{b:Nat}{z:List Value}{x:Opd}:SF T X last h0 ⟨some d,.mk sz ty b z x,none⟩ ⟨t,loc,al,h⟩ K↔VK (mkW h sz ty z (ov t x)) fun r=>(last=true∨h0 <+: r.2)∧K ⟨upd t d r.1,loc,al,r.2⟩ :=
  Yr (fun s=>by simp[MOp.free,MOp.want,MI.makes,MI.reads]) (by simp only[MI.run,zB];unfold mkW;(cases ov t x with | int k a=>(cases k<;>rfl) | _=>rfl))
theorem zgC {ty:TypeId}{cs:List Value}:SF T X last h0 ⟨some d,.nw ty cs,none⟩ ⟨t,loc,al,h⟩ K↔VK (some (.pointer (some ⟨h.length,0,some cs.length⟩),h++[⟨cs,cs.length,ty,true⟩])) fun r=>(last=true∨h0 <+: r.2)∧K ⟨upd t d r.1,loc,al,r.2⟩ :=
  Yr (fun s=>by simp[MOp.free,MOp.want,MI.makes,MI.reads]) (by simp only[MI.run,zB];(try rfl))
theorem zgn {ty:TypeId}{n:Nat}{x:Opd}:SF T X last h0 ⟨some d,.bx ty n x,none⟩ ⟨t,loc,al,h⟩ K↔VK (bxW h ty n (ov t x)) fun r=>(last=true∨h0 <+: r.2)∧K ⟨upd t d r.1,loc,al,r.2⟩ :=
  Yr (fun s=>by simp[MOp.free,MOp.want,MI.makes,MI.reads]) (by simp only[MI.run,zB];unfold bxW;cases cellsOf (ov t x)<;>rfl)
open Classical in
theorem zgD {n:Nat}{x y:Opd}:SF T X last h0 ⟨none,.st n x y,none⟩ ⟨t,loc,al,h⟩ K↔VK (cellsOf (ov t y)) fun vs=>vs.length=n∧VK (stC h (ov t x) vs) fun h'=>(last=true∨h0 <+: h')∧K ⟨t,loc,al,h'⟩:=by
  unfold SF MOp.free;simp only[MOp.want,MOp.go,zB,VK]
  cases cellsOf (ov t y) with
  | none=>simp
  | some vs =>
    simp only[Option.some.injEq,exists_eq_left']
    by_cases hc:vs.length=n
    · simp only[hc,if_true,true_and]
      cases stC h (ov t x) vs with
      | none=>simp
      | some h' =>
        simp only[Option.map_some,Option.bind_some,Option.some.injEq,exists_eq_left']
        by_cases hp:last=true∨h0 <+: h'
        · simp[hp]
        · simp[hp]
    · simp[hc]
theorem zeX {n sz:Nat}{ty:TypeId}{z:List Value}{ps:List (Nat × Opd)}:SF T X last h0 ⟨some d,.lit n sz ty z ps,none⟩ ⟨t,loc,al,h⟩ K↔VK ((zi sz (zj z n) (prs t ps)).map fun cs=>(.slice (some ⟨h.length,0,none⟩) n n,h++[⟨cs,sz,ty,true⟩])) fun r=>(last=true∨h0 <+: r.2)∧K ⟨upd t d r.1,loc,al,r.2⟩ :=
  Yr (fun s=>by simp[MOp.free,MOp.want,MI.makes,MI.reads]) (by simp only[MI.run,zB];rw[CJ])
def fnC:Value→Option (FuncId × List Value)
  | .func (.func g) ⟨[]⟩ ⟨caps⟩=>some (g,caps)
  | _=>none
theorem zbA {f:Opd}{l:List Opd}:SO T X ⟨some d,.callV f l,none⟩ ⟨t,loc,al,h⟩ K↔VK (fnC (ov t f)) fun p=>VK (C T X p.1 (ovs t l++p.2) h) fun r=>K ⟨upd t d r.1,loc,al,r.2⟩:=by
  unfold SO MOp.step;simp only[MOp.want,MOp.go,zD,zB,VK]
  cases ov t f with
  | func f fs cs =>
    obtain⟨fs⟩:=fs;obtain⟨cs⟩:=cs
    cases f with
    | func g =>
      cases fs with
      | nil=>simp only[fnC,Option.some.injEq,exists_eq_left'];cases C T X g (ovs t l++cs) h<;>simp[St.put]
      | cons a l=>simp[fnC]
    | _=>simp[fnC]
  | _=>simp[fnC]
theorem dZ {f:Opd}{l:List Opd}:SO T X ⟨none,.callV f l,none⟩ ⟨t,loc,al,h⟩ K↔VK (fnC (ov t f)) fun p=>VK (C T X p.1 (ovs t l++p.2) h) fun r=>K ⟨t,loc,al,r.2⟩:=by
  unfold SO MOp.step;simp only[MOp.want,MOp.go,zD,zB,VK]
  cases ov t f with
  | func f fs cs =>
    obtain⟨fs⟩:=fs;obtain⟨cs⟩:=cs
    cases f with
    | func g =>
      cases fs with
      | nil=>simp only[fnC,Option.some.injEq,exists_eq_left'];cases C T X g (ovs t l++cs) h<;>simp[St.put]
      | cons a l=>simp[fnC]
    | _=>simp[fnC]
  | _=>simp[fnC]
theorem CS {cs:List Value}:SO T X ⟨some d,.newL cs,none⟩ ⟨t,loc,al,h⟩ K↔K ⟨upd t d undef,upd loc d (some cs),unal al d,h⟩:=by
  simp[SO,MOp.step,MOp.want,MOp.go]
theorem zdr {n:Nat}{x:Opd}:SO T X ⟨some d,.boxL n x,none⟩ ⟨t,loc,al,h⟩ K↔VK (cellsOf (ov t x)) fun cs=>cs.length=n∧K ⟨upd t d undef,upd loc d (some cs),unal al d,h⟩:=by
  simp only[SO,MOp.step,MOp.want,MOp.go,zB,VK]
  cases cellsOf (ov t x) with
  | none=>simp
  | some cs=>simp only[];split<;>simp[*]
def UM {α:Type}:Option α→Prop
  | some _=>True
  | none=>False
theorem zbB {off e:Nat}:SO T X ⟨some d,.faB off e,none⟩ ⟨t,loc,al,h⟩ K↔UM (loc e)∧K ⟨upd t d undef,loc,upd al d (some (e,off)),h⟩:=by
  simp only[SO,MOp.step,MOp.want,MOp.go]
  cases loc e<;>simp[UM]
theorem zbC {off e f:Nat}:SO T X ⟨some d,.faE off e f,none⟩ ⟨t,loc,al,h⟩ K↔UM (loc e)∧VK (al f) fun p=>p.1=e∧K ⟨upd t d undef,loc,upd al d (some (e,p.2+off)),h⟩:=by
  simp only[SO,MOp.step,MOp.want,MOp.go,VK]
  cases loc e<;>cases al f<;>simp[UM]
  rename_i p
  obtain⟨a,b⟩:=p
  by_cases hc:a=e<;>simp[hc]
theorem zbD {n e:Nat}{x:Opd}:SO T X ⟨none,.stB n e x,none⟩ ⟨t,loc,al,h⟩ K↔VK (loc e) fun cs=>VK (cellsOf (ov t x)) fun vs=>(vs.length=n∧n≤cs.length)∧K ⟨t,upd loc e (some (putAt cs 0 vs)),al,h⟩:=by
  simp only[SO,MOp.step,MOp.want,MOp.go,zB,VK]
  cases loc e<;>cases cellsOf (ov t x)<;>simp
  rename_i cs vs
  by_cases hc:vs.length=n∧n≤cs.length<;>simp[hc]
theorem zbE {n e f:Nat}{x:Opd}:SO T X ⟨none,.stE n e f x,none⟩ ⟨t,loc,al,h⟩ K↔VK (al f) fun p=>VK (loc e) fun cs=>VK (cellsOf (ov t x)) fun vs=>(p.1=e∧vs.length=n∧p.2+n≤cs.length)∧K ⟨t,upd loc e (some (putAt cs p.2 vs)),al,h⟩:=by
  simp only[SO,MOp.step,MOp.want,MOp.go,zB,VK]
  cases loc e<;>cases cellsOf (ov t x)<;>cases al f<;>simp
  rename_i cs vs p
  obtain⟨a,b⟩:=p
  by_cases hc:a=e∧vs.length=n∧b+n≤cs.length<;>simp[hc]
theorem CR {n sz:Nat}{z:List Value}{ps:List (Nat × Opd)}:SO T X ⟨some d,.litL n sz z ps,none⟩ ⟨t,loc,al,h⟩ K↔VK (zi sz (zj z n) (prs t ps)) fun cs=>K ⟨upd t d undef,upd loc d (some cs),al,h⟩:=by
  simp only[SO,MOp.step,MOp.want,MOp.go,za4,VK]
  cases zi sz (zj z n) (prs t ps)<;>simp
theorem zg0 {n:Nat}{x y:Opd}:SO T X ⟨none,.st n x y,none⟩ ⟨t,loc,al,h⟩ K↔VK (cellsOf (ov t y)) fun vs=>vs.length=n∧VK (stC h (ov t x) vs) fun h'=>K ⟨t,loc,al,h'⟩:=by
  simp only[SO,MOp.step,MOp.want,MOp.go,zB,VK]
  cases cellsOf (ov t y) with
  | none=>simp
  | some vs =>
    simp only[Option.some.injEq,exists_eq_left']
    by_cases hc:vs.length=n
    · simp only[hc,if_true,true_and]
      cases stC h (ov t x) vs<;>simp
    · simp[hc]
theorem ff {o:MOp}(hf:o.free (C T X) last h0 ⟨t,loc,al,h⟩=o.step (C T X) ⟨t,loc,al,h⟩):SF T X last h0 o ⟨t,loc,al,h⟩ K↔SO T X o ⟨t,loc,al,h⟩ K:=by
  unfold SF SO;rw[hf]
theorem zdi {cs:List Value}:SF T X last h0 ⟨some d,.newL cs,none⟩ ⟨t,loc,al,h⟩ K↔K ⟨upd t d undef,upd loc d (some cs),unal al d,h⟩:=by
  rw[ff (by simp[MOp.free,MOp.step,MOp.want]),CS]
theorem zeS {off e:Nat}:SF T X last h0 ⟨some d,.faB off e,none⟩ ⟨t,loc,al,h⟩ K↔UM (loc e)∧K ⟨upd t d undef,loc,upd al d (some (e,off)),h⟩:=by
  rw[ff (by simp[MOp.free,MOp.step,MOp.want]),zbB]
theorem zeT {off e f:Nat}:SF T X last h0 ⟨some d,.faE off e f,none⟩ ⟨t,loc,al,h⟩ K↔UM (loc e)∧VK (al f) fun p=>p.1=e∧K ⟨upd t d undef,loc,upd al d (some (e,p.2+off)),h⟩:=by
  rw[ff (by simp[MOp.free,MOp.step,MOp.want]),zbC]
theorem ze2 {n e:Nat}{x:Opd}:SF T X last h0 ⟨none,.stB n e x,none⟩ ⟨t,loc,al,h⟩ K↔VK (loc e) fun cs=>VK (cellsOf (ov t x)) fun vs=>(vs.length=n∧n≤cs.length)∧K ⟨t,upd loc e (some (putAt cs 0 vs)),al,h⟩:=by
  rw[ff (by simp[MOp.free,MOp.step,MOp.want]),zbD]
theorem ze3 {n e f:Nat}{x:Opd}:SF T X last h0 ⟨none,.stE n e f x,none⟩ ⟨t,loc,al,h⟩ K↔VK (al f) fun p=>VK (loc e) fun cs=>VK (cellsOf (ov t x)) fun vs=>(p.1=e∧vs.length=n∧p.2+n≤cs.length)∧K ⟨t,upd loc e (some (putAt cs p.2 vs)),al,h⟩:=by
  rw[ff (by simp[MOp.free,MOp.step,MOp.want]),zbE]
theorem zdh {n sz:Nat}{z:List Value}{ps:List (Nat × Opd)}:SF T X last h0 ⟨some d,.litL n sz z ps,none⟩ ⟨t,loc,al,h⟩ K↔VK (zi sz (zj z n) (prs t ps)) fun cs=>K ⟨upd t d undef,upd loc d (some cs),al,h⟩:=by
  rw[ff (by simp[MOp.free,MOp.step,MOp.want]),CR]
def WG (v:Value)(b:Bool)(A B:Prop):Prop:=match v with
  | .bool c=>if c=b then A else B
  | .map none=>B
  | _=>False
theorem zg7 {c b:Bool}{A B:Prop}:WG (.bool c) b A B↔if c=b then A else B:=Iff.rfl
theorem zg8 {b:Bool}{A B:Prop}:WG gone b A B↔B:=Iff.rfl
theorem UA {i:MI}{j:Nat}{b:Bool}:SO T X ⟨some d,i,some (j,b)⟩ ⟨t,loc,al,h⟩ K↔WG (t j) b (SO T X ⟨some d,i,none⟩ ⟨t,loc,al,h⟩ K) (K ⟨upd t d gone,upd loc d none,upd al d none,h⟩):=by
  unfold SO MOp.step;simp only[MOp.want]
  have hg:MOp.go (C T X) ⟨some d,i,some (j,b)⟩ ⟨t,loc,al,h⟩=MOp.go (C T X) ⟨some d,i,none⟩ ⟨t,loc,al,h⟩:=by cases i<;>rfl
  unfold WG
  cases t j with
  | bool c=>cases c<;>cases b<;>simp[hg,MOp.skip]
  | map x=>cases x<;>simp[MOp.skip]
  | _=>simp
theorem Ys {i:MI}{j:Nat}{b:Bool}:SO T X ⟨none,i,some (j,b)⟩ ⟨t,loc,al,h⟩ K↔WG (t j) b (SO T X ⟨none,i,none⟩ ⟨t,loc,al,h⟩ K) (K ⟨t,loc,al,h⟩):=by
  unfold SO MOp.step;simp only[MOp.want]
  have hg:MOp.go (C T X) ⟨none,i,some (j,b)⟩ ⟨t,loc,al,h⟩=MOp.go (C T X) ⟨none,i,none⟩ ⟨t,loc,al,h⟩:=by cases i<;>rfl
  unfold WG
  cases t j with
  | bool c=>cases c<;>cases b<;>simp[hg,MOp.skip]
  | map x=>cases x<;>simp[MOp.skip]
  | _=>simp
open Classical in
theorem Uz {i:MI}{j:Nat}{b:Bool}:SF T X last h0 ⟨some d,i,some (j,b)⟩ ⟨t,loc,al,h⟩ K↔WG (t j) b (SF T X last h0 ⟨some d,i,none⟩ ⟨t,loc,al,h⟩ K) (K ⟨upd t d gone,upd loc d none,upd al d none,h⟩):=by
  unfold SF
  have hg:MOp.want ⟨some d,i,some (j,b)⟩ ⟨t,loc,al,h⟩=some true→MOp.free (C T X) last h0 ⟨some d,i,some (j,b)⟩ ⟨t,loc,al,h⟩=MOp.free (C T X) last h0 ⟨some d,i,none⟩ ⟨t,loc,al,h⟩:=by
    intro hw;unfold MOp.free;rw[hw]
    cases i<;>rfl
  unfold WG
  cases ht:t j with
  | bool c =>
    by_cases hcb:c=b
    · subst hcb
      rw[hg (by simp[MOp.want,ht])]
      simp
    · have hw:MOp.want ⟨some d,i,some (j,b)⟩ ⟨t,loc,al,h⟩=some false:=by simp[MOp.want,ht,hcb]
      simp[MOp.free,hw,MOp.skip,hcb]
  | map x =>
    cases x with
    | none =>
      have hw:MOp.want ⟨some d,i,some (j,b)⟩ ⟨t,loc,al,h⟩=some false:=by simp[MOp.want,ht]
      simp[MOp.free,hw,MOp.skip]
    | some x =>
      have hw:MOp.want ⟨some d,i,some (j,b)⟩ ⟨t,loc,al,h⟩=none:=by simp[MOp.want,ht]
      simp[MOp.free,hw]
  | _ =>
    have hw:MOp.want ⟨some d,i,some (j,b)⟩ ⟨t,loc,al,h⟩=none:=by simp[MOp.want,ht]
    simp[MOp.free,hw]
def WC (T:FuncId→Option Fun)(X:Zb)(v:Value)(x y:IR)(s:St)(Q:Exit→St→Prop):Prop:=match v with
  | .bool c=>if c=true then W T X x s Q else W T X y s Q
  | _=>False
theorem FB {c:Opd}{x y:IR}:W T X (.cond c x y) ⟨t,loc,al,h⟩ Q↔WC T X (ov t c) x y ⟨t,loc,al,h⟩ Q:=by
  unfold WC;rw[←zB (loc:=loc) (al:=al) (h:=h)]
  cases hv:St.val ⟨t,loc,al,h⟩ c with
  | bool b=>exact zdV T X hv
  | _=>simp[W,Zf,hv]
theorem zho {c:Bool}{x y:IR}{s:St}:WC T X (.bool c) x y s Q↔if c=true then W T X x s Q else W T X y s Q:=Iff.rfl
theorem zdF {A B:Prop}:WG (.bool true) true A B↔A:=by simp[WG]
theorem zdD {A B:Prop}:WG (.bool false) true A B↔B:=by simp[WG]
theorem zdE {A B:Prop}:WG (.bool true) false A B↔B:=by simp[WG]
theorem zdC {A B:Prop}:WG (.bool false) false A B↔A:=by simp[WG]
theorem Dq {x y:IR}{s:St}:WC T X (.bool true) x y s Q↔W T X x s Q:=by simp[WC]
theorem Dp {x y:IR}{s:St}:WC T X (.bool false) x y s Q↔W T X y s Q:=by simp[WC]
@[congr] theorem zfG {v v':Value} {b:Bool} {A B:Prop} (h:v=v'):WG v b A B=WG v' b A B:=by rw[h]
@[congr] theorem zfF {v v':Value} {x y:IR} {s:St} (h:v=v'):WC T X v x y s Q=WC T X v' x y s Q:=by rw[h]
@[congr] theorem zfE {α:Type} {o o':Option α} {K:α→Prop} (h:o=o'):VK o K=VK o' K:=by rw[h]
theorem zg9 {p:Prop}[Decidable p]{A B:Prop}(h1:p→A)(h2:¬p→B):WG (.bool (decide p)) true A B:=by
  by_cases hp:p
  · simp only[hp,decide_true,zdF];exact h1 hp
  · simp only[hp,decide_false,zdD];exact h2 hp
theorem zfH {p:Prop}[Decidable p]{A B:Prop}(h1:p→B)(h2:¬p→A):WG (.bool (decide p)) false A B:=by
  by_cases hp:p
  · simp only[hp,decide_true,zdE];exact h1 hp
  · simp only[hp,decide_false,zdC];exact h2 hp
theorem zb3 {p:Prop}[Decidable p]{x y:IR}{s:St}(h1:p→W T X x s Q)(h2:¬p→W T X y s Q):WC T X (.bool (decide p)) x y s Q:=by
  by_cases hp:p
  · simp only[hp,decide_true,Dq];exact h1 hp
  · simp only[hp,decide_false,Dp];exact h2 hp
theorem Ds {c:Bool}{A B:Prop}(h1:c=true→A)(h2:c=false→B):WG (.bool c) true A B:=by
  cases c
  · exact (zdD).2 (h2 rfl)
  · exact (zdF).2 (h1 rfl)
theorem Cb {c:Bool}{A B:Prop}(h1:c=true→B)(h2:c=false→A):WG (.bool c) false A B:=by
  cases c
  · exact (zdC).2 (h2 rfl)
  · exact (zdE).2 (h1 rfl)
theorem zdR {c:Bool}{x y:IR}{s:St}(h1:c=true→W T X x s Q)(h2:c=false→W T X y s Q):WC T X (.bool c) x y s Q:=by
  cases c
  · exact (Dp).2 (h2 rfl)
  · exact (Dq).2 (h1 rfl)
theorem zgS {i:MI}{j:Nat}{b:Bool}(hg:t j=.bool b):SO T X ⟨some d,i,some (j,b)⟩ ⟨t,loc,al,h⟩ K↔SO T X ⟨some d,i,none⟩ ⟨t,loc,al,h⟩ K:=by
  rw[UA,hg];simp[WG]
theorem zgQ {i:MI}{j:Nat}(hg:t j=.bool false):SO T X ⟨some d,i,some (j,true)⟩ ⟨t,loc,al,h⟩ K↔K ⟨upd t d gone,upd loc d none,upd al d none,h⟩:=by
  rw[UA,hg];simp[WG]
theorem zfd {i:MI}{j:Nat}(hg:t j=.bool true):SO T X ⟨some d,i,some (j,false)⟩ ⟨t,loc,al,h⟩ K↔K ⟨upd t d gone,upd loc d none,upd al d none,h⟩:=by
  rw[UA,hg];simp[WG]
theorem zgR {i:MI}{j:Nat}{b:Bool}(hg:t j=gone):SO T X ⟨some d,i,some (j,b)⟩ ⟨t,loc,al,h⟩ K↔K ⟨upd t d gone,upd loc d none,upd al d none,h⟩:=by
  rw[UA,hg];rfl
theorem zgJ {i:MI}{j:Nat}{b:Bool}(hg:t j=.bool b):SO T X ⟨none,i,some (j,b)⟩ ⟨t,loc,al,h⟩ K↔SO T X ⟨none,i,none⟩ ⟨t,loc,al,h⟩ K:=by
  rw[Ys,hg];simp[WG]
theorem zgH {i:MI}{j:Nat}(hg:t j=.bool false):SO T X ⟨none,i,some (j,true)⟩ ⟨t,loc,al,h⟩ K↔K ⟨t,loc,al,h⟩:=by
  rw[Ys,hg];simp[WG]
theorem ze6 {i:MI}{j:Nat}(hg:t j=.bool true):SO T X ⟨none,i,some (j,false)⟩ ⟨t,loc,al,h⟩ K↔K ⟨t,loc,al,h⟩:=by
  rw[Ys,hg];simp[WG]
theorem zgI {i:MI}{j:Nat}{b:Bool}(hg:t j=gone):SO T X ⟨none,i,some (j,b)⟩ ⟨t,loc,al,h⟩ K↔K ⟨t,loc,al,h⟩:=by
  rw[Ys,hg];rfl
theorem zgv {i:MI}{j:Nat}{b:Bool}(hg:t j=.bool b):SF T X last h0 ⟨some d,i,some (j,b)⟩ ⟨t,loc,al,h⟩ K↔SF T X last h0 ⟨some d,i,none⟩ ⟨t,loc,al,h⟩ K:=by
  rw[Uz,hg];simp[WG]
theorem zgt {i:MI}{j:Nat}(hg:t j=.bool false):SF T X last h0 ⟨some d,i,some (j,true)⟩ ⟨t,loc,al,h⟩ K↔K ⟨upd t d gone,upd loc d none,upd al d none,h⟩:=by
  rw[Uz,hg];simp[WG]
theorem zeU {i:MI}{j:Nat}(hg:t j=.bool true):SF T X last h0 ⟨some d,i,some (j,false)⟩ ⟨t,loc,al,h⟩ K↔K ⟨upd t d gone,upd loc d none,upd al d none,h⟩:=by
  rw[Uz,hg];simp[WG]
theorem zgu {i:MI}{j:Nat}{b:Bool}(hg:t j=gone):SF T X last h0 ⟨some d,i,some (j,b)⟩ ⟨t,loc,al,h⟩ K↔K ⟨upd t d gone,upd loc d none,upd al d none,h⟩:=by
  rw[Uz,hg];rfl
theorem zhU {c:Opd}{x y:IR}(hc:ov t c=.bool true):W T X (.cond c x y) ⟨t,loc,al,h⟩ Q↔W T X x ⟨t,loc,al,h⟩ Q:=by
  rw[FB,hc,Dq]
theorem zhT {c:Opd}{x y:IR}(hc:ov t c=.bool false):W T X (.cond c x y) ⟨t,loc,al,h⟩ Q↔W T X y ⟨t,loc,al,h⟩ Q:=by
  rw[FB,hc,Dp]
theorem zt {p:Prop}[Decidable p]{c:Opd}{x y:IR}(hc:ov t c=.bool (decide p))(h1:p→W T X x ⟨t,loc,al,h⟩ Q)(h2:¬p→W T X y ⟨t,loc,al,h⟩ Q):W T X (.cond c x y) ⟨t,loc,al,h⟩ Q:=by
  rw[FB,hc];exact zb3 h1 h2
theorem xX {b:Bool}{c:Opd}{x y:IR}(hc:ov t c=.bool b)(h1:b=true→W T X x ⟨t,loc,al,h⟩ Q)(h2:b=false→W T X y ⟨t,loc,al,h⟩ Q):W T X (.cond c x y) ⟨t,loc,al,h⟩ Q:=by
  rw[FB,hc];exact zdR h1 h2
theorem xo {b:Bool}{i:MI}{j:Nat}(hc:t j=.bool b)(h1:b=true→SO T X ⟨some d,i,none⟩ ⟨t,loc,al,h⟩ K)(h2:b=false→K ⟨upd t d gone,upd loc d none,upd al d none,h⟩):SO T X ⟨some d,i,some (j,true)⟩ ⟨t,loc,al,h⟩ K:=by
  rw[UA,hc];exact Ds h1 h2
theorem Jf {b:Bool}{i:MI}{j:Nat}(hc:t j=.bool b)(h1:b=true→K ⟨upd t d gone,upd loc d none,upd al d none,h⟩)(h2:b=false→SO T X ⟨some d,i,none⟩ ⟨t,loc,al,h⟩ K):SO T X ⟨some d,i,some (j,false)⟩ ⟨t,loc,al,h⟩ K:=by
  rw[UA,hc];exact Cb h1 h2
theorem xl {b:Bool}{i:MI}{j:Nat}(hc:t j=.bool b)(h1:b=true→SF T X last h0 ⟨some d,i,none⟩ ⟨t,loc,al,h⟩ K)(h2:b=false→K ⟨upd t d gone,upd loc d none,upd al d none,h⟩):SF T X last h0 ⟨some d,i,some (j,true)⟩ ⟨t,loc,al,h⟩ K:=by
  rw[Uz,hc];exact Ds h1 h2
theorem Je {b:Bool}{i:MI}{j:Nat}(hc:t j=.bool b)(h1:b=true→K ⟨upd t d gone,upd loc d none,upd al d none,h⟩)(h2:b=false→SF T X last h0 ⟨some d,i,none⟩ ⟨t,loc,al,h⟩ K):SF T X last h0 ⟨some d,i,some (j,false)⟩ ⟨t,loc,al,h⟩ K:=by
  rw[Uz,hc];exact Cb h1 h2
theorem zhJ {p:Prop}[Decidable p]:(!decide p)=decide (¬p):=by simp
theorem D6:St.close ⟨t,loc,al,h⟩=⟨t,loc,fun _=>none,h⟩:=rfl
theorem Br {b:IR}{s:St}:andThen T X b Q .normal s↔W T X b s Q:=Iff.rfl
theorem De {b:IR}{s:St}{i:Nat}:andThen T X b Q (.exit i) s↔Q (.exit i) s:=Iff.rfl
theorem zbM {b:IR}{s:St}:andThen T X b Q .ret s↔Q .ret s:=Iff.rfl
theorem fI {s:St}{i:Nat}:Ya i Q .normal s↔Q .normal s:=Iff.rfl
theorem BK {s:St}{i j:Nat}:Ya i Q (.exit j) s↔if j=i then Q .normal s else Q (.exit j) s:=Iff.rfl
theorem dj {s:St}{i:Nat}:Ya i Q .ret s↔Q .ret s:=Iff.rfl
theorem zfr {α:Type}{f:Nat→α}{i j:Nat}{v:α}:upd f i v j=if j=i then v else f j:=rfl
def cS (d:Nat):Option (Nat × Nat)→Option (Nat × Nat)
  | some (d',off)=>if d'=d then none else some (d',off)
  | none=>none
theorem zdx {d e:Nat}:unal al d e=cS d (al e):=by
  unfold unal cS;rfl
theorem CY {x:IR}{s:St}(I:Nat→St→Prop)(n:Nat)(h0:I n s)(step:∀n s,I n s→W T X x s fun e s'=>match e with | .normal=>∃m,m<n∧I m s' | e=>Q e s'):W T X (.loop x) s Q :=
  zb8 T X I step n s h0
theorem yC {v:Value}:zp h (v,h)=(v,h):=by unfold zp;split<;>rfl
theorem zF {v:Value}{h':za}(hf:flat v=true)(hp:h <+: h'):zp h (v,h')=(v,h):=by unfold zp;rw[if_pos ⟨hf,hp⟩]
theorem Q8 {v:Value}{h':za}(hf:flat v=false):zp h (v,h')=(v,h'):=by unfold zp;rw[if_neg (by simp[hf])]
theorem fc {F:Fun}{r:Value × za}{e:Exit}{d:Nat}(hF:F.res=[.slot d])(he:e=.ret∨e=.normal)(hl:live (t d)=true)(hf:zp h0 (t d,h)=r):zbZ F h0 r e ⟨t,loc,al,h⟩:=by
  refine⟨he.symm,t d,?_,hf⟩;rw[hF];simp[Qg,Res.get,hl]
end
end Go.Proofs.Ytafhipglhnfgnaa.Ab
/- The stepping rules as one set. No conditions. -/
namespace Go.Proofs.Ytafhipglhnfgnaa.Ab
def gd:Value→Bool→Option Bool
  | .bool c,b=>some (c==b)
  | .map none,_=>some false
  | _,_=>none
theorem zfR:gd (.bool true) true=some true:=rfl
theorem zfQ:gd (.bool true) false=some false:=rfl
theorem zfP:gd (.bool false) true=some false:=rfl
theorem zfO:gd (.bool false) false=some true:=rfl
theorem zct {b:Bool}:gd gone b=some false:=rfl
def skp {α:Type}(t:Nat→α)(v:α)(d:Nat):Nat→α:=upd t d v
def rng {α:Type}(t:Nat→α)(v:α)(lo hi:Nat):Nat→α:=fun i=>if lo≤i∧i<hi then v else t i
section
variable {α:Type}{t:Nat→α}{v w:α}{d e lo hi i j:Nat}
theorem zeK:rng t v lo hi j=if lo≤j∧j<hi then v else t j:=rfl
theorem ze5:skp t v d j=if j=d then v else t j:=rfl
theorem zdn:skp (upd t i w) v d=rng (upd t i w) v d (d+1):=by
  funext k;simp only[skp,rng,upd]
  by_cases h:k=d
  · subst h;simp
  · have:¬(d≤k∧k<d+1):=by omega
    simp[h,this]
theorem zdl:skp (rng t v lo hi) v d=if d=hi∧lo≤d then rng t v lo (d+1) else rng (rng t v lo hi) v d (d+1):=by
  funext k
  split
  · rename_i h
    obtain⟨rfl,h⟩:=h;simp only[skp,rng,upd]
    by_cases h1:k=d
    · subst h1;simp[h]
    · have:(lo≤k∧k<d+1)↔(lo≤k∧k<d):=by omega
      simp only[h1,if_false,this]
  · simp only[skp,rng,upd]
    by_cases h1:k=d
    · subst h1;simp
    · have:¬(d≤k∧k<d+1):=by omega
      simp only[h1,if_false,this]
theorem zdm:skp (skp t v d) v e=if e=d+1 then rng t v d (e+1) else rng (skp t v d) v e (e+1):=by
  funext k
  split
  · rename_i h
    subst h;simp only[skp,rng,upd]
    by_cases h1:k=d+1
    · subst h1;simp
    · by_cases h2:k=d
      · subst h2
        have:k≤k∧k<k+1+1:=by omega
        simp only[h1,if_false,this,if_true];simp
      · have:¬(d≤k∧k<d+1+1):=by omega
        simp only[h1,h2,if_false,this]
  · simp only[skp,rng,upd]
    by_cases h1:k=e
    · subst h1;simp
    · have:¬(e≤k∧k<e+1):=by omega
      simp only[h1,if_false,this]
end
section
variable {T:FuncId→Option Fun}{X:Zb}{t:Nat→Value}{loc:Nat→Option (List Value)}{al:Nat→Option (Nat × Nat)}{h h0:za}{d j:Nat}{b:Bool}{K:St→Prop}{last:Bool}{i:MI}
theorem fV {v:Value}(h:gd v b=some true):v=.bool b:=by
  unfold gd at h;split at h
  · rename_i c
    have:(c==b)=true:=Option.some.inj h
    rw[show c=b by simpa using this]
  · simp at h
  · simp at h
theorem Gq {v:Value}(h:gd v b=some false):v=.bool (!b)∨v=gone:=by
  unfold gd at h;split at h
  · rename_i c
    have:(c==b)=false:=Option.some.inj h;refine .inl ?_
    cases c<;>cases b<;>first | rfl | (simp at this)
  · exact .inr rfl
  · simp at h
theorem zgP (hg:gd (t j) b=some true):SO T X ⟨some d,i,some (j,b)⟩ ⟨t,loc,al,h⟩ K↔SO T X ⟨some d,i,none⟩ ⟨t,loc,al,h⟩ K:=zgS (fV hg)
theorem zgO (hg:gd (t j) b=some false):SO T X ⟨some d,i,some (j,b)⟩ ⟨t,loc,al,h⟩ K↔K ⟨skp t gone d,skp loc none d,skp al none d,h⟩:=by
  rcases Gq hg with h1 | h1
  · cases b
    · exact zfd h1
    · exact zgQ h1
  · exact zgR h1
theorem zgs (hg:gd (t j) b=some true):SF T X last h0 ⟨some d,i,some (j,b)⟩ ⟨t,loc,al,h⟩ K↔SF T X last h0 ⟨some d,i,none⟩ ⟨t,loc,al,h⟩ K:=zgv (fV hg)
theorem zgr (hg:gd (t j) b=some false):SF T X last h0 ⟨some d,i,some (j,b)⟩ ⟨t,loc,al,h⟩ K↔K ⟨skp t gone d,skp loc none d,skp al none d,h⟩:=by
  rcases Gq hg with h1 | h1
  · cases b
    · exact zeU h1
    · exact zgt h1
  · exact zgu h1
theorem zgG (hg:gd (t j) b=some true):SO T X ⟨none,i,some (j,b)⟩ ⟨t,loc,al,h⟩ K↔SO T X ⟨none,i,none⟩ ⟨t,loc,al,h⟩ K:=zgJ (fV hg)
theorem zgF (hg:gd (t j) b=some false):SO T X ⟨none,i,some (j,b)⟩ ⟨t,loc,al,h⟩ K↔K ⟨t,loc,al,h⟩:=by
  rcases Gq hg with h1 | h1
  · cases b
    · exact ze6 h1
    · exact zgH h1
  · exact zgI h1
end
def kL (t:Nat→Value):List Nat→Nat→Value
  | []=>fun _=>undef
  | g::gs=>upd (kL t gs) g (t g)
def kK (loc:Nat→Option (List Value)):List Nat→Nat→Option (List Value)
  | []=>fun _=>none
  | g::gs=>upd (kK loc gs) g (loc g)
theorem bB {t:Nat→Value}:∀l:List Nat,kL t l=fun i=>if l.contains i=true then t i else undef
  | []=>by funext i;simp[kL]
  | g::gs=>by
    funext i
    simp only[kL,upd,bB gs,List.contains_cons]
    by_cases h:i=g
    · subst h;simp
    · simp[h]
theorem bz {loc:Nat→Option (List Value)}:∀l:List Nat,kK loc l=fun i=>if l.contains i=true then loc i else none
  | []=>by funext i;simp[kK]
  | g::gs=>by
    funext i
    simp only[kK,upd,bz gs,List.contains_cons]
    by_cases h:i=g
    · subst h;simp
    · simp[h]
theorem dH {t:Nat→Value}:kL t []=fun _=>undef:=rfl
theorem B2 {t:Nat→Value}{g:Nat}{gs:List Nat}:kL t (g::gs)=upd (kL t gs) g (t g):=rfl
theorem dG {t:Nat→Option (List Value)}:kK t []=fun _=>none:=rfl
theorem B1 {t:Nat→Option (List Value)}{g:Nat}{gs:List Nat}:kK t (g::gs)=upd (kK t gs) g (t g):=rfl
def KP {α β:Type}(a:α)(b:β)(F:α→β→Prop):Prop:=F a b
theorem zfB {α β:Type}{a:α}{b:β}{F:α→β→Prop}:KP a b F↔F a b:=Iff.rfl
theorem Dk {α β:Type}{a a':α}{b b':β}{F:α→β→Prop}(ha:a=a')(hb:b=b'):KP a b F=KP a' b' F:=by rw[ha,hb]
attribute [congr] Dk
theorem zdY {T : FuncId → Option Fun} {X : Zb} {t : Nat → Value} {loc : Nat → Option (List Value)} {al : Nat → Option (Nat × Nat)} {h : za} {l : List Nat} {Q : Exit → St → Prop} :
    W T X (.keep l) ⟨t,loc,al,h⟩ Q↔KP (kL t l) (kK loc l) fun t loc=>Q .normal ⟨t,loc,fun _=>none,h⟩:=by
  rw[zb7,KP,bB,bz];rfl
theorem dy {n:Nat}{d:Value}:([]:List Value).getD n d=d:=rfl
attribute [go_sem ↓] zdY dH B2 dG B1
attribute [go_sem] zfB dy
attribute [go_sem] zfR zfQ zfP zfO zct
attribute [go_sem ↓] zeK ze5 zdn zdl zdm zgP zgO zgs zgr zgG zgF
attribute [go_sem ↓] zfi zeZ zdu zdj ze8 zeN zdq zde zfb zeQ zg1 zgE zdt zdg zfl ze4 zgV zgy zgL zgo zgT zgw zgU zgx zgM zgp zfk ze1 zfj ze0 zgW zgz zfh zeY ze9 zeO zfc zeR zfa zeP zgY zgB zgN zgq zfe zeV zff zeW zdv zdk ze7 zeM zdp zdd cF bW zfg zeX zgA zgC zgn zgD zbz dY zbx zgX zgZ zgK zds zby zdf zbw zbA dZ CS zdr zbB zbC zbD zbE CR zg0 zdi zeS zeT ze2 ze3 zdh D6 Br De zbM fI BK dj zb2 zb1 zd0 zdW zfK zfJ zdX zfI zdT zhw zhy zhx Dw C8 zcf zcg zch zci zcj zck zcl dX cO zfL zb6 zdU zb5 zdS zb4 zhU zhT zfr zdx zhN zhM zaX zaW zcY za3 zc1 za8 zc2 zba
def UH (k:IntKind)(a b:Int):Int:=k.wrap (BitVec.ofInt k.bits a &&& BitVec.ofInt k.bits b).toNat
def orI (k:IntKind)(a b:Int):Int:=k.wrap (BitVec.ofInt k.bits a ||| BitVec.ofInt k.bits b).toNat
def ji (k:IntKind)(a b:Int):Int:=k.wrap (BitVec.ofInt k.bits a ^^^ BitVec.ofInt k.bits b).toNat
theorem DI {k:IntKind}{a b:Int}:Qr .add (.int k a) (.int k b)=some (.int k (k.wrap (a+b))):=by simp[Qr,UH,orI,ji]
theorem DV {k:IntKind}{a b:Int}:Qr .sub (.int k a) (.int k b)=some (.int k (k.wrap (a-b))):=by simp[Qr,UH,orI,ji]
theorem DP {k:IntKind}{a b:Int}:Qr .mul (.int k a) (.int k b)=some (.int k (k.wrap (a*b))):=by simp[Qr,UH,orI,ji]
theorem DR {k:IntKind}{a b:Int}:Qr .quo (.int k a) (.int k b)=if b≠0 then some (.int k (k.wrap (a.tdiv b))) else none:=by simp[Qr,UH,orI,ji]
theorem DS {k:IntKind}{a b:Int}:Qr .rem (.int k a) (.int k b)=if b≠0 then some (.int k (a.tmod b)) else none:=by simp[Qr,UH,orI,ji]
theorem DJ {k:IntKind}{a b:Int}:Qr .and (.int k a) (.int k b)=some (.int k (UH k a b)):=by simp[Qr,UH,orI,ji]
theorem zcc {k:IntKind}{a b:Int}:Qr .or (.int k a) (.int k b)=some (.int k (orI k a b)):=by simp[Qr,UH,orI,ji]
theorem DW {k:IntKind}{a b:Int}:Qr .xor (.int k a) (.int k b)=some (.int k (ji k a b)):=by simp[Qr,UH,orI,ji]
theorem DK {k:IntKind}{a b:Int}:Qr .eql (.int k a) (.int k b)=some (.bool (decide (a=b))):=by simp[Qr,UH,orI,ji]
theorem DQ {k:IntKind}{a b:Int}:Qr .neq (.int k a) (.int k b)=some (.bool (!decide (a=b))):=by simp[Qr,UH,orI,ji]
theorem DO {k:IntKind}{a b:Int}:Qr .lss (.int k a) (.int k b)=some (.bool (decide (a<b))):=by simp[Qr,UH,orI,ji]
theorem DN {k:IntKind}{a b:Int}:Qr .leq (.int k a) (.int k b)=some (.bool (decide (a≤b))):=by simp[Qr,UH,orI,ji]
theorem DM {k:IntKind}{a b:Int}:Qr .gtr (.int k a) (.int k b)=some (.bool (decide (a>b))):=by simp[Qr,UH,orI,ji]
theorem DL {k:IntKind}{a b:Int}:Qr .geq (.int k a) (.int k b)=some (.bool (decide (a≥b))):=by simp[Qr,UH,orI,ji]
theorem DT {k k':IntKind}{a b:Int}:Qr .shl (.int k a) (.int k' b)=if b<0 then none else some (.int k (k.wrap (a*2 ^ min b.toNat k.bits))):=rfl
theorem DU {k k':IntKind}{a b:Int}:Qr .shr (.int k a) (.int k' b)=if b<0 then none else some (.int k (a.fdiv (2 ^ min b.toNat k.bits))):=rfl
theorem DB {a b:ByteArray}:Qr .add (.string a) (.string b)=if a.size+b.size≤9223372036854775807 then some (.string (a++b)) else none:=rfl
theorem DC {a b:ByteArray}:Qr .eql (.string a) (.string b)=some (.bool (a.toList==b.toList)):=rfl
theorem DH {a b:ByteArray}:Qr .neq (.string a) (.string b)=some (.bool (!(a.toList==b.toList))):=rfl
theorem DG {a b:ByteArray}:Qr .lss (.string a) (.string b)=some (.bool (Op.bytesLess a.toList b.toList)):=rfl
theorem DF {a b:ByteArray}:Qr .leq (.string a) (.string b)=some (.bool (Op.bytesLess a.toList b.toList || a.toList==b.toList)):=rfl
theorem DE {a b:ByteArray}:Qr .gtr (.string a) (.string b)=some (.bool !(Op.bytesLess a.toList b.toList || a.toList==b.toList)):=rfl
theorem DD {a b:ByteArray}:Qr .geq (.string a) (.string b)=some (.bool !(Op.bytesLess a.toList b.toList)):=rfl
attribute [go_sem] DI DV DP DR DS DJ zcc DW DK DQ DO DN DM DL DT DU DB DC DH DG DF DE DD
theorem FU {k:IntKind}{n:Int}:cellsOf (.int k n)=some [.int k n]:=rfl
theorem fJ {b:Bool}:cellsOf (.bool b)=some [.bool b]:=rfl
theorem gZ {b:ByteArray}:cellsOf (.string b)=some [.string b]:=rfl
theorem Xq {a:Option Addr}{n c:Nat}:cellsOf (.slice a n c)=some [.slice a n c]:=rfl
theorem Kl {a:Option Addr}:cellsOf (.pointer a)=some [.pointer a]:=rfl
theorem FT {l:List Value}:cellsOf (.agg ⟨l⟩)=some l:=rfl
theorem fK {f:Fn}{a:Array Value}{l:List Value}:cellsOf (.func f a ⟨l⟩)=some [.func f a ⟨l⟩]:=rfl
attribute [go_sem] cS bX FW zaN zai mmV zaH zaJ UM FP unV FU fJ gZ Xq Kl FT fK ofCells bnd putAt Option.bind_some Option.map_some Option.map_none Option.bind_none List.length_cons List.length_nil List.drop_zero List.drop_succ_cons List.take_zero List.take_succ_cons List.take_nil List.drop_nil List.cons_append List.nil_append List.append_nil if_true if_false decide_eq_true_eq true_and and_true and_self Bool.false_eq_true Bool.true_eq_false Nat.succ_ne_zero List.getD_cons_zero List.getD_cons_succ ge_iff_le gt_iff_lt decide_true decide_false Bool.not_true Bool.not_false Bool.and_true Bool.and_false Bool.true_and Bool.false_and not_true_eq_false not_false_eq_true false_and and_false zhJ beq_self_eq_true
end Go.Proofs.Ytafhipglhnfgnaa.Ab
/- Calls and loops by rules that leave WQ sentences behind. No conditions. -/
namespace Go.Proofs.Ytafhipglhnfgnaa.Ab
open Go.RowKit
def UV (t:Nat→Value)(loc:Nat→Option (List Value)):List Res→Option (List Value)
  | []=>some []
  | .slot d::rs=>(UV t loc rs).map fun vs=>t d::vs
  | .box d n agg::rs=>match loc d with
    | some cs=>if n≤cs.length then (ofCells agg (cs.take n)).bind fun v=>(UV t loc rs).map fun vs=>v::vs else none
    | none=>none
theorem Yo {t:Nat→Value}{loc:Nat→Option (List Value)}{al:Nat→Option (Nat × Nat)}{h:za}:∀rs:List Res,rs.mapM (Res.get ⟨t,loc,al,h⟩)=UV t loc rs
  | []=>rfl
  | .slot d::rs=>by
    rw[List.mapM_cons,Yo rs];simp only[Res.get,UV]
    cases UV t loc rs<;>rfl
  | .box d n agg::rs=>by
    rw[List.mapM_cons,Yo rs];simp only[Res.get,UV]
    cases loc d with
    | none=>rfl
    | some cs =>
      simp only;split
      · cases ofCells agg (List.take n cs) with
        | none=>rfl
        | some v=>simp only[Option.bind_some];cases UV t loc rs<;>rfl
      · rfl
def kP (h0 h:za)(r:Value × za):List Value→Prop
  | [v]=>live v=true∧zp h0 (v,h)=r
  | vs=>vs.all live=true∧zp h0 (.tuple ⟨vs⟩,h)=r
def Do (rs:List Res)(h0:za)(r:Value × za)(e:Exit)(s:St):Prop:=(e=.normal∨e=.ret)∧VK (UV s.t s.loc rs) (kP h0 s.h r)
section
variable {T:FuncId→Option Fun}{X:Zb}{t:Nat→Value}{loc:Nat→Option (List Value)}{h h0:za}{r:Value × za}{Q:Exit→St→Prop}
theorem qH {f:FuncId}{l:List Value}{F:Fun}(hT:T f=some F)(hl:l.length=F.np)(hw:W T X F.body ⟨fun i=>l.getD i undef,fun _=>none,fun _=>none,h⟩ (Do F.res h r)):C T X f l h=some r:=by
  refine KS T X hT hl (hw.mono T X fun e s hq=>?_)
  obtain⟨he,vs,hv,hr⟩:=hq;refine⟨he,?_⟩;obtain⟨t,loc,al,h'⟩:=s;unfold Qg;rw[Yo,hv]
  match vs,hr with
  | [],⟨h1,h2⟩=>exact⟨_,by simp,h2⟩
  | [v],⟨h1,h2⟩=>exact⟨v,by simp[h1],h2⟩
  | a::b::vs,⟨h1,h2⟩=>exact⟨_,by simp only[h1,if_true],h2⟩
theorem zc3 {rs:List Res}{al:Nat→Option (Nat × Nat)}:Do rs h0 r .ret ⟨t,loc,al,h⟩↔VK (UV t loc rs) (kP h0 h r):=by simp[Do]
theorem cK {rs:List Res}{al:Nat→Option (Nat × Nat)}:Do rs h0 r .normal ⟨t,loc,al,h⟩↔VK (UV t loc rs) (kP h0 h r):=by simp[Do]
theorem zhP {v:Value}:kP h0 h r [v]↔live v=true∧zp h0 (v,h)=r:=Iff.rfl
theorem zhO:kP h0 h r []↔zp h0 (.tuple ⟨[]⟩,h)=r:=by simp[kP]
theorem zhQ {a b:Value}:kP h0 h r [a,b]↔(live a=true∧live b=true)∧zp h0 (.tuple ⟨[a,b]⟩,h)=r:=by simp[kP]
theorem zhR {a b c:Value}:kP h0 h r [a,b,c]↔(live a=true∧live b=true∧live c=true)∧zp h0 (.tuple ⟨[a,b,c]⟩,h)=r:=by simp[kP]
theorem zhS {a b c d:Value}:kP h0 h r [a,b,c,d]↔(live a=true∧live b=true∧live c=true∧live d=true)∧zp h0 (.tuple ⟨[a,b,c,d]⟩,h)=r:=by simp[kP]
theorem zbh:UV t loc []=some []:=rfl
theorem dS {d:Nat}{rs:List Res}:UV t loc (.slot d::rs)=(UV t loc rs).map fun vs=>t d::vs:=rfl
theorem zbg {d n:Nat}{agg:Bool}{rs:List Res}{cs:List Value}(hl:loc d=some cs):UV t loc (.box d n agg::rs)=if n≤cs.length then (ofCells agg (cs.take n)).bind fun v=>(UV t loc rs).map fun vs=>v::vs else none:=by
  simp only[UV,hl]
theorem dI {b:Bool}:live (.bool b)=true:=rfl
theorem zaM {k:IntKind}{n:Int}:live (.int k n)=true:=rfl
theorem bJ {b:ByteArray}:live (.string b)=true:=rfl
theorem B5 {a:Option Addr}{n c:Nat}:live (.slice a n c)=true:=rfl
theorem Fg {a:Option Addr}:live (.pointer a)=true:=rfl
theorem zaL {a:Array Value}:live (.agg a)=true:=rfl
theorem zh4 {x:IR}{al:Nat→Option (Nat × Nat)}(P:(Nat→Value)→(Nat→Option (List Value))→Prop)(h1:P t loc)(h2:∀t loc,P t loc→W T X x ⟨t,loc,al,h⟩ Q):W T X x ⟨t,loc,al,h⟩ Q:=h2 t loc h1
def Nx (i N:Nat)(I:Nat→(Nat→Value)→(Nat→Option (List Value))→za→Prop)(Q:Exit→St→Prop):Exit→St→Prop
  | .normal,s=>i<N∧s.al=(fun _=>none)∧I (i+1) s.t s.loc s.h
  | e,s=>Q e s
theorem zT {x : IR} (N : Nat) (I : Nat → (Nat → Value) → (Nat → Option (List Value)) → za → Prop) (h1 : I 0 t loc h)
    (step:∀(i:Nat) (t:Nat→Value) (loc:Nat→Option (List Value)) (h:za),i≤N→I i t loc h→W T X x ⟨t,loc,fun _=>none,h⟩ (Nx i N I Q)):W T X (.loop x) ⟨t,loc,fun _=>none,h⟩ Q:=by
  refine CY (fun n s=>∃i,n=N-i∧i≤N∧s.al=(fun _=>none)∧I i s.t s.loc s.h) N ⟨0,rfl,Nat.zero_le _,rfl,h1⟩ ?_
  rintro n ⟨t,loc,al,h⟩ ⟨i,rfl,hi,rfl,hI⟩
  refine (step i t loc h hi hI).mono T X fun e s hq=>?_
  cases e with
  | normal =>
    obtain⟨h1,h2,h3⟩:=hq
    exact⟨N-(i+1),by omega,i+1,rfl,by omega,h2,h3⟩
  | _=>exact hq
theorem dO {i N:Nat}{I:Nat→(Nat→Value)→(Nat→Option (List Value))→za→Prop}:Nx i N I Q .normal ⟨t,loc,fun _=>none,h⟩↔i<N∧I (i+1) t loc h:=by simp[Nx]
theorem zcM {i N k:Nat}{I:Nat→(Nat→Value)→(Nat→Option (List Value))→za→Prop}{s:St}:Nx i N I Q (.exit k) s↔Q (.exit k) s:=Iff.rfl
theorem zeu {i N:Nat}{I:Nat→(Nat→Value)→(Nat→Option (List Value))→za→Prop}{s:St}:Nx i N I Q .ret s↔Q .ret s:=Iff.rfl
def Mx (n:Nat)(I:Nat→(Nat→Value)→(Nat→Option (List Value))→za→Prop)(Q:Exit→St→Prop):Exit→St→Prop
  | .normal,s=>∃m,m<n∧s.al=(fun _=>none)∧I m s.t s.loc s.h
  | e,s=>Q e s
theorem WI {x : IR} (N : Nat) (I : Nat → (Nat → Value) → (Nat → Option (List Value)) → za → Prop) (h1 : I N t loc h)
    (step:∀(n:Nat) (t:Nat→Value) (loc:Nat→Option (List Value)) (h:za),I n t loc h→W T X x ⟨t,loc,fun _=>none,h⟩ (Mx n I Q)):W T X (.loop x) ⟨t,loc,fun _=>none,h⟩ Q:=by
  refine CY (fun n s=>s.al=(fun _=>none)∧I n s.t s.loc s.h) N ⟨rfl,h1⟩ ?_
  rintro n ⟨t,loc,al,h⟩ ⟨rfl,hI⟩
  refine (step n t loc h hI).mono T X fun e s hq=>?_
  cases e with
  | normal=>exact hq
  | _=>exact hq
theorem dL {n:Nat}{I:Nat→(Nat→Value)→(Nat→Option (List Value))→za→Prop}:Mx n I Q .normal ⟨t,loc,fun _=>none,h⟩↔∃m,m<n∧I m t loc h:=by simp[Mx]
theorem zcK {n k:Nat}{I:Nat→(Nat→Value)→(Nat→Option (List Value))→za→Prop}{s:St}:Mx n I Q (.exit k) s↔Q (.exit k) s:=Iff.rfl
theorem zes {n:Nat}{I:Nat→(Nat→Value)→(Nat→Option (List Value))→za→Prop}{s:St}:Mx n I Q .ret s↔Q .ret s:=Iff.rfl
end
attribute [go_sem ↓] zc3 cK dO zcM zeu dL zcK zes
attribute [go_sem] zhO zhP zhQ zhR zhS zbh dS zbg dI zaM bJ B5 Fg zaL yC Prod.mk.injEq Value.bool.injEq Value.int.injEq Option.some.injEq
end Go.Proofs.Ytafhipglhnfgnaa.Ab
/- Calls of which only something is told. No conditions. -/
namespace Go.Proofs.Ytafhipglhnfgnaa.Ab
open Go.RowKit
def kQ (h0 h:za)(P:Value→za→Prop):List Value→Prop
  | [v]=>live v=true∧P (zp h0 (v,h)).1 (zp h0 (v,h)).2
  | vs=>vs.all live=true∧P (zp h0 (.tuple ⟨vs⟩,h)).1 (zp h0 (.tuple ⟨vs⟩,h)).2
def C6 (rs:List Res)(h0:za)(P:Value→za→Prop)(e:Exit)(s:St):Prop:=(e=.normal∨e=.ret)∧VK (UV s.t s.loc rs) (kQ h0 s.h P)
section
variable {T:FuncId→Option Fun}{X:Zb}{t:Nat→Value}{loc:Nat→Option (List Value)}{h h0:za}{P:Value→za→Prop}{Q:Exit→St→Prop}
theorem wU {f:FuncId}{l:List Value}{F:Fun}(hT:T f=some F)(hl:l.length=F.np)(hw:W T X F.body ⟨fun i=>l.getD i undef,fun _=>none,fun _=>none,h⟩ (C6 F.res h P)):∃v hh,C T X f l h=some (v,hh)∧P v hh:=by
  obtain⟨n,e,s,he,hq⟩:=hw;obtain⟨hen,vs,hv,hr⟩:=hq
  have key:∃v,Qg s F.res=some v∧P (zp h (v,s.h)).1 (zp h (v,s.h)).2:=by
    obtain⟨t,loc,al,h'⟩:=s;unfold Qg;rw[Yo,hv]
    match vs,hr with
    | [],⟨h1,h2⟩=>exact⟨_,by simp,h2⟩
    | [v],⟨h1,h2⟩=>exact⟨v,by simp[h1],h2⟩
    | a::b::vs,⟨h1,h2⟩=>exact⟨_,by simp only[h1,if_true],h2⟩
  obtain⟨v,h1,h2⟩:=key;exact⟨_,_,KS T X hT hl ⟨n,e,s,he,hen,v,h1,rfl⟩,h2⟩
theorem zhZ {f:FuncId}{l:List Value}{F:Fun}{c:Value}{P:za→Prop}(hT:T f=some F)(hl:l.length=F.np)(hw:W T X F.body ⟨fun i=>l.getD i undef,fun _=>none,fun _=>none,h⟩ (C6 F.res h fun v hh=>v=c∧P hh)):∃hh,C T X f l h=some (c,hh)∧P hh:=by
  obtain⟨v,hh,h1,rfl,h2⟩:=wU hT hl hw;exact⟨hh,h1,h2⟩
theorem zbi {rs:List Res}{al:Nat→Option (Nat × Nat)}:C6 rs h0 P .ret ⟨t,loc,al,h⟩↔VK (UV t loc rs) (kQ h0 h P):=by simp[C6]
theorem b9 {rs:List Res}{al:Nat→Option (Nat × Nat)}:C6 rs h0 P .normal ⟨t,loc,al,h⟩↔VK (UV t loc rs) (kQ h0 h P):=by simp[C6]
theorem zgj {v:Value}:kQ h0 h P [v]↔live v=true∧P (zp h0 (v,h)).1 (zp h0 (v,h)).2:=Iff.rfl
theorem zgi:kQ h0 h P []↔P (zp h0 (.tuple ⟨[]⟩,h)).1 (zp h0 (.tuple ⟨[]⟩,h)).2:=by simp[kQ]
theorem zgk {a b:Value}:kQ h0 h P [a,b]↔(live a=true∧live b=true)∧P (zp h0 (.tuple ⟨[a,b]⟩,h)).1 (zp h0 (.tuple ⟨[a,b]⟩,h)).2:=by simp[kQ]
theorem zgl {a b c:Value}:kQ h0 h P [a,b,c]↔(live a=true∧live b=true∧live c=true)∧P (zp h0 (.tuple ⟨[a,b,c]⟩,h)).1 (zp h0 (.tuple ⟨[a,b,c]⟩,h)).2:=by simp[kQ]
theorem zgm {a b c d:Value}:kQ h0 h P [a,b,c,d]↔(live a=true∧live b=true∧live c=true∧live d=true)∧P (zp h0 (.tuple ⟨[a,b,c,d]⟩,h)).1 (zp h0 (.tuple ⟨[a,b,c,d]⟩,h)).2:=by simp[kQ]
theorem Zt {v:Value}{h':za}(hl:h'.length=h.length):zp h (v,h')=(v,h'):=by
  unfold zp;split
  · rename_i hc
    have:h=h':=hc.2.eq_of_length hl.symm;rw[this]
  · rfl
theorem WE {v:Value}{h':za}:(zp h (v,h')).1=v:=by unfold zp;split<;>rfl
theorem vl {v:Value}{h':za}(hp:h <+: h'):∃hh,zp h (v,h')=(v,hh)∧h <+: hh∧(hh=h'∨(flat v=true∧hh=h)):=by
  by_cases hf:flat v=true
  · exact⟨h,zF hf hp,List.prefix_refl _,.inr ⟨hf,rfl⟩⟩
  · exact⟨h',Q8 (by simpa using hf),hp,.inl rfl⟩
end
attribute [go_sem ↓] zbi b9
attribute [go_sem] zgi zgj zgk zgl zgm false_or or_true true_or or_false
attribute [go_sem_proc] reduceIte Nat.reduceEqDiff Nat.reduceAdd Nat.reduceMul Nat.reduceLT Nat.reduceLeDiff reduceCtorEq Int.reduceEq Int.reduceLT Int.reduceLE Int.reduceNeg Int.reduceToNat
attribute [go_sem] ne_eq
end Go.Proofs.Ytafhipglhnfgnaa.Ab
