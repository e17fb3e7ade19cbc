/- FnCerts: whatever the arguments, the law returns true and its arguments read as before. No conditions. -/
import Derived.Test.YtafhipglhnfgnaaRows
import Derived.Test.YtafhipglhnfgnaaLFnCerts
import Derived.WalkKit
import Derived.ProofKit
import Derived.OpenShut
import Derived.ChangeOld
import Derived.Below
import Derived.SizedLaws
namespace Go.Proofs.Ytafhipglhnfgnaa.Ab.fnCerts
open Go.ChangeShapes Go.WideShapes Go.ChangeAt Go.RowKit
theorem own:ownKnob Try.prog.godebug=none:=by kernel_rfl
theorem hp:paramsK Try.prog Try.f6.params.toList=some ps_FnCerts:=by kernel_rfl
theorem rd:(Try.f6.params.toList.all fun t=>Try.prog.readableRec t && decide (t < Try.prog.types.size))=true:=by kernel_rfl
theorem laid:laidOutB Try.prog=true:=by kernel_rfl
theorem sd (W:World) (n:Nat):SoundC Try.prog W (call T noX n):=sound (fun _ _ _ _ _ h=>by cases h) n
set_option maxRecDepth 100000 in
theorem lifted (os : Os) (started : os.Started) (H : Type) (enc : TypeId × Value → H) :
    ReturnsInHanded {} Try.checked os 6 .any (Rows.fnCertsSpec.pre6 enc Try.prog Try.f6 Rows.fnCertsRow.domain false) (Rows.fnCertsSpec.post enc Try.prog Try.f6 false true false false):=by
  refine returnsInHanded_of_change_sized (C:=Try.checked) own started (by kernel_rfl) Try.func6
    (ChangeSpec.witness6 (enc:=enc) (C:=Try.checked) false ⟨#[],#[.slice none 0 0],[]⟩ 8 (by kernel_rfl) (by kernel_rfl) (by kernel_rfl) (by kernel_rfl)) ?_
  intro W base args ds gs before hval hW _ _ _;have hW':=hW;obtain ⟨p,q,hA,hV,rfl,_,_⟩:=hW;obtain ⟨rfl,rfl⟩:=trodVars_none hV;obtain ⟨d0,rfl⟩:=len1 ((trodAll_len hA).trans rfl:ds.length=1)
  refine (law_calls (sd W) hp law_FnCerts hA (fun j t v h1 h2=>hval j t v (by simpa using h1) (by simpa using h2))).mono fun e W' ⟨he,bel⟩=>?_
  subst he
  have hlt:∀ x∈p,x.block < W.heap.size:=fun x hx=>by simpa using hW'.lt x (by simpa using hx)
  exact ⟨_,rfl,_,_,_,[],_,[],hW',trodAll_mk1 (shut_bool Try.underlying4 _),trodAll_below laid rd hA bel hlt,rfl,bel.frame _,fun h=>by cases h⟩
theorem over:Rows.fnCertsRow.holds Try.pinned (OpenSpec.ofChange Rows.fnCertsSpec) :=
  OpenClaim.holds_of_wide 6 Try.f6 rfl rfl rfl rfl rfl rfl rfl ⟨rfl,rfl,rfl,rfl,rfl⟩ rfl rfl rfl rfl rfl (by kernel_rfl) Try.func6 (by kernel_rfl)
    (of_decide_eq_true (by kernel_rfl)) (by unfold Func.isWrapper;first | (rw [if_pos (by decide +kernel)];kernel_rfl) | (rw [if_neg (by decide +kernel)];exact ⟨rfl,rfl⟩))
    (fun os started H enc _=>lifted os started H enc)
end Go.Proofs.Ytafhipglhnfgnaa.Ab.fnCerts
namespace Go.Proofs.Ytafhipglhnfgnaa
theorem fnCerts_holds:Rows.FnCertsSaid:=Ab.fnCerts.over
#print axioms fnCerts_holds
end Go.Proofs.Ytafhipglhnfgnaa
