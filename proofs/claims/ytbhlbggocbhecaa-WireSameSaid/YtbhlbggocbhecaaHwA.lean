/-
  The given statement WireSame: for every input the statement's function returns true, and the input reads as it did.
-/
import Derived.Test.YtbhlbggocbhecaaBD
namespace Go.Proofs.Ytbhlbggocbhecaa
open Go Go.AX Go.Proofs Go.RowKit Go.WideShapes Go.ChangeShapes
theorem fMi {p:Nm} (hp:p.length≤9223372036854775807∧∀l∈p,l.length≤9223372036854775807) (b:B8):wsG [.sl p.length (cS p),.w8 b]=some (.b true):=by
 show aK (unS (cS p)) _=_
 rw[aQr,aX,hH _ ⟨rfl,hp⟩]
set_option maxRecDepth 100000 in
theorem fIk (os:Os) (started:os.Started) (H:Type) (enc:TypeId×Value→H):
  ReturnsInHanded {} Try.checked os 3 .any (Rows.wireSameSpec.pre6 enc Try.prog Try.f3 Rows.wireSameRow.domain false)
   (Rows.wireSameSpec.post enc Try.prog Try.f3 false true false false):=by
 refine returnsInHanded_of_change (C:=Try.checked) ownT started (by kernel_rfl) Try.func3
  (ChangeSpec.witness6 (enc:=enc) (C:=Try.checked) false ⟨#[],#[.slice none 0 0,.int .u8 0],[]⟩ 8 (by kernel_rfl) (by kernel_rfl) (by kernel_rfl) (by kernel_rfl)) ?_
 intro W base args ds gs before hval0 hW _ _
 have hval: ∀(j:Nat) t v,Try.f3.params[j]? =some t→args[j]? =some v→Value.okWide Try.prog W .any base t v:=hval0
 have hW':=hW
 obtain⟨p,q,hA0,hV,rfl,hfz,hnd⟩:=hW
 have hA:DataW.TrodAll enc Try.prog W 0 (fun _=>true) true Try.f3.params.toList args.toList ds p:=hA0
 rw[Try.params3]at hA hval
 obtain⟨v0,v1,d0,d1,p0,p1,rfl,rfl,rfl,h0,h1⟩:=trodAll_two hA
 obtain⟨rfl,rfl⟩:=trodVars_none hV
 obtain⟨_,⟨x0,rfl,hx0⟩,r0⟩:=bEs (σ:=fun _=> .unset) Try.underlying23 (hval 0 23 v0 rfl rfl) (eMg Try.underlying23 c9 Try.underlying9) h0
 obtain⟨_,⟨x1,rfl⟩,r1⟩:=cDy (σ:=fun _=> .unset) Try.underlying5 (hval 1 5 v1 rfl rfl) (vX Try.underlying5) h1
 refine(bAx (args:=[.sl x0.length (cS x0),.w8 x1]) fOg rfl (fun i hi=>?_) ?_).mono fun e W' ⟨he,hw⟩=>⟨_,he,aZq bLx (by kernel_rfl) rfl Try.underlying4 rfl rfl hW' hw⟩
 ·match i,hi with
  |0,_=>exact r0
  |1,_=>exact r1
 ·exact fMi hx0 x1
theorem wireSame_holds:Rows.WireSameSaid:=
 OpenClaim.holds_of_wide 3 Try.f3 rfl rfl rfl rfl rfl rfl rfl ⟨rfl,rfl,rfl,rfl,rfl⟩ rfl rfl rfl rfl rfl (by kernel_rfl) Try.func3 (by kernel_rfl)
  (of_decide_eq_true (by kernel_rfl)) (by unfold Func.isWrapper;first|(rw[J4 (by decide+kernel)];kernel_rfl)|(rw[J3 (by decide+kernel)];exact⟨rfl,rfl⟩))
  (fun os started H enc _=>fIk os started H enc)
end Go.Proofs.Ytbhlbggocbhecaa
