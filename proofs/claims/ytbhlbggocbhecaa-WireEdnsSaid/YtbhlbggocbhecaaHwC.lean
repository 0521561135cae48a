/-
  The given statement WireEdns: for every input the statement's function returns true, and the input reads as it did.
-/
import Derived.Test.YtbhlbggocbhecaaBD
namespace Go.Proofs.Ytbhlbggocbhecaa
open Go Go.AX Go.Proofs Go.RowKit Go.WideShapes Go.ChangeShapes
set_option maxRecDepth 100000 in
theorem fRx (os:Os) (started:os.Started) (H:Type) (enc:TypeId×Value→H):
  ReturnsInHanded {} Try.checked os 4 .any (Rows.wireEdnsSpec.pre6 enc Try.prog Try.f4 Rows.wireEdnsRow.domain false)
   (Rows.wireEdnsSpec.post enc Try.prog Try.f4 false true false false):=by
 refine returnsInHanded_of_change (C:=Try.checked) ownT started (by kernel_rfl) Try.func4
  (ChangeSpec.witness6 (enc:=enc) (C:=Try.checked) false ⟨#[],#[.int .u16 0,.bool false,.int .i64 0,.int .u8 0],[]⟩ 8 (by kernel_rfl) (by kernel_rfl) (by kernel_rfl) (by kernel_rfl)) ?_
 intro W base args ds gs before hval0 hW _ _
 have hval: ∀(j:Nat) t v,Try.f4.params[j]? =some t→args[j]? =some v→Value.okWide Try.prog W .any base t v:=hval0
 have hW':=hW
 obtain⟨p,q,hA0,hV,rfl,hfz,hnd⟩:=hW
 have hA:DataW.TrodAll enc Try.prog W 0 (fun _=>true) true Try.f4.params.toList args.toList ds p:=hA0
 rw[Try.params4]at hA hval
 obtain⟨v0,v1,v2,v3,d0,d1,d2,d3,p0,p1,p2,p3,rfl,rfl,rfl,h0,h1,h2,h3⟩:=trodAll_four hA
 obtain⟨rfl,rfl⟩:=trodVars_none hV
 obtain⟨_,⟨x0,rfl⟩,r0⟩:=cDy (σ:=fun _=> .unset) Try.underlying26 (hval 0 26 v0 rfl rfl) (aZu Try.underlying26) h0
 obtain⟨_,⟨x1,rfl⟩,r1⟩:=dCr (σ:=fun _=> .unset) Try.underlying4 (hval 1 4 v1 rfl rfl) (cKd Try.underlying4) h1
 obtain⟨_,⟨x2,rfl,hx2⟩,r2⟩:=cDy (σ:=fun _=> .unset) Try.underlying3 (hval 2 3 v2 rfl rfl) (aGe Try.underlying3) h2
 obtain⟨_,⟨x3,rfl⟩,r3⟩:=cDy (σ:=fun _=> .unset) Try.underlying5 (hval 3 5 v3 rfl rfl) (vX Try.underlying5) h3
 refine(bAx (args:=[.w16 x0,.b x1,.i x2,.w8 x3]) fUr rfl (fun i hi=>?_) ?_).mono fun e W' ⟨he,hw⟩=>⟨_,he,aZq bLx (by kernel_rfl) rfl Try.underlying4 rfl rfl hW' hw⟩
 ·match i,hi with
  |0,_=>exact r0
  |1,_=>exact r1
  |2,_=>exact r2
  |3,_=>exact r3
 ·exact rfl
theorem wireEdns_holds:Rows.WireEdnsSaid:=
 OpenClaim.holds_of_wide 4 Try.f4 rfl rfl rfl rfl rfl rfl rfl ⟨rfl,rfl,rfl,rfl,rfl⟩ rfl rfl rfl rfl rfl (by kernel_rfl) Try.func4 (by kernel_rfl)
  (of_decide_eq_true (by kernel_rfl)) (by unfold Func.isWrapper;first|(rw[J4 (by decide+kernel)];kernel_rfl)|(rw[J3 (by decide+kernel)];exact⟨rfl,rfl⟩))
  (fun os started H enc _=>fRx os started H enc)
end Go.Proofs.Ytbhlbggocbhecaa
