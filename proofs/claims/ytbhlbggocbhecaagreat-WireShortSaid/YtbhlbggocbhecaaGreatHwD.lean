/-
  The given statement WireShort: for every input the statement's function returns true, and the input reads as it did.
-/
import Derived.Test.YtbhlbggocbhecaaGreatBD
import Derived.Test.YtbhlbggocbhecaaGreatBE
namespace Go.Proofs.YtbhlbggocbhecaaGreat
open Go Go.AX Go.Proofs Go.RowKit Go.WideShapes Go.ChangeShapes
set_option maxRecDepth 100000 in
theorem fWc (os:Os) (started:os.Started) (H:Type) (enc:TypeId×Value→H):
  ReturnsInHanded {} Tryz.checked os 5 .any (Rows.wireShortSpec.pre6 enc Tryz.prog Tryz.f5 Rows.wireShortRow.domain false)
   (Rows.wireShortSpec.post enc Tryz.prog Tryz.f5 false true false false):=by
 refine returnsInHanded_of_change (C:=Tryz.checked) ownT started (by kernel_rfl) Tryz.func5
  (ChangeSpec.witness6 (enc:=enc) (C:=Tryz.checked) false ⟨#[],#[.int .u8 0,.int .u8 0,.int .i64 0],[]⟩ 8 (by kernel_rfl) (by kernel_rfl) (by kernel_rfl) (by kernel_rfl)) ?_
 intro W base args ds gs before hval0 hW _ _
 have hval: ∀(j:Nat) t v,Tryz.f5.params[j]? =some t→args[j]? =some v→Value.okWide Tryz.prog W .any base t v:=hval0
 have hW':=hW
 obtain⟨p,q,hA0,hV,rfl,hfz,hnd⟩:=hW
 have hA:DataW.TrodAll enc Tryz.prog W 0 (fun _=>true) true Tryz.f5.params.toList args.toList ds p:=hA0
 rw[Tryz.params5]at hA hval
 obtain⟨v0,v1,v2,d0,d1,d2,p0,p1,p2,rfl,rfl,rfl,h0,h1,h2⟩:=trodAll_three hA
 obtain⟨rfl,rfl⟩:=trodVars_none hV
 obtain⟨_,⟨x0,rfl⟩,r0⟩:=cDy (σ:=fun _=> .unset) Tryz.underlying5 (hval 0 5 v0 rfl rfl) (vX Tryz.underlying5) h0
 obtain⟨_,⟨x1,rfl⟩,r1⟩:=cDy (σ:=fun _=> .unset) Tryz.underlying5 (hval 1 5 v1 rfl rfl) (vX Tryz.underlying5) h1
 obtain⟨_,⟨x2,rfl,hx2⟩,r2⟩:=cDy (σ:=fun _=> .unset) Tryz.underlying3 (hval 2 3 v2 rfl rfl) (aGe Tryz.underlying3) h2
 refine(bAx (args:=[.w8 x0,.w8 x1,.i x2]) fXy rfl (fun i hi=>?_) ?_).mono fun e W' ⟨he,hw⟩=>⟨_,he,aZq bLx (by kernel_rfl) rfl Tryz.underlying4 rfl rfl hW' hw⟩
 ·match i,hi with
  |0,_=>exact r0
  |1,_=>exact r1
  |2,_=>exact r2
 ·exact rfl
theorem wireShort_holds:Rows.WireShortSaid:=
 OpenClaim.holds_of_wide 5 Tryz.f5 rfl rfl rfl rfl rfl rfl rfl ⟨rfl,rfl,rfl,rfl,rfl⟩ rfl rfl rfl rfl rfl (by kernel_rfl) Tryz.func5 (by kernel_rfl)
  (of_decide_eq_true (by kernel_rfl)) (by unfold Func.isWrapper;first|(rw[J4 (by decide+kernel)];kernel_rfl)|(rw[J3 (by decide+kernel)];exact⟨rfl,rfl⟩))
  (fun os started H enc _=>fWc os started H enc)
end Go.Proofs.YtbhlbggocbhecaaGreat
