/-
  The given statement WirePoints: for every input the statement's function returns true, and the input reads as it did.
-/
import Derived.Test.YtbhlbggocbhecaaGreatBD
namespace Go.Proofs.YtbhlbggocbhecaaGreat
open Go Go.AX Go.Proofs Go.RowKit Go.WideShapes Go.ChangeShapes
theorem fQl (l:List B8) (h:l.length≤9223372036854775807) (b:B8):wpG [.sl l.length (c8 l),.w8 b]=some (.b true):=by
 show aK (fHq (c8 l)) _=_
 rw[iA,aX,hH _ ⟨rfl,h⟩]
set_option maxRecDepth 100000 in
theorem fPj (os:Os) (started:os.Started) (H:Type) (enc:TypeId×Value→H):
  ReturnsInHanded {} Tryz.checked os 3 .any (Rows.wirePointsSpec.pre6 enc Tryz.prog Tryz.f3 Rows.wirePointsRow.domain false)
   (Rows.wirePointsSpec.post enc Tryz.prog Tryz.f3 false true false false):=by
 refine returnsInHanded_of_change (C:=Tryz.checked) ownT started (by kernel_rfl) Tryz.func3
  (ChangeSpec.witness6 (enc:=enc) (C:=Tryz.checked) false ⟨#[],#[.slice none 0 0,.int .u8 0],[]⟩ 8 (by kernel_rfl) (by kernel_rfl) (by kernel_rfl) (by kernel_rfl)) ?_
 intro W base args ds gs before hval0 hW _ _
 have hval: ∀(j:Nat) t v,Tryz.f3.params[j]? =some t→args[j]? =some v→Value.okWide Tryz.prog W .any base t v:=hval0
 have hW':=hW
 obtain⟨p,q,hA0,hV,rfl,hfz,hnd⟩:=hW
 have hA:DataW.TrodAll enc Tryz.prog W 0 (fun _=>true) true Tryz.f3.params.toList args.toList ds p:=hA0
 rw[Tryz.params3]at hA hval
 obtain⟨v0,v1,d0,d1,p0,p1,rfl,rfl,rfl,h0,h1⟩:=trodAll_two hA
 obtain⟨rfl,rfl⟩:=trodVars_none hV
 obtain⟨_,⟨x0,rfl,hx0⟩,r0⟩:=bEs (σ:=fun _=> .unset) Tryz.underlying22 (hval 0 22 v0 rfl rfl) (iC Tryz.underlying22 c5 Tryz.underlying5) h0
 obtain⟨_,⟨x1,rfl⟩,r1⟩:=cDy (σ:=fun _=> .unset) Tryz.underlying5 (hval 1 5 v1 rfl rfl) (vX Tryz.underlying5) h1
 refine(bAx (args:=[.sl x0.length (c8 x0),.w8 x1]) fRb rfl (fun i hi=>?_) ?_).mono fun e W' ⟨he,hw⟩=>⟨_,he,aZq bLx (by kernel_rfl) rfl Tryz.underlying4 rfl rfl hW' hw⟩
 ·match i,hi with
  |0,_=>exact r0
  |1,_=>exact r1
 ·exact fQl _ hx0 x1
theorem wirePoints_holds:Rows.WirePointsSaid:=
 OpenClaim.holds_of_wide 3 Tryz.f3 rfl rfl rfl rfl rfl rfl rfl ⟨rfl,rfl,rfl,rfl,rfl⟩ rfl rfl rfl rfl rfl (by kernel_rfl) Tryz.func3 (by kernel_rfl)
  (of_decide_eq_true (by kernel_rfl)) (by unfold Func.isWrapper;first|(rw[J4 (by decide+kernel)];kernel_rfl)|(rw[J3 (by decide+kernel)];exact⟨rfl,rfl⟩))
  (fun os started H enc _=>fPj os started H enc)
end Go.Proofs.YtbhlbggocbhecaaGreat
