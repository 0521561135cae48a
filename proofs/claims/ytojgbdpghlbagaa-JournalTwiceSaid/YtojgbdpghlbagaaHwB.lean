/-
  The given statement JournalTwice: for every input the statement's function returns true, and the input reads as it did.
-/
import Derived.Test.YtojgbdpghlbagaaBC
import Derived.Test.YtojgbdpghlbagaaBD
namespace Go.Proofs.Ytojgbdpghlbagaa
open Go Go.AX Go.Proofs Go.RowKit Go.WideShapes Go.ChangeShapes
set_option maxRecDepth 100000 in
theorem dRx (os:Os) (started:os.Started) (H:Type) (enc:TypeId×Value→H):
  ReturnsInHanded {} Try.checked os 5 .any (Rows.journalTwiceSpec.pre6 enc Try.prog Try.f5 Rows.journalTwiceRow.domain false)
   (Rows.journalTwiceSpec.post enc Try.prog Try.f5 false true false false):=by
 refine returnsInHanded_of_change (C:=Try.checked) ownT started (by kernel_rfl) Try.func5
  (ChangeSpec.witness6 (enc:=enc) (C:=Try.checked) false ⟨#[],#[.slice none 0 0,.slice none 0 0,.int .u8 0,.int .u8 0,.int .u64 0,.int .u64 0],[]⟩ 8 (by kernel_rfl) (by kernel_rfl) (by kernel_rfl) (by kernel_rfl)) ?_
 intro W base args ds gs before hval0 hW _ _
 have hval: ∀(j:Nat) t v,Try.f5.params[j]? =some t→args[j]? =some v→Value.okWide Try.prog W .any base t v:=hval0
 have hW':=hW
 obtain⟨p,q,hA0,hV,rfl,hfz,hnd⟩:=hW
 have hA:DataW.TrodAll enc Try.prog W 0 (fun _=>true) true Try.f5.params.toList args.toList ds p:=hA0
 rw[Try.params5]at hA hval
 obtain⟨v0,v1,v2,v3,v4,v5,d0,d1,d2,d3,d4,d5,p0,p1,p2,p3,p4,p5,rfl,rfl,rfl,h0,h1,h2,h3,h4,h5⟩:=dSn hA
 obtain⟨rfl,rfl⟩:=trodVars_none hV
 obtain⟨_,⟨x0,rfl,hx0⟩,r0⟩:=bEs (σ:=fun _=> .unset) Try.underlying22 (hval 0 22 v0 rfl rfl) (iC Try.underlying22 c5 Try.underlying5) h0
 obtain⟨_,⟨x1,rfl,hx1⟩,r1⟩:=bEs (σ:=fun _=> .unset) Try.underlying22 (hval 1 22 v1 rfl rfl) (iC Try.underlying22 c5 Try.underlying5) h1
 obtain⟨_,⟨x2,rfl⟩,r2⟩:=cDy (σ:=fun _=> .unset) Try.underlying5 (hval 2 5 v2 rfl rfl) (vX Try.underlying5) h2
 obtain⟨_,⟨x3,rfl⟩,r3⟩:=cDy (σ:=fun _=> .unset) Try.underlying5 (hval 3 5 v3 rfl rfl) (vX Try.underlying5) h3
 obtain⟨_,⟨x4,rfl⟩,r4⟩:=cDy (σ:=fun _=> .unset) Try.underlying43 (hval 4 43 v4 rfl rfl) (dSh Try.underlying43) h4
 obtain⟨_,⟨x5,rfl⟩,r5⟩:=cDy (σ:=fun _=> .unset) Try.underlying43 (hval 5 43 v5 rfl rfl) (dSh Try.underlying43) h5
 refine(bAx (args:=[.sl x0.length (c8 x0),.sl x1.length (c8 x1),.w8 x2,.w8 x3,.w64 x4,.w64 x5]) dUm rfl (fun i hi=>?_) ?_).mono fun e W' ⟨he,hw⟩=>⟨_,he,aZq bLx (by kernel_rfl) rfl Try.underlying4 rfl rfl hW' hw⟩
 ·match i,hi with
  |0,_=>exact r0
  |1,_=>exact r1
  |2,_=>exact r2
  |3,_=>exact r3
  |4,_=>exact r4
  |5,_=>exact r5
 ·show aK (cI (c8 x0)) _=_
  rw[iA,aX]
  show aK (cI (c8 x1)) _=_
  rw[iA,aX,cU _ ⟨⟨rfl,rfl⟩,hx0,hx1⟩]
theorem journalTwice_holds:Rows.JournalTwiceSaid:=
 OpenClaim.holds_of_wide 5 Try.f5 rfl rfl rfl rfl rfl rfl rfl ⟨rfl,rfl,rfl,rfl,rfl⟩ rfl rfl rfl rfl rfl (by kernel_rfl) Try.func5 (by kernel_rfl)
  (of_decide_eq_true (by kernel_rfl)) (by unfold Func.isWrapper;first|(rw[J4 (by decide+kernel)];kernel_rfl)|(rw[J3 (by decide+kernel)];exact⟨rfl,rfl⟩))
  (fun os started H enc _=>dRx os started H enc)
end Go.Proofs.Ytojgbdpghlbagaa
