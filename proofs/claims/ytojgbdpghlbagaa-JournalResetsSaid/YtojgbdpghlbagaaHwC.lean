/-
  The given statement JournalResets: for every input the statement's function returns true, and the input reads as it did.
-/
import Derived.Test.YtojgbdpghlbagaaBC
import Derived.Test.YtojgbdpghlbagaaBD
namespace Go.Proofs.Ytojgbdpghlbagaa
open Go Go.AX Go.Proofs Go.RowKit Go.WideShapes Go.ChangeShapes
set_option maxRecDepth 100000 in
theorem dUu (os:Os) (started:os.Started) (H:Type) (enc:TypeId×Value→H):
  ReturnsInHanded {} Try.checked os 6 .any (Rows.journalResetsSpec.pre6 enc Try.prog Try.f6 Rows.journalResetsRow.domain false)
   (Rows.journalResetsSpec.post enc Try.prog Try.f6 false true false false):=by
 refine returnsInHanded_of_change (C:=Try.checked) ownT started (by kernel_rfl) Try.func6
  (ChangeSpec.witness6 (enc:=enc) (C:=Try.checked) false ⟨#[],#[.int .u8 0,.int .u8 0,.int .u8 0],[]⟩ 8 (by kernel_rfl) (by kernel_rfl) (by kernel_rfl) (by kernel_rfl)) ?_
 intro W base args ds gs before hval0 hW _ _
 have hval: ∀(j:Nat) t v,Try.f6.params[j]? =some t→args[j]? =some v→Value.okWide Try.prog W .any base t v:=hval0
 have hW':=hW
 obtain⟨p,q,hA0,hV,rfl,hfz,hnd⟩:=hW
 have hA:DataW.TrodAll enc Try.prog W 0 (fun _=>true) true Try.f6.params.toList args.toList ds p:=hA0
 rw[Try.params6]at hA hval
 obtain⟨v0,v1,v2,d0,d1,d2,p0,p1,p2,rfl,rfl,rfl,h0,h1,h2⟩:=trodAll_three hA
 obtain⟨rfl,rfl⟩:=trodVars_none hV
 obtain⟨_,⟨x0,rfl⟩,r0⟩:=cDy (σ:=fun _=> .unset) Try.underlying5 (hval 0 5 v0 rfl rfl) (vX Try.underlying5) h0
 obtain⟨_,⟨x1,rfl⟩,r1⟩:=cDy (σ:=fun _=> .unset) Try.underlying5 (hval 1 5 v1 rfl rfl) (vX Try.underlying5) h1
 obtain⟨_,⟨x2,rfl⟩,r2⟩:=cDy (σ:=fun _=> .unset) Try.underlying5 (hval 2 5 v2 rfl rfl) (vX Try.underlying5) h2
 refine(bAx (args:=[.w8 x0,.w8 x1,.w8 x2]) dUx rfl (fun i hi=>?_) ?_).mono fun e W' ⟨he,hw⟩=>⟨_,he,aZq bLx (by kernel_rfl) rfl Try.underlying4 rfl rfl hW' hw⟩
 ·match i,hi with
  |0,_=>exact r0
  |1,_=>exact r1
  |2,_=>exact r2
 ·rfl
theorem journalResets_holds:Rows.JournalResetsSaid:=
 OpenClaim.holds_of_wide 6 Try.f6 rfl rfl rfl rfl rfl rfl rfl ⟨rfl,rfl,rfl,rfl,rfl⟩ rfl rfl rfl rfl rfl (by kernel_rfl) Try.func6 (by kernel_rfl)
  (of_decide_eq_true (by kernel_rfl)) (by unfold Func.isWrapper;first|(rw[J4 (by decide+kernel)];kernel_rfl)|(rw[J3 (by decide+kernel)];exact⟨rfl,rfl⟩))
  (fun os started H enc _=>dUu os started H enc)
end Go.Proofs.Ytojgbdpghlbagaa
