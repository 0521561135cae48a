/-
  The given statement JournalSums: for every input the statement's function returns true, and the input reads as it did.
-/
import Derived.Test.YtojgbdpghlbagaaBC
import Derived.Test.YtojgbdpghlbagaaBD
namespace Go.Proofs.Ytojgbdpghlbagaa
open Go Go.AX Go.Proofs Go.RowKit Go.WideShapes Go.ChangeShapes
set_option maxRecDepth 100000 in
theorem dEx (os:Os) (started:os.Started) (H:Type) (enc:TypeId×Value→H):
  ReturnsInHanded {} Try.checked os 3 .any (Rows.journalSumsSpec.pre6 enc Try.prog Try.f3 Rows.journalSumsRow.domain false)
   (Rows.journalSumsSpec.post enc Try.prog Try.f3 false true false false):=by
 refine returnsInHanded_of_change (C:=Try.checked) ownT started (by kernel_rfl) Try.func3
  (ChangeSpec.witness6 (enc:=enc) (C:=Try.checked) false ⟨#[],#[.slice none 0 0],[]⟩ 8 (by kernel_rfl) (by kernel_rfl) (by kernel_rfl) (by kernel_rfl)) ?_
 intro W base args ds gs before hval0 hW _ _
 have hval: ∀(j:Nat) t v,Try.f3.params[j]? =some t→args[j]? =some v→Value.okWide Try.prog W .any base t v:=hval0
 have hW':=hW
 obtain⟨p,q,hA0,hV,rfl,hfz,hnd⟩:=hW
 have hA:DataW.TrodAll enc Try.prog W 0 (fun _=>true) true Try.f3.params.toList args.toList ds p:=hA0
 rw[Try.params3]at hA hval
 obtain⟨v0,d0,rfl,rfl,h0⟩:=trodAll_one hA
 obtain⟨rfl,rfl⟩:=trodVars_none hV
 obtain⟨_,⟨x0,rfl,hx0⟩,r0⟩:=bEs (σ:=fun _=> .unset) Try.underlying22 (hval 0 22 v0 rfl rfl) (iC Try.underlying22 c5 Try.underlying5) h0
 refine(bAx (args:=[.sl x0.length (c8 x0)]) dNs rfl (fun i hi=>?_) ?_).mono fun e W' ⟨he,hw⟩=>⟨_,he,aZq bLx (by kernel_rfl) rfl Try.underlying4 rfl rfl hW' hw⟩
 ·match i,hi with
  |0,_=>exact r0
 ·show aK (cI (c8 x0)) _=_
  rw[iA,aX,cU _ ⟨rfl,hx0⟩]
theorem journalSums_holds:Rows.JournalSumsSaid:=
 OpenClaim.holds_of_wide 3 Try.f3 rfl rfl rfl rfl rfl rfl rfl ⟨rfl,rfl,rfl,rfl,rfl⟩ rfl rfl rfl rfl rfl (by kernel_rfl) Try.func3 (by kernel_rfl)
  (of_decide_eq_true (by kernel_rfl)) (by unfold Func.isWrapper;first|(rw[J4 (by decide+kernel)];kernel_rfl)|(rw[J3 (by decide+kernel)];exact⟨rfl,rfl⟩))
  (fun os started H enc _=>dEx os started H enc)
end Go.Proofs.Ytojgbdpghlbagaa
