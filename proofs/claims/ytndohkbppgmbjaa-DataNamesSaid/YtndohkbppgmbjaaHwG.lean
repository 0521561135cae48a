/-
  The given statement DataNames: for every input the statement's function returns true, and the input reads as it did.
-/
import Derived.Test.YtndohkbppgmbjaaBD
import Derived.Test.YtndohkbppgmbjaaBE
namespace Go.Proofs.Ytndohkbppgmbjaa
open Go Go.AX Go.Proofs Go.RowKit Go.WideShapes Go.ChangeShapes
theorem c9:Try.prog.cellsOf 9=1:=by kernel_rfl
theorem eZg {p q:Nm} (hp:p.length≤9223372036854775807∧∀l∈p,l.length≤9223372036854775807) (hq:q.length≤9223372036854775807∧∀l∈q,l.length≤9223372036854775807) (a:BitVec 16) (b:B8):dnG [.sl p.length (cS p),.sl q.length (cS q),.w16 a,.w8 b]=some (.b true):=by
 show aK (unS (cS p)) _=_
 rw[aQr,aX]
 show aK (unS (cS q)) _=_
 rw[aQr,aX,cU _ ⟨⟨rfl,hp⟩,⟨rfl,hq⟩⟩]
set_option maxRecDepth 100000 in
theorem eLw (os:Os) (started:os.Started) (H:Type) (enc:TypeId×Value→H):
  ReturnsInHanded {} Try.checked os 5 .any (Rows.dataNamesSpec.pre6 enc Try.prog Try.f5 Rows.dataNamesRow.domain false)
   (Rows.dataNamesSpec.post enc Try.prog Try.f5 false true false false):=by
 refine returnsInHanded_of_change (C:=Try.checked) ownT started (by kernel_rfl) Try.func5
  (ChangeSpec.witness6 (enc:=enc) (C:=Try.checked) false ⟨#[],#[.slice none 0 0,.slice none 0 0,.int .u16 0,.int .u8 0],[]⟩ 8 (by kernel_rfl) (by kernel_rfl) (by kernel_rfl) (by kernel_rfl)) ?_
 intro W base args ds gs before hval0 hW _ _
 have hval: ∀(j:Nat) t v,Try.f5.params[j]? =some t→args[j]? =some v→Value.okWide Try.prog W .any base t v:=hval0
 have hW':=hW
 obtain⟨p,q,hA0,hV,rfl,hfz,hnd⟩:=hW
 have hA:DataW.TrodAll enc Try.prog W 0 (fun _=>true) true Try.f5.params.toList args.toList ds p:=hA0
 rw[Try.params5]at hA hval
 obtain⟨v0,v1,v2,v3,d0,d1,d2,d3,p0,p1,p2,p3,rfl,rfl,rfl,h0,h1,h2,h3⟩:=trodAll_four hA
 obtain⟨rfl,rfl⟩:=trodVars_none hV
 obtain⟨_,⟨x0,rfl,hx0⟩,r0⟩:=bEs (σ:=fun _=> .unset) Try.underlying34 (hval 0 34 v0 rfl rfl) (eMg Try.underlying34 c9 Try.underlying9) h0
 obtain⟨_,⟨x1,rfl,hx1⟩,r1⟩:=bEs (σ:=fun _=> .unset) Try.underlying34 (hval 1 34 v1 rfl rfl) (eMg Try.underlying34 c9 Try.underlying9) h1
 obtain⟨_,⟨x2,rfl⟩,r2⟩:=cDy (σ:=fun _=> .unset) Try.underlying22 (hval 2 22 v2 rfl rfl) (aZu Try.underlying22) h2
 obtain⟨_,⟨x3,rfl⟩,r3⟩:=cDy (σ:=fun _=> .unset) Try.underlying5 (hval 3 5 v3 rfl rfl) (vX Try.underlying5) h3
 refine(bAx (args:=[.sl x0.length (cS x0),.sl x1.length (cS x1),.w16 x2,.w8 x3]) fGp rfl (fun i hi=>?_) ?_).mono fun e W' ⟨he,hw⟩=>⟨_,he,aZq bLx (by kernel_rfl) rfl Try.underlying4 rfl rfl hW' hw⟩
 ·match i,hi with
  |0,_=>exact r0
  |1,_=>exact r1
  |2,_=>exact r2
  |3,_=>exact r3
 ·exact eZg hx0 hx1 x2 x3
theorem dataNames_holds:Rows.DataNamesSaid:=
 OpenClaim.holds_of_wide 5 Try.f5 rfl rfl rfl rfl rfl rfl rfl ⟨rfl,rfl,rfl,rfl,rfl⟩ rfl rfl rfl rfl rfl (by kernel_rfl) Try.func5 (by kernel_rfl)
  (of_decide_eq_true (by kernel_rfl)) (by unfold Func.isWrapper;first|(rw[J4 (by decide+kernel)];kernel_rfl)|(rw[J3 (by decide+kernel)];exact⟨rfl,rfl⟩))
  (fun os started H enc _=>eLw os started H enc)
end Go.Proofs.Ytndohkbppgmbjaa
