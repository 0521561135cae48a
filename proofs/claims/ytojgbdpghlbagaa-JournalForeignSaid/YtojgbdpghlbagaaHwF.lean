/-
  The given statement JournalForeign: for every input the statement's function returns true, and the input reads as it did.
-/
import Derived.Test.YtojgbdpghlbagaaBC
import Derived.Test.YtojgbdpghlbagaaBE
namespace Go.Proofs.Ytojgbdpghlbagaa
open Go Go.AX Go.Proofs Go.RowKit Go.WideShapes Go.ChangeShapes
section
variable {H : Type} {enc : TypeId × Value → H} {P : Program} {W : World} {σ : Nat → AX.Loc}
theorem dWz: ∀ {xs:List AV},(∀z∈xs,∃b:BitVec 16,z=.w16 b)→∃l:List (BitVec 16),xs=dWu l
 |[],_=>⟨[],rfl⟩
 |x::r,h=>by
  obtain⟨b,rfl⟩:=h x (by simp)
  obtain⟨l,hl⟩:=dWz (xs:=r) (fun z hz=>h z (by simp[hz]))
  exact⟨b::l,by rw[hl];rfl⟩
theorem dXb {t e:TypeId} (ht:P.underlying t=some (.slice e)) (hc:P.cellsOf e=1) (he:P.underlying e=some (.int .u16)):
  nQ enc P W σ t (fun y=> ∃l:List (BitVec 16),y=.sl l.length (dWu l)∧l.length≤9223372036854775807):=by
 intro m cs x h
 obtain⟨v,y,e1,⟨xs,rfl,hq,hlen⟩,h2,h3⟩:=zB ht hc (aZu he) m cs x h
 obtain⟨l,rfl⟩:=dWz hq
 rw[dWy]at hlen h3
 exact⟨v,_,e1,⟨l,rfl,hlen⟩,rfl,h3⟩
end
theorem c39a:Try.prog.cellsOf 39=1:=by kernel_rfl
theorem dXy (A:List (BitVec 16)) (x l:List (BitVec 8)) (h2:A.length≤9223372036854775807) (h3:x.length≤9223372036854775807) (h4:l.length≤9223372036854775807):
  frG [.sl A.length (dWu A),.sl x.length (c8 x),.sl l.length (c8 l)]=some (.b true):=by
 show aK (dXa (dWu A)) (fun A'=>aK (cI (c8 x)) fun x'=>aK (cI (c8 l)) fun l'=>aN ((A'.length=A.length∧A.length≤9223372036854775807)∧(x'.length=x.length∧x.length≤9223372036854775807)∧l'.length=l.length∧l.length≤9223372036854775807) (some (AV.b true)))=some (AV.b true)
 rw[dYf,aX,iA,aX,iA,aX,cU _ ⟨⟨rfl,h2⟩,⟨rfl,h3⟩,rfl,h4⟩]
set_option maxRecDepth 100000 in
theorem gK (os:Os) (started:os.Started) (H:Type) (enc:TypeId×Value→H):
  ReturnsInHanded {} Try.checked os 4 .any (Rows.journalForeignSpec.pre6 enc Try.prog Try.f4 Rows.journalForeignRow.domain false)
   (Rows.journalForeignSpec.post enc Try.prog Try.f4 false true false false):=by
 refine returnsInHanded_of_change (C:=Try.checked) ownT started (by kernel_rfl) Try.func4
  (ChangeSpec.witness6 (enc:=enc) (C:=Try.checked) false ⟨#[],#[.slice none 0 0,.slice none 0 0,.slice none 0 0],[]⟩ 8 (by kernel_rfl) (by kernel_rfl) (by kernel_rfl) (by kernel_rfl)) ?_
 intro W base args ds gs before hval0 hW _ _
 have hval: ∀(j:Nat) t v,Try.f4.params[j]? =some t→args[j]? =some v→Value.okWide Try.prog W .any base t v:=hval0
 have hW':=hW
 obtain⟨p,q,hA0,hV,rfl,hfz,hnd⟩:=hW
 have hA:DataW.TrodAll enc Try.prog W 0 (fun _=>true) true Try.f4.params.toList args.toList ds p:=hA0
 rw[Try.params4]at hA hval
 obtain⟨v0,v1,v2,d0,d1,d2,p0,p1,p2,rfl,rfl,rfl,h0,h1,h2⟩:=trodAll_three hA
 obtain⟨rfl,rfl⟩:=trodVars_none hV
 obtain⟨_,⟨x0,rfl,hx0⟩,r0⟩:=bEs (σ:=fun _=> .unset) Try.underlying27 (hval 0 27 v0 rfl rfl) (dXb Try.underlying27 c39a Try.underlying39) h0
 obtain⟨_,⟨x1,rfl,hx1⟩,r1⟩:=bEs (σ:=fun _=> .unset) Try.underlying22 (hval 1 22 v1 rfl rfl) (iC Try.underlying22 c5 Try.underlying5) h1
 obtain⟨_,⟨x2,rfl,hx2⟩,r2⟩:=bEs (σ:=fun _=> .unset) Try.underlying22 (hval 2 22 v2 rfl rfl) (iC Try.underlying22 c5 Try.underlying5) h2
 refine(bAx (args:=[.sl x0.length (dWu x0),.sl x1.length (c8 x1),.sl x2.length (c8 x2)]) dYx rfl (fun i hi=>?_) ?_).mono fun e W' ⟨he,hw⟩=>⟨_,he,aZq bLx (by kernel_rfl) rfl Try.underlying4 rfl rfl hW' hw⟩
 ·match i,hi with
  |0,_=>exact r0
  |1,_=>exact r1
  |2,_=>exact r2
 ·exact dXy x0 x1 x2 hx0 hx1 hx2
theorem journalForeign_holds:Rows.JournalForeignSaid:=
 OpenClaim.holds_of_wide 4 Try.f4 rfl rfl rfl rfl rfl rfl rfl ⟨rfl,rfl,rfl,rfl,rfl⟩ rfl rfl rfl rfl rfl (by kernel_rfl) Try.func4 (by kernel_rfl)
  (of_decide_eq_true (by kernel_rfl)) (by unfold Func.isWrapper;first|(rw[J4 (by decide+kernel)];kernel_rfl)|(rw[J3 (by decide+kernel)];exact⟨rfl,rfl⟩))
  (fun os started H enc _=>gK os started H enc)
end Go.Proofs.Ytojgbdpghlbagaa
