/-
  The given statement JournalFalls: for every input the statement's function returns true, and the input reads as it did.
-/
import Derived.Test.YtojgbdpghlbagaaBD
namespace Go.Proofs.Ytojgbdpghlbagaa
open Go Go.AX Go.Proofs Go.RowKit Go.WideShapes Go.ChangeShapes
section
variable {H : Type} {enc : TypeId × Value → H} {P : Program} {W : World} {σ : Nat → AX.Loc}
theorem dWh: ∀ {xs:List AV},(∀z∈xs,∃b:BitVec 64,z=.w64 b)→∃l:List (BitVec 64),xs=dWc l
 |[],_=>⟨[],rfl⟩
 |x::r,h=>by
  obtain⟨b,rfl⟩:=h x (by simp)
  obtain⟨l,hl⟩:=dWh (xs:=r) (fun z hz=>h z (by simp[hz]))
  exact⟨b::l,by rw[hl];rfl⟩
theorem dWj {t e:TypeId} (ht:P.underlying t=some (.slice e)) (hc:P.cellsOf e=1) (he:P.underlying e=some (.int .u64)):
  nQ enc P W σ t (fun y=> ∃l:List (BitVec 64),y=.sl l.length (dWc l)∧l.length≤9223372036854775807):=by
 intro m cs x h
 obtain⟨v,y,e1,⟨xs,rfl,hq,hlen⟩,h2,h3⟩:=zB ht hc (dSh he) m cs x h
 obtain⟨l,rfl⟩:=dWh hq
 rw[dWg]at hlen h3
 exact⟨v,_,e1,⟨l,rfl,hlen⟩,rfl,h3⟩
end
theorem c43a:Try.prog.cellsOf 43=1:=by kernel_rfl
theorem dWm (n:BitVec 8) {A:List ACT} (h: ∀a∈A,a.2.length≤9223372036854775807) (h2:A.length≤9223372036854775807) (cu:List (BitVec 8)) (ke:List (BitVec 64)) (h3:cu.length≤9223372036854775807) (h4:ke.length≤9223372036854775807):
  faG [.w8 n,.sl (A.map yO).length (A.map yO).flatten,.sl cu.length (c8 cu),.sl ke.length (dWc ke)]=some (.b true):=by
 rw[aHv,List.length_map]
 show aK (unA (mN A)) (fun A'=>aK (cI (c8 cu)) fun cu'=>aK (dWi (dWc ke)) fun ke'=>aN ((A'.length=A.length∧A.length≤9223372036854775807)∧(cu'.length=cu.length∧cu.length≤9223372036854775807)∧ke'.length=ke.length∧ke.length≤9223372036854775807) (some (AV.b true)))=some (AV.b true)
 rw[dVh h,aX,iA,aX,dWq,aX,cU _ ⟨⟨rfl,h2⟩,⟨rfl,h3⟩,rfl,h4⟩]
set_option maxRecDepth 100000 in
theorem dWb (os:Os) (started:os.Started) (H:Type) (enc:TypeId×Value→H):
  ReturnsInHanded {} Try.checked os 8 .any (Rows.journalFallsSpec.pre6 enc Try.prog Try.f8 Rows.journalFallsRow.domain false)
   (Rows.journalFallsSpec.post enc Try.prog Try.f8 false true false false):=by
 refine returnsInHanded_of_change (C:=Try.checked) ownT started (by kernel_rfl) Try.func8
  (ChangeSpec.witness6 (enc:=enc) (C:=Try.checked) false ⟨#[],#[.int .u8 0,.slice none 0 0,.slice none 0 0,.slice none 0 0],[]⟩ 8 (by kernel_rfl) (by kernel_rfl) (by kernel_rfl) (by kernel_rfl)) ?_
 intro W base args ds gs before hval0 hW _ _
 have hval: ∀(j:Nat) t v,Try.f8.params[j]? =some t→args[j]? =some v→Value.okWide Try.prog W .any base t v:=hval0
 have hW':=hW
 obtain⟨p,q,hA0,hV,rfl,hfz,hnd⟩:=hW
 have hA:DataW.TrodAll enc Try.prog W 0 (fun _=>true) true Try.f8.params.toList args.toList ds p:=hA0
 rw[Try.params8]at hA hval
 obtain⟨v0,v1,v2,v3,d0,d1,d2,d3,p0,p1,p2,p3,rfl,rfl,rfl,h0,h1,h2,h3⟩:=trodAll_four hA
 obtain⟨rfl,rfl⟩:=trodVars_none hV
 obtain⟨_,⟨x0,rfl⟩,r0⟩:=cDy (σ:=fun _=> .unset) Try.underlying5 (hval 0 5 v0 rfl rfl) (vX Try.underlying5) h0
 obtain⟨_,⟨x1r,rfl,hx1⟩,r1⟩:=bEs (σ:=fun _=> .unset) Try.underlying49 (hval 1 49 v1 rfl rfl) aRp h1
 obtain⟨x1,rfl,hx1l⟩:=dVe fun r hr=>cEh (hx1.1 r hr)
 obtain⟨_,⟨x2,rfl,hx2⟩,r2⟩:=bEs (σ:=fun _=> .unset) Try.underlying22 (hval 2 22 v2 rfl rfl) (iC Try.underlying22 c5 Try.underlying5) h2
 obtain⟨_,⟨x3,rfl,hx3⟩,r3⟩:=bEs (σ:=fun _=> .unset) Try.underlying57 (hval 3 57 v3 rfl rfl) (dWj Try.underlying57 c43a Try.underlying43) h3
 refine(bAx (args:=[.w8 x0,.sl (x1.map yO).length (x1.map yO).flatten,.sl x2.length (c8 x2),.sl x3.length (dWc x3)]) dWr rfl (fun i hi=>?_) ?_).mono fun e W' ⟨he,hw⟩=>⟨_,he,aZq bLx (by kernel_rfl) rfl Try.underlying4 rfl rfl hW' hw⟩
 ·match i,hi with
  |0,_=>exact r0
  |1,_=>exact r1
  |2,_=>exact r2
  |3,_=>exact r3
 ·exact dWm x0 hx1l (by simpa using hx1.2) x2 x3 hx2 hx3
theorem journalFalls_holds:Rows.JournalFallsSaid:=
 OpenClaim.holds_of_wide 8 Try.f8 rfl rfl rfl rfl rfl rfl rfl ⟨rfl,rfl,rfl,rfl,rfl⟩ rfl rfl rfl rfl rfl (by kernel_rfl) Try.func8 (by kernel_rfl)
  (of_decide_eq_true (by kernel_rfl)) (by unfold Func.isWrapper;first|(rw[J4 (by decide+kernel)];kernel_rfl)|(rw[J3 (by decide+kernel)];exact⟨rfl,rfl⟩))
  (fun os started H enc _=>dWb os started H enc)
end Go.Proofs.Ytojgbdpghlbagaa
