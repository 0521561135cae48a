/-
  The given statement WireCuts: for every input the statement's function returns true, and the input reads as it did.
-/
import Derived.Test.YtbhlbggocbhecaaGreatBD
import Derived.Test.YtbhlbggocbhecaaGreatBG
namespace Go.Proofs.YtbhlbggocbhecaaGreat
open Go Go.AX Go.Proofs Go.RowKit Go.WideShapes Go.ChangeShapes
theorem gIw (M:MD) (k:Int) (x:B8):wcG [.agg (mdA M),.i k,.w8 x]=some (.b true):=by
 show aK (fJd (mdA M)) _=_
 rw[fLx];rfl
set_option maxRecDepth 100000 in
theorem gAh (os:Os) (started:os.Started) (H:Type) (enc:TypeId×Value→H):
  ReturnsInHanded {} Tryz.checked os 4 .any (Rows.wireCutsSpec.pre6 enc Tryz.prog Tryz.f4 Rows.wireCutsRow.domain false)
   (Rows.wireCutsSpec.post enc Tryz.prog Tryz.f4 false true false false):=by
 refine returnsInHanded_of_change (C:=Tryz.checked) ownT started (by kernel_rfl) Tryz.func4
  (ChangeSpec.witness6 (enc:=enc) (C:=Tryz.checked) false ⟨#[],#[.agg #[.int .u16 0,.bool false,.int .i64 0,.bool false,.bool false,.bool false,.bool false,.int .i64 0,.slice none 0 0,.slice none 0 0,.slice none 0 0,.slice none 0 0,.bool false,.int .u16 0,.bool false],.int .i64 0,.int .u8 0],[]⟩ 8 (by kernel_rfl) (by kernel_rfl) (by kernel_rfl) (by kernel_rfl)) ?_
 intro W base args ds gs before hval0 hW _ _
 have hval: ∀(j:Nat) t v,Tryz.f4.params[j]? =some t→args[j]? =some v→Value.okWide Tryz.prog W .any base t v:=hval0
 have hW':=hW
 obtain⟨p,q,hA0,hV,rfl,hfz,hnd⟩:=hW
 have hA:DataW.TrodAll enc Tryz.prog W 0 (fun _=>true) true Tryz.f4.params.toList args.toList ds p:=hA0
 rw[Tryz.params4]at hA hval
 obtain⟨v0,v1,v2,d0,d1,d2,p0,p1,p2,rfl,rfl,rfl,h0,h1,h2⟩:=trodAll_three hA
 obtain⟨rfl,rfl⟩:=trodVars_none hV
 obtain⟨x0,r0⟩:=gGi (σ:=fun _=> .unset) (hval 0 28 v0 rfl rfl) h0
 obtain⟨_,⟨x1,rfl,hx1⟩,r1⟩:=cDy (σ:=fun _=> .unset) Tryz.underlying3 (hval 1 3 v1 rfl rfl) (aGe Tryz.underlying3) h1
 obtain⟨_,⟨x2,rfl⟩,r2⟩:=cDy (σ:=fun _=> .unset) Tryz.underlying5 (hval 2 5 v2 rfl rfl) (vX Tryz.underlying5) h2
 refine(bAx (args:=[.agg (mdA x0),.i x1,.w8 x2]) gIv rfl (fun i hi=>?_) ?_).mono fun e W' ⟨he,hw⟩=>⟨_,he,aZq bLx (by kernel_rfl) rfl Tryz.underlying4 rfl rfl hW' hw⟩
 ·match i,hi with
  |0,_=>exact r0
  |1,_=>exact r1
  |2,_=>exact r2
 exact gIw x0 x1 x2
theorem wireCuts_holds:Rows.WireCutsSaid:=
 OpenClaim.holds_of_wide 4 Tryz.f4 rfl rfl rfl rfl rfl rfl rfl ⟨rfl,rfl,rfl,rfl,rfl⟩ rfl rfl rfl rfl rfl (by kernel_rfl) Tryz.func4 (by kernel_rfl)
  (of_decide_eq_true (by kernel_rfl)) (by unfold Func.isWrapper;first|(rw[J4 (by decide+kernel)];kernel_rfl)|(rw[J3 (by decide+kernel)];exact⟨rfl,rfl⟩))
  (fun os started H enc _=>gAh os started H enc)
end Go.Proofs.YtbhlbggocbhecaaGreat
