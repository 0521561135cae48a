/-
  The given statement DiskPlays: for every input the statement's function returns true, and the input reads as it did.
-/
import Derived.Test.YtkpgebeipmedeaaBB
import Derived.Test.YtkpgebeipmedeaaBD
namespace Go.Proofs.Ytkpgebeipmedeaa
open Go Go.AX Go.Proofs Go.RowKit Go.WideShapes Go.ChangeShapes
def dDb:Nat→AV→Prop
 |0=>fun y=> ∃n:Int,y=.i n∧ -9223372036854775808≤n∧n≤9223372036854775807
 |1=>fun y=> ∃n:Int,y=.i n∧ -9223372036854775808≤n∧n≤9223372036854775807
 |2=>fun y=> ∃n:Int,y=.i n∧ -9223372036854775808≤n∧n≤9223372036854775807
 |3=>fun y=> ∃b:BitVec 64,y=.w64 b
 |_=>fun y=> ∃b:B8,y=.w8 b
theorem cEh: ∀ {r:List AV},(r.length=5∧∀i,i<5→dDb i (r.getD i .junk))→∃a,r=yO a
 |[a,b,c,d,e],h=>by
  obtain⟨x0,e0,_⟩:=h.2 0 (by decide)
  obtain⟨x1,e1,_⟩:=h.2 1 (by decide)
  obtain⟨x2,e2,_⟩:=h.2 2 (by decide)
  obtain⟨x3,e3⟩:=h.2 3 (by decide)
  obtain⟨x4,e4⟩:=h.2 4 (by decide)
  have e0:a=.i x0:=e0
  have e1:b=.i x1:=e1
  have e2:c=.i x2:=e2
  have e3:d=.w64 x3:=e3
  have e4:e=.w8 x4:=e4
  subst e0 e1 e2 e3 e4
  exact⟨⟨x0,x1,x2,x3,x4⟩,rfl⟩
 |[],h=>by cases h.1
 |[_],h=>by cases h.1
 |[_,_],h=>by cases h.1
 |[_,_,_],h=>by cases h.1
 |[_,_,_,_],h=>by cases h.1
 |_::_::_::_::_::_::_,h=>by have:=h.1;simp at this
theorem c44a:Try.prog.cellsOf 44=5:=by kernel_rfl
theorem c3a:Try.prog.cellsOf 3=1:=by kernel_rfl
theorem c28a:Try.prog.cellsOf 28=1:=by kernel_rfl
theorem c5a:Try.prog.cellsOf 5=1:=by kernel_rfl
theorem aRp {H:Type} {enc:TypeId×Value→H} {W:World} {σ:Nat→AX.Loc}:nQ enc Try.prog W σ 36 (fun y=> ∃rows:List (List AV),y=.sl rows.length rows.flatten∧(∀r∈rows,r.length=5∧∀i,i<5→dDb i (r.getD i .junk))∧rows.length≤9223372036854775807):=by
 refine aEe Try.underlying36 Try.underlying44 rfl c44a (by decide) fun i f hf=>?_
 obtain⟨h,e⟩:=Array.getElem?_eq_some_iff.1 hf
 have h5:i<5:=h
 clear hf
 rcases(by omega:i=0∨i=1∨i=2∨i=3∨i=4)with rfl|rfl|rfl|rfl|rfl<;>subst e
 ·exact⟨rfl,c3a,aGe Try.underlying3⟩
 ·exact⟨rfl,c3a,aGe Try.underlying3⟩
 ·exact⟨rfl,c3a,aGe Try.underlying3⟩
 ·exact⟨rfl,c28a,dSh Try.underlying28⟩
 exact⟨rfl,c5a,vX Try.underlying5⟩
theorem eAl (a b:Int) (A:List ACT) (h:A.length≤9223372036854775807):eAw [.i a,.i b,.sl (A.map yO).length (A.map yO).flatten]=some (.b true):=by
 rw[aHv,List.length_map]
 show aK (unA (mN A)) (fun A'=>aN (A'.length=A.length∧A.length≤9223372036854775807) (some (AV.b true)))=some (AV.b true)
 rw[dVh,aX,cU _ ⟨rfl,h⟩]
set_option maxRecDepth 100000 in
theorem dZn (os:Os) (started:os.Started) (H:Type) (enc:TypeId×Value→H):
  ReturnsInHanded {} Try.checked os 5 .any (Rows.diskPlaysSpec.pre6 enc Try.prog Try.f5 Rows.diskPlaysRow.domain false)
   (Rows.diskPlaysSpec.post enc Try.prog Try.f5 false true false false):=by
 refine returnsInHanded_of_change (C:=Try.checked) ownT started (by kernel_rfl) Try.func5
  (ChangeSpec.witness6 (enc:=enc) (C:=Try.checked) false ⟨#[],#[.int .i64 0,.int .i64 0,.slice none 0 0],[]⟩ 8 (by kernel_rfl) (by kernel_rfl) (by kernel_rfl) (by kernel_rfl)) ?_
 intro W base args ds gs before hval0 hW _ _
 have hval: ∀(j:Nat) t v,Try.f5.params[j]? =some t→args[j]? =some v→Value.okWide Try.prog W .any base t v:=hval0
 have hW':=hW
 obtain⟨p,q,hA0,hV,rfl,hfz,hnd⟩:=hW
 have hA:DataW.TrodAll enc Try.prog W 0 (fun _=>true) true Try.f5.params.toList args.toList ds p:=hA0
 rw[Try.params5]at hA hval
 obtain⟨v0,v1,v2,d0,d1,d2,p0,p1,p2,rfl,rfl,rfl,h0,h1,h2⟩:=trodAll_three hA
 obtain⟨rfl,rfl⟩:=trodVars_none hV
 obtain⟨_,⟨x0,rfl,hx0⟩,r0⟩:=cDy (σ:=fun _=> .unset) Try.underlying3 (hval 0 3 v0 rfl rfl) (aGe Try.underlying3) h0
 obtain⟨_,⟨x1,rfl,hx1⟩,r1⟩:=cDy (σ:=fun _=> .unset) Try.underlying3 (hval 1 3 v1 rfl rfl) (aGe Try.underlying3) h1
 obtain⟨_,⟨x2r,rfl,hx2⟩,r2⟩:=bEs (σ:=fun _=> .unset) Try.underlying36 (hval 2 36 v2 rfl rfl) aRp h2
 obtain⟨x2,rfl⟩:=aVg (f:=yO) fun r hr=>cEh (hx2.1 r hr)
 refine(bAx (args:=[.i x0,.i x1,.sl (x2.map yO).length (x2.map yO).flatten]) eBr rfl (fun i hi=>?_) ?_).mono fun e W' ⟨he,hw⟩=>⟨_,he,aZq bLx (by kernel_rfl) rfl Try.underlying4 rfl rfl hW' hw⟩
 ·match i,hi with
  |0,_=>exact r0
  |1,_=>exact r1
  |2,_=>exact r2
 ·exact eAl x0 x1 x2 (by simpa using hx2.2)
theorem diskPlays_holds:Rows.DiskPlaysSaid:=
 OpenClaim.holds_of_wide 5 Try.f5 rfl rfl rfl rfl rfl rfl rfl ⟨rfl,rfl,rfl,rfl,rfl⟩ rfl rfl rfl rfl rfl (by kernel_rfl) Try.func5 (by kernel_rfl)
  (of_decide_eq_true (by kernel_rfl)) (by unfold Func.isWrapper;first|(rw[J4 (by decide+kernel)];kernel_rfl)|(rw[J3 (by decide+kernel)];exact⟨rfl,rfl⟩))
  (fun os started H enc _=>dZn os started H enc)
end Go.Proofs.Ytkpgebeipmedeaa
