/-
  The given statement RollPlays: for every input the statement's function returns true, and the input reads as it did; the listed variable is tied to the program's text.
-/
import Derived.Test.YthemkfbedajmpaaGreatDoorBC
import Derived.Test.YthemkfbedajmpaaGreatDoorBG
namespace Go.Proofs.YthemkfbedajmpaaGreatDoor
open Go Go.AX Go.Proofs Go.RowKit Go.WideShapes Go.ChangeShapes
def dDb:Nat→AV→Prop
 |0=>fun y=> ∃n:Int,y=.i n∧ -9223372036854775808≤n∧n≤9223372036854775807
 |1=>fun y=> ∃n:Int,y=.i n∧ -9223372036854775808≤n∧n≤9223372036854775807
 |2=>fun y=> ∃b:W32,y=.w32 b
 |_=>fun y=> ∃b:B8,y=.w8 b
theorem cEh: ∀ {r:List AV},(r.length=5∧∀i,i<5→dDb i (r.getD i .junk))→∃a,r=yO a
 |[a,b,c,d,e],h=>by
  obtain⟨x0,e0,_⟩:=h.2 0 (by decide)
  obtain⟨x1,e1,_⟩:=h.2 1 (by decide)
  obtain⟨x2,e2⟩:=h.2 2 (by decide)
  obtain⟨x3,e3⟩:=h.2 3 (by decide)
  obtain⟨x4,e4⟩:=h.2 4 (by decide)
  have e0:a=.i x0:=e0
  have e1:b=.i x1:=e1
  have e2:c=.w32 x2:=e2
  have e3:d=.w8 x3:=e3
  have e4:e=.w8 x4:=e4
  subst e0 e1 e2 e3 e4
  exact⟨⟨x0,x1,x2,x3,x4⟩,rfl⟩
 |[],h=>by cases h.1
 |[_],h=>by cases h.1
 |[_,_],h=>by cases h.1
 |[_,_,_],h=>by cases h.1
 |[_,_,_,_],h=>by cases h.1
 |_::_::_::_::_::_::_,h=>by have:=h.1;simp at this
theorem c37a:Tryz.prog.cellsOf 37=5:=by kernel_rfl
theorem c3a:Tryz.prog.cellsOf 3=1:=by kernel_rfl
theorem c23a:Tryz.prog.cellsOf 23=1:=by kernel_rfl
theorem c5a:Tryz.prog.cellsOf 5=1:=by kernel_rfl
theorem aRp {H:Type} {enc:TypeId×Value→H} {W:World} {σ:Nat→AX.Loc}:nQ enc Tryz.prog W σ 24 (fun y=> ∃rows:List (List AV),y=.sl rows.length rows.flatten∧(∀r∈rows,r.length=5∧∀i,i<5→dDb i (r.getD i .junk))∧rows.length≤9223372036854775807):=by
 refine aEe Tryz.underlying24 Tryz.underlying37 rfl c37a (by decide) fun i f hf=>?_
 obtain⟨h,e⟩:=Array.getElem?_eq_some_iff.1 hf
 have h5:i<5:=h
 clear hf
 rcases(by omega:i=0∨i=1∨i=2∨i=3∨i=4)with rfl|rfl|rfl|rfl|rfl<;>subst e
 ·exact⟨rfl,c3a,aGe Tryz.underlying3⟩
 ·exact⟨rfl,c3a,aGe Tryz.underlying3⟩
 ·exact⟨rfl,c23a,gV Tryz.underlying23⟩
 ·exact⟨rfl,c5a,vX Tryz.underlying5⟩
 exact⟨rfl,c5a,vX Tryz.underlying5⟩
set_option maxRecDepth 100000 in
theorem dDr (os:Os) (started:os.Started) (H:Type) (enc:TypeId×Value→H):
  ReturnsInHanded {} Tryz.checked os 3 .any (fun w args=>(Rows.rollPlaysSpec.pre enc Tryz.prog Tryz.f3 [] false w args∧laidMetH Tryz.prog aGw w)∧sizedMet enc Tryz.prog Tryz.f3 (OpenSpec.ofChange Rows.rollPlaysSpec) false w args)
   (Rows.rollPlaysSpec.post enc Tryz.prog Tryz.f3 false true false false):=by
 refine returnsInHanded_of_change_and (C:=Tryz.checked) (X:=fun w _=>laidMetH Tryz.prog aGw w) (fun _ _ _ hh h=>h.of_heap hh) ownT started (by kernel_rfl) Tryz.func3
  (ChangeSpec.witness_shaped (enc:=enc) (C:=Tryz.checked) (os:=os) (X:=fun w _=>laidMetH Tryz.prog aGw w) false (World.doorLaid Tryz.prog 400 os) #[.int .u16 0,.int .u32 0,.slice none 0 0] 8 rfl (World.shaped_of_RefB (by kernel_rfl) (by kernel_rfl)) (by kernel_rfl) (by kernel_rfl) (by kernel_rfl) (bOb os _)) ?_
 intro W base args ds gs before hval0 hW _ _ hL _
 have hval: ∀(j:Nat) t v,Tryz.f3.params[j]? =some t→args[j]? =some v→Value.okWide Tryz.prog W .any base t v:=hval0
 have hW':=hW
 obtain⟨p,q,hA0,hV,rfl,hfz,hnd⟩:=hW
 have hA:DataW.TrodAll enc Tryz.prog W 0 (fun _=>true) true Tryz.f3.params.toList args.toList ds p:=hA0
 rw[Tryz.params3]at hA hval
 obtain⟨v0,v1,v2,d0,d1,d2,p0,p1,p2,rfl,rfl,rfl,h0,h1,h2⟩:=trodAll_three hA
 obtain⟨rfl,rfl⟩:=trodVars_none hV
 obtain⟨_,⟨x0,rfl⟩,r0⟩:=cDy (σ:=fun _=> .unset) Tryz.underlying22 (hval 0 22 v0 rfl rfl) (aZu Tryz.underlying22) h0
 obtain⟨_,⟨x1,rfl⟩,r1⟩:=cDy (σ:=fun _=> .unset) Tryz.underlying23 (hval 1 23 v1 rfl rfl) (gV Tryz.underlying23) h1
 obtain⟨_,⟨x2r,rfl,hx2⟩,r2⟩:=bEs (σ:=fun _=> .unset) Tryz.underlying24 (hval 2 24 v2 rfl rfl) aRp h2
 obtain⟨x2,rfl⟩:=aVg (f:=yO) fun r hr=>cEh (hx2.1 r hr)
 refine(bAx (args:=[.w16 x0,.w32 x1,.sl (x2.map yO).length (x2.map yO).flatten]) dEb hL rfl (fun i hi=>?_) ?_).mono fun e W' ⟨he,hw⟩=>⟨_,he,aZq bLx (by kernel_rfl) rfl Tryz.underlying4 rfl rfl hW' hw⟩
 ·match i,hi with
  |0,_=>exact r0
  |1,_=>exact r1
  |2,_=>exact r2
 ·exact dEc x0 x1 x2
theorem rollPlays_said:Rows.RollPlaysSaid:=
 OpenClaim.holds_of_wide 3 Tryz.f3 rfl rfl rfl rfl rfl rfl rfl ⟨rfl,rfl,rfl,rfl,rfl⟩ rfl rfl rfl rfl rfl (by kernel_rfl) Tryz.func3 (by kernel_rfl)
  (of_decide_eq_true (by kernel_rfl)) (by unfold Func.isWrapper;first|(rw[J4 (by decide+kernel)];kernel_rfl)|(rw[J3 (by decide+kernel)];exact⟨rfl,rfl⟩))
  (fun os started H enc _=>dDr os started H enc)
theorem rollPlays_holds:Rows.RollPlaysCardSaid:=
 Claim7.holds_tied_plain_at .later [] [.data] true (true, "c56eb619c08e04adb1d5a837e98ebb474dff1b4cf05d204b16086178a89c7bbc") false
  rollPlays_said (fun _ h=>by cases h) (by kernel_rfl) (fun _ h=>by cases h) rollPlays_row_tie rfl ⟨rfl,rfl⟩ (by kernel_rfl) rfl
  (fun f fn hf hfn=>by
   obtain rfl : f = 3 := J0 ((show Tryz.prog.funcNamed "signet/signetlaw21.RollPlays" = some 3 by kernel_rfl).symm.trans hf) |>.symm
   obtain rfl:fn=Tryz.f3:=(J0 (Tryz.func3.symm.trans hfn)).symm
   exact⟨by kernel_rfl,fun j t ht=>by
    rw[Tryz.params3]at ht
    have hm:t∈[22,23,24]:=by simpa using Array.mem_of_getElem? ht
    have hall:([22,23,24].all fun u=> !Tryz.prog.wantsStandIn u)=true:=by kernel_rfl
    exact(show Tryz.prog.wantsStandIn t=false by simpa using List.all_eq_true.1 hall t hm)⟩)
  (by kernel_rfl)
end Go.Proofs.YthemkfbedajmpaaGreatDoor
