/-
  The given statement KeysPlay: for every input the statement's function returns true, and the input reads as it did; the listed variable is tied to the program's text.
-/
import Derived.Test.YtkpgebeipmedeaaDoorBC
import Derived.Test.YtkpgebeipmedeaaDoorBG
namespace Go.Proofs.YtkpgebeipmedeaaDoor
open Go Go.AX Go.Proofs Go.RowKit Go.WideShapes Go.ChangeShapes
def dDb:Nat→AV→Prop
 |0=>fun y=> ∃n:Int,y=.i n∧ -9223372036854775808≤n∧n≤9223372036854775807
 |1=>fun y=> ∃n:Int,y=.i n∧ -9223372036854775808≤n∧n≤9223372036854775807
 |2=>fun y=> ∃n:Int,y=.i n∧ -9223372036854775808≤n∧n≤9223372036854775807
 |3=>fun y=> ∃b:W32,y=.w32 b
 |4=>fun y=> ∃b:W32,y=.w32 b
 |5=>fun y=> ∃b:B8,y=.w8 b
 |_=>fun y=> ∃x:List (BitVec 8),y=.sl x.length (c8 x)∧x.length≤9223372036854775807
theorem cEh: ∀ {r:List AV},(r.length=7∧∀i,i<7→dDb i (r.getD i .junk))→∃a:ACT,r=yO a∧a.x.length≤9223372036854775807
 |[a,b,c,d,e,f,g],h=>by
  obtain⟨x0,e0,_⟩:=h.2 0 (by decide)
  obtain⟨x1,e1,_⟩:=h.2 1 (by decide)
  obtain⟨x2,e2,_⟩:=h.2 2 (by decide)
  obtain⟨x3,e3⟩:=h.2 3 (by decide)
  obtain⟨x4,e4⟩:=h.2 4 (by decide)
  obtain⟨x5,e5⟩:=h.2 5 (by decide)
  obtain⟨x6,e6,h6⟩:=h.2 6 (by decide)
  have e0:a=.i x0:=e0
  have e1:b=.i x1:=e1
  have e2:c=.i x2:=e2
  have e3:d=.w32 x3:=e3
  have e4:e=.w32 x4:=e4
  have e5:f=.w8 x5:=e5
  have e6:g=.sl x6.length (c8 x6):=e6
  subst e0 e1 e2 e3 e4 e5 e6
  exact⟨⟨x0,x1,x2,x3,x4,x5,x6⟩,rfl,h6⟩
 |[],h=>by cases h.1
 |[_],h=>by cases h.1
 |[_,_],h=>by cases h.1
 |[_,_,_],h=>by cases h.1
 |[_,_,_,_],h=>by cases h.1
 |[_,_,_,_,_],h=>by cases h.1
 |[_,_,_,_,_,_],h=>by cases h.1
 |_::_::_::_::_::_::_::_::_,h=>by have:=h.1;simp at this
theorem dVe: ∀ {rows:List (List AV)},(∀r∈rows,∃a:ACT,r=yO a∧a.x.length≤9223372036854775807)→∃l:List ACT,rows=l.map yO∧∀a∈l,a.x.length≤9223372036854775807
 |[],_=>⟨[],rfl,by simp⟩
 |r::rs,h=>by
  obtain⟨a,rfl,ha⟩:=h r (by simp)
  obtain⟨l,rfl,hl⟩:=dVe (rows:=rs) (fun q hq=>h q (by simp[hq]))
  exact⟨a::l,rfl,fun b hb=>by rcases List.mem_cons.1 hb with rfl|hb;exact ha;exact hl b hb⟩
theorem c64a:Tryd.prog.cellsOf 64=7:=by kernel_rfl
theorem c3a:Tryd.prog.cellsOf 3=1:=by kernel_rfl
theorem eKe:Tryd.prog.cellsOf 29=1:=by kernel_rfl
theorem c5a:Tryd.prog.cellsOf 5=1:=by kernel_rfl
theorem c23a:Tryd.prog.cellsOf 23=1:=by kernel_rfl
theorem aRp {H:Type} {enc:TypeId×Value→H} {W:World} {σ:Nat→AX.Loc}:nQ enc Tryd.prog W σ 53 (fun y=> ∃rows:List (List AV),y=.sl rows.length rows.flatten∧(∀r∈rows,r.length=7∧∀i,i<7→dDb i (r.getD i .junk))∧rows.length≤9223372036854775807):=by
 refine aEe Tryd.underlying53 Tryd.underlying64 rfl c64a (by decide) fun i f hf=>?_
 obtain⟨h,e⟩:=Array.getElem?_eq_some_iff.1 hf
 have h5:i<7:=h
 clear hf
 rcases(by omega:i=0∨i=1∨i=2∨i=3∨i=4∨i=5∨i=6)with rfl|rfl|rfl|rfl|rfl|rfl|rfl<;>subst e
 ·exact⟨rfl,c3a,aGe Tryd.underlying3⟩
 ·exact⟨rfl,c3a,aGe Tryd.underlying3⟩
 ·exact⟨rfl,c3a,aGe Tryd.underlying3⟩
 ·exact⟨rfl,eKe,gV Tryd.underlying29⟩
 ·exact⟨rfl,eKe,gV Tryd.underlying29⟩
 ·exact⟨rfl,c5a,vX Tryd.underlying5⟩
 exact⟨rfl,c23a,iC Tryd.underlying23 c5 Tryd.underlying5⟩
theorem eIc {A:List ACT} (h: ∀a∈A,a.x.length≤9223372036854775807) (h2:A.length≤9223372036854775807):eHf [.sl (A.map yO).length (A.map yO).flatten]=some (.b true):=by
 rw[aHv,List.length_map]
 show aK (eFo (mN A)) _=_
 rw[eFk h,aX,cU _ ⟨rfl,h2⟩]
set_option maxRecDepth 100000 in
theorem eEy (os:Os) (started:os.Started) (H:Type) (enc:TypeId×Value→H):
  ReturnsInHanded {} Tryd.checked os 5 .any (fun w args=>(Rows.keysPlaySpec.pre enc Tryd.prog Tryd.f5 [] false w args∧laidMetH Tryd.prog aGw w)∧sizedMet enc Tryd.prog Tryd.f5 (OpenSpec.ofChange Rows.keysPlaySpec) false w args)
   (Rows.keysPlaySpec.post enc Tryd.prog Tryd.f5 false true false false):=by
 refine returnsInHanded_of_change_and (C:=Tryd.checked) (X:=fun w _=>laidMetH Tryd.prog aGw w) (fun _ _ _ hh h=>h.of_heap hh) ownT started (by kernel_rfl) Tryd.func5
  (ChangeSpec.witness_shaped (enc:=enc) (C:=Tryd.checked) (os:=os) (X:=fun w _=>laidMetH Tryd.prog aGw w) false (World.doorLaid Tryd.prog 400 os) #[.slice none 0 0] 8 rfl (World.shaped_of_RefB (by kernel_rfl) (by kernel_rfl)) (by kernel_rfl) (by kernel_rfl) (by kernel_rfl) (bOb os _)) ?_
 intro W base args ds gs before hval0 hW _ _ hL _
 have hval: ∀(j:Nat) t v,Tryd.f5.params[j]? =some t→args[j]? =some v→Value.okWide Tryd.prog W .any base t v:=hval0
 have hW':=hW
 obtain⟨p,q,hA0,hV,rfl,hfz,hnd⟩:=hW
 have hA:DataW.TrodAll enc Tryd.prog W 0 (fun _=>true) true Tryd.f5.params.toList args.toList ds p:=hA0
 rw[Tryd.params5]at hA hval
 obtain⟨v0,d0,rfl,rfl,h0⟩:=trodAll_one hA
 obtain⟨rfl,rfl⟩:=trodVars_none hV
 obtain⟨_,⟨x0r,rfl,hx0⟩,r0⟩:=bEs (σ:=fun _=> .unset) Tryd.underlying53 (hval 0 53 v0 rfl rfl) aRp h0
 obtain⟨x0,rfl,hx0l⟩:=dVe fun r hr=>cEh (hx0.1 r hr)
 refine(bAx (args:=[.sl (x0.map yO).length (x0.map yO).flatten]) eIg hL rfl (fun i hi=>?_) ?_).mono fun e W' ⟨he,hw⟩=>⟨_,he,aZq bLx (by kernel_rfl) rfl Tryd.underlying4 rfl rfl hW' hw⟩
 ·match i,hi with
  |0,_=>exact r0
 ·exact eIc hx0l (by simpa using hx0.2)
theorem keysPlay_said:Rows.KeysPlaySaid:=
 OpenClaim.holds_of_wide 5 Tryd.f5 rfl rfl rfl rfl rfl rfl rfl ⟨rfl,rfl,rfl,rfl,rfl⟩ rfl rfl rfl rfl rfl (by kernel_rfl) Tryd.func5 (by kernel_rfl)
  (of_decide_eq_true (by kernel_rfl)) (by unfold Func.isWrapper;first|(rw[J4 (by decide+kernel)];kernel_rfl)|(rw[J3 (by decide+kernel)];exact⟨rfl,rfl⟩))
  (fun os started H enc _=>eEy os started H enc)
theorem keysPlay_holds:Rows.KeysPlayCardSaid:=
 Claim7.holds_tied_plain_at .later [] [.data] true (true, "998bdc4ebad5dbb3efd85554324391f5a4e46f7041d26308082db21264274161") false
  keysPlay_said (fun _ h=>by cases h) (by kernel_rfl) (fun _ h=>by cases h) keysPlay_row_tie rfl ⟨rfl,rfl⟩ (by kernel_rfl) rfl
  (fun f fn hf hfn=>by
   obtain rfl : f = 5 := J0 ((show Tryd.prog.funcNamed "signet/signetlaw20.KeysPlay" = some 5 by kernel_rfl).symm.trans hf) |>.symm
   obtain rfl:fn=Tryd.f5:=(J0 (Tryd.func5.symm.trans hfn)).symm
   exact⟨by kernel_rfl,fun j t ht=>by
    rw[Tryd.params5]at ht
    have hm:t∈[53]:=by simpa using Array.mem_of_getElem? ht
    have hall:([53].all fun u=> !Tryd.prog.wantsStandIn u)=true:=by kernel_rfl
    exact(show Tryd.prog.wantsStandIn t=false by simpa using List.all_eq_true.1 hall t hm)⟩)
  (by kernel_rfl)
end Go.Proofs.YtkpgebeipmedeaaDoor
