/-
  The given statement JournalKeeps: for every input the statement's function returns true, and the input reads as it did.
-/
import Derived.Test.YtojgbdpghlbagaaBC
import Derived.Test.YtojgbdpghlbagaaBD
namespace Go.Proofs.Ytojgbdpghlbagaa
open Go Go.AX Go.Proofs Go.RowKit Go.WideShapes Go.ChangeShapes
def dDb:Nat→AV→Prop
 |0=>fun y=> ∃n:Int,y=.i n∧ -9223372036854775808≤n∧n≤9223372036854775807
 |_=>fun y=> ∃x:List (BitVec 8),y=.sl x.length (c8 x)∧x.length≤9223372036854775807
theorem cEh: ∀ {r:List AV},(r.length=2∧∀i,i<2→dDb i (r.getD i .junk))→∃a:ACT,r=yO a∧a.2.length≤9223372036854775807
 |[a,b],h=>by
  obtain⟨x0,e0,_⟩:=h.2 0 (by decide)
  obtain⟨x1,e1,h1⟩:=h.2 1 (by decide)
  have e0:a=.i x0:=e0
  have e1:b=.sl x1.length (c8 x1):=e1
  subst e0 e1
  exact⟨⟨x0,x1⟩,rfl,h1⟩
 |[],h=>by cases h.1
 |[_],h=>by cases h.1
 |_::_::_::_,h=>by have:=h.1;simp at this
theorem dVe: ∀ {rows:List (List AV)},(∀r∈rows,∃a:ACT,r=yO a∧a.2.length≤9223372036854775807)→∃l:List ACT,rows=l.map yO∧∀a∈l,a.2.length≤9223372036854775807
 |[],_=>⟨[],rfl,by simp⟩
 |r::rs,h=>by
  obtain⟨a,rfl,ha⟩:=h r (by simp)
  obtain⟨l,rfl,hl⟩:=dVe (rows:=rs) (fun q hq=>h q (by simp[hq]))
  exact⟨a::l,rfl,fun b hb=>by rcases List.mem_cons.1 hb with rfl|hb;exact ha;exact hl b hb⟩
theorem c53a:Try.prog.cellsOf 53=2:=by kernel_rfl
theorem c3a:Try.prog.cellsOf 3=1:=by kernel_rfl
theorem c22a:Try.prog.cellsOf 22=1:=by kernel_rfl
theorem aRp {H:Type} {enc:TypeId×Value→H} {W:World} {σ:Nat→AX.Loc}:nQ enc Try.prog W σ 49 (fun y=> ∃rows:List (List AV),y=.sl rows.length rows.flatten∧(∀r∈rows,r.length=2∧∀i,i<2→dDb i (r.getD i .junk))∧rows.length≤9223372036854775807):=by
 refine aEe Try.underlying49 Try.underlying53 rfl c53a (by decide) fun i f hf=>?_
 obtain⟨h,e⟩:=Array.getElem?_eq_some_iff.1 hf
 have h5:i<2:=h
 clear hf
 rcases(by omega:i=0∨i=1)with rfl|rfl<;>subst e
 ·exact⟨rfl,c3a,aGe Try.underlying3⟩
 exact⟨rfl,c22a,iC Try.underlying22 c5 Try.underlying5⟩
theorem dVt (n:BitVec 8) {A:List ACT} (h: ∀a∈A,a.2.length≤9223372036854775807) (h2:A.length≤9223372036854775807):keG [.w8 n,.sl (A.map yO).length (A.map yO).flatten]=some (.b true):=by
 rw[aHv,List.length_map]
 show aK (unA (mN A)) _=_
 rw[dVh h,aX,cU _ ⟨rfl,h2⟩]
set_option maxRecDepth 100000 in
theorem dVc (os:Os) (started:os.Started) (H:Type) (enc:TypeId×Value→H):
  ReturnsInHanded {} Try.checked os 7 .any (Rows.journalKeepsSpec.pre6 enc Try.prog Try.f7 Rows.journalKeepsRow.domain false)
   (Rows.journalKeepsSpec.post enc Try.prog Try.f7 false true false false):=by
 refine returnsInHanded_of_change (C:=Try.checked) ownT started (by kernel_rfl) Try.func7
  (ChangeSpec.witness6 (enc:=enc) (C:=Try.checked) false ⟨#[],#[.int .u8 0,.slice none 0 0],[]⟩ 8 (by kernel_rfl) (by kernel_rfl) (by kernel_rfl) (by kernel_rfl)) ?_
 intro W base args ds gs before hval0 hW _ _
 have hval: ∀(j:Nat) t v,Try.f7.params[j]? =some t→args[j]? =some v→Value.okWide Try.prog W .any base t v:=hval0
 have hW':=hW
 obtain⟨p,q,hA0,hV,rfl,hfz,hnd⟩:=hW
 have hA:DataW.TrodAll enc Try.prog W 0 (fun _=>true) true Try.f7.params.toList args.toList ds p:=hA0
 rw[Try.params7]at hA hval
 obtain⟨v0,v1,d0,d1,p0,p1,rfl,rfl,rfl,h0,h1⟩:=trodAll_two hA
 obtain⟨rfl,rfl⟩:=trodVars_none hV
 obtain⟨_,⟨x0,rfl⟩,r0⟩:=cDy (σ:=fun _=> .unset) Try.underlying5 (hval 0 5 v0 rfl rfl) (vX Try.underlying5) h0
 obtain⟨_,⟨x1r,rfl,hx1⟩,r1⟩:=bEs (σ:=fun _=> .unset) Try.underlying49 (hval 1 49 v1 rfl rfl) aRp h1
 obtain⟨x1,rfl,hx1l⟩:=dVe fun r hr=>cEh (hx1.1 r hr)
 refine(bAx (args:=[.w8 x0,.sl (x1.map yO).length (x1.map yO).flatten]) dVy rfl (fun i hi=>?_) ?_).mono fun e W' ⟨he,hw⟩=>⟨_,he,aZq bLx (by kernel_rfl) rfl Try.underlying4 rfl rfl hW' hw⟩
 ·match i,hi with
  |0,_=>exact r0
  |1,_=>exact r1
 ·exact dVt x0 hx1l (by simpa using hx1.2)
theorem journalKeeps_holds:Rows.JournalKeepsSaid:=
 OpenClaim.holds_of_wide 7 Try.f7 rfl rfl rfl rfl rfl rfl rfl ⟨rfl,rfl,rfl,rfl,rfl⟩ rfl rfl rfl rfl rfl (by kernel_rfl) Try.func7 (by kernel_rfl)
  (of_decide_eq_true (by kernel_rfl)) (by unfold Func.isWrapper;first|(rw[J4 (by decide+kernel)];kernel_rfl)|(rw[J3 (by decide+kernel)];exact⟨rfl,rfl⟩))
  (fun os started H enc _=>dVc os started H enc)
end Go.Proofs.Ytojgbdpghlbagaa
